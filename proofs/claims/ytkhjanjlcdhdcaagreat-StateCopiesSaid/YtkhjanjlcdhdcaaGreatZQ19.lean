/-
 Merged: lemmas of this claim.
 Conditions: none.
-/
import Derived.Test.YtkhjanjlcdhdcaaGreatZQ18
import Derived.Test.YtkhjanjlcdhdcaaGreatZQ11
import Derived.Test.YtkhjanjlcdhdcaaGreatZQ0
namespace Go.Proofs.YtkhjanjlcdhdcaaGreat
set_option linter.unusedVariables false
set_option maxRecDepth 20000
set_option maxHeartbeats 8000000
open Go.RowKit Mono Rlp Wd
namespace E
def AcL.Small (N : Nat) (x : AcL) : Prop := x.sl.length ≤ N ∧ x.cd.length ≤ 140737488355328
theorem AcL.Small.mono {N M : Nat} {x : AcL} (h : x.Small N) (hm : N ≤ M) : x.Small M := ⟨LG h.1 hm, h.2⟩
structure RL (A : As) (N : Nat) (l : List AcL) : Prop where
 bd : ∀ x ∈ l, x.Small N
 ord : l.Pairwise fun x y => x.a < y.a
 mem : ∀ x ∈ l, x.Is (A x.a)
 out : ∀ a, a ∉ l.map AcL.a → A a = Ac.zero
theorem AcL.uP (a : List UInt8) : (AcL.none a).Is Ac.zero := ⟨rfl, rfl, rfl, .nil, fun p hp => by simp [AcL.none] at hp, fun k hk => absurd rfl hk⟩
theorem Ic {a b : List UInt8} (h : a < b) : Op.bytesLess a b = true := by rw [zC]; simpa using h
theorem Ie {a b : List UInt8} (h : ¬ a < b) : Op.bytesLess a b = false := by rw [zC]; simpa using h
theorem place (a : List UInt8) : ∀ (l : List AcL), l.Pairwise (fun x y => x.a < y.a) → ∃ l1 l2, (∀ x ∈ l1, x.a < a) ∧ ((∃ x, l = l1 ++ x :: l2 ∧ x.a = a ∧ ∀ y ∈ l2, a < y.a) ∨ (l = l1 ++ l2 ∧ ∀ y ∈ l2, a < y.a))
 | [], _ => ⟨[], [], fun x hx => by simp at hx, .inr ⟨rfl, fun y hy => by simp at hy⟩⟩
 | x :: l, h => by
  obtain ⟨h1, h2⟩ := LY.1 h
  by_cases hlt : x.a < a
  ·
   obtain ⟨l1, l2, h3, h4⟩ := place a l h2
   refine ⟨x :: l1, l2, fun y hy => ?_, ?_⟩
   ·
    rcases KT.1 hy with rfl | hy
    · exact hlt
    · exact h3 y hy
   ·
    rcases h4 with ⟨y, rfl, hy, hz⟩ | ⟨rfl, hz⟩
    · exact .inl ⟨y, rfl, hy, hz⟩
    · exact .inr ⟨rfl, hz⟩
  ·
   by_cases he : x.a = a
   · exact ⟨[], l, fun y hy => by simp at hy, .inl ⟨x, rfl, he, fun y hy => he ▸ h1 y hy⟩⟩
   ·
    refine ⟨[], x :: l, fun y hy => by simp at hy, .inr ⟨rfl, fun y hy => ?_⟩⟩
    have hxa : a < x.a := L9 fun hn => he (NP (NR.1 hn) (NR.1 hlt))
    rcases KT.1 hy with rfl | hy
    · exact hxa
    · exact NU hxa (h1 y hy)
structure H6 (A : As) (N : Nat) (a : List UInt8) (l1 : List AcL) (x : AcL) (l2 : List AcL) : Prop where
 ad : x.a = a
 lo : ∀ y ∈ l1, y.a < a
 hi : ∀ y ∈ l2, a < y.a
 o1 : l1.Pairwise fun x y => x.a < y.a
 o2 : l2.Pairwise fun x y => x.a < y.a
 m1 : ∀ y ∈ l1, y.Is (A y.a)
 m2 : ∀ y ∈ l2, y.Is (A y.a)
 is : x.Is (A a)
 b1 : ∀ y ∈ l1, y.Small N
 b2 : ∀ y ∈ l2, y.Small N
 bx : x.Small N
 out : ∀ b, b ∉ l1.map AcL.a → b ∉ l2.map AcL.a → b ≠ a → A b = Ac.zero
theorem H6.upd {A : As} {N M : Nat} {a : List UInt8} {l1 l2 : List AcL} {x x' : AcL} {y : Ac} (h : H6 A N a l1 x l2) (hx : x'.a = a) (hi : x'.Is y) (hs : x'.Small M) (hm : N ≤ M) : RL (A.upd a y) M (l1 ++ x' :: l2) := by
 refine ⟨fun u hu => ?_, LQ.2 ⟨h.o1, LY.2 ⟨fun z hz => hx ▸ h.hi z hz, h.o2⟩, fun u hu z hz => ?_⟩, fun u hu => ?_, fun b hb => ?_⟩
 ·
  rcases LH.1 hu with hu | hu
  · exact (h.b1 u hu).mono hm
  ·
   rcases KT.1 hu with rfl | hu
   · exact hs
   · exact (h.b2 u hu).mono hm
 ·
  rcases KT.1 hz with rfl | hz
  · exact hx ▸ h.lo u hu
  · exact NU (h.lo u hu) (h.hi z hz)
 ·
  unfold As.upd
  rcases LH.1 hu with hu | hu
  ·
   rw [if_neg fun e => MI a (by have := h.lo u hu; rwa [← e] at this)]
   exact h.m1 u hu
  ·
   rcases KT.1 hu with rfl | hu
   ·
    rw [if_pos hx.symm]
    exact hi
   ·
    rw [if_neg fun e => MI a (by have := h.hi u hu; rwa [← e] at this)]
    exact h.m2 u hu
 ·
  unfold As.upd
  simp only [MH, Lu, LH, KT, not_or] at hb
  rw [if_neg fun e => hb.2.1 (hx.trans e).symm]
  exact h.out b hb.1 hb.2.2 fun e => hb.2.1 (e.trans hx.symm)
theorem rat {g N : Nat} {L k : Value} {n : Int} {A : As} {l : List AcL} (h : RL A N l) (a : List UInt8) (hll : l.length < 1099511627) : FnM 49 [.v (ptr g), .arr 20 a] [rsO g L k n, raA L l] (fun r os' => ∃ L' l1 x l2, H6 A N a l1 x l2 ∧ l1.length + 1 + l2.length ≤ l.length + 1 ∧ r = .val (.v (aH L' ((l1.length : Int).toNat * 55))) ∧ os' = [rsO g L' k n, raA L' (l1 ++ x :: l2)]) := by
 obtain ⟨l1, l2, h1, h2⟩ := place a l h.ord
 have hlo : ∀ j (hj : j < l.length), j < l1.length → Op.bytesLess l[j].a a = true := fun j hj hjl => by
  have e : l[j] = l1[j] := by rcases h2 with ⟨x, rfl, _⟩ | ⟨rfl, _⟩ <;> rw [List.getElem_append_left hjl]
  rw [e]
  exact Ic (h1 _ (LW hjl))
 rcases h2 with ⟨x, rfl, hx, h3⟩ | ⟨rfl, h3⟩
 ·
  have hkk : l1.length < (l1 ++ x :: l2).length := by simp
  have he : (l1 ++ x :: l2)[l1.length].a = a := by rw [NZ (Lj _)]; simpa using hx
  refine FnM.mono (IK (g := g) (L := L) (k := k) (n := n) (l1 ++ x :: l2) a (by omega) l1.length hkk hlo he) ?_
  rintro r _ ⟨rfl, rfl⟩
  have ho := LQ.1 h.ord
  refine ⟨L, l1, x, l2, ⟨hx, h1, h3, ho.1, (LY.1 ho.2.1).2, fun y hy => h.mem y (Ll _ hy), fun y hy => h.mem y (Lp _ (Ld _ hy)), hx ▸ h.mem x (by simp), fun y hy => h.bd y (Ll _ hy), fun y hy => h.bd y (Lp _ (Ld _ hy)), h.bd x (by simp), fun b hb1 hb2 hb => h.out b ?_⟩, by simp; omega, rfl, rfl⟩
  simp only [MH, Lu, LH, KT, not_or]
  exact ⟨hb1, fun e => hb (e.trans hx), hb2⟩
 ·
  refine FnM.mono (FX (g := g) (L := L) (k := k) (n := n) (l1 ++ l2) a hll l1.length (by simp) hlo fun hj => ?_) ?_
  ·
   have hj2 : 0 < l2.length := by simp at hj; exact hj
   have e : (l1 ++ l2)[l1.length] = l2[0] := by rw [NZ (Lj _)]; simp
   rw [e]
   have h4 := h3 _ (LW hj2)
   refine ⟨Ie fun h5 => MI _ (NU h4 h5), ?_⟩
   simp only [bne_iff_ne, ne_eq]
   exact fun e => MI a (by rwa [e] at h4)
  ·
   rintro r _ ⟨L', rfl, rfl⟩
   have ho := LQ.1 h.ord
   have hnl : a ∉ (l1 ++ l2).map AcL.a := fun hm => by
    obtain ⟨y, hy, e⟩ := LD.1 hm
    rcases LH.1 hy with hy | hy
    · exact MI a (by have := h1 y hy; rwa [e] at this)
    · exact MI a (by have := h3 y hy; rwa [e] at this)
   refine ⟨L', l1, AcL.none a, l2, ⟨rfl, h1, h3, ho.1, ho.2.1, fun y hy => h.mem y (Ll _ hy), fun y hy => h.mem y (Lp _ hy), by rw [h.out a hnl]; exact AcL.uP a, fun y hy => h.bd y (Ll _ hy), fun y hy => h.bd y (Lp _ hy), ⟨Lr _, Lr _⟩, fun b hb1 hb2 hb => h.out b ?_⟩, by simp; omega, rfl, by simp⟩
   simp only [MH, LH, not_or]
   exact ⟨hb1, hb2⟩
def RSt (g : Nat) (A : As) (N : Nat) (os : List Obj) : Prop := ∃ L k n l, os = [rsO g L k n, raA L l] ∧ RL A N l ∧ l.length ≤ N
theorem dZ (l1 l2 : List AcL) (x x' : AcL) : ((l1 ++ x :: l2).map ak).set l1.length (ak x') = (l1 ++ x' :: l2).map ak := by simp
theorem iZ (l1 l2 : List AcL) (x : AcL) : ((l1 ++ x :: l2).map ak)[l1.length]? = some (ak x) := by simp
variable {g N : Nat} {A : As} {os : List Obj} {a : List UInt8}
theorem RSt.of {L k : Value} {n : Int} {l1 l2 : List AcL} {x x' : AcL} {y : Ac} (h : H6 A N a l1 x l2) (hl : l1.length + 1 + l2.length ≤ N + 1) (hx : x'.a = a) (hs : x'.Small (N + 1)) (hi : x'.Is y) : RSt g (A.upd a y) (N + 1) [rsO g L k n, raA L (l1 ++ x' :: l2)] := ⟨L, k, n, _, rfl, h.upd hx hi hs (Nat.le_succ _), by simp; omega⟩
theorem fK (h : RSt g A N os) (hN : N ≤ 1000000) (w : List UInt8) : FnM 22 [.v (ptr g), .arr 20 a, .arr 32 w] os (fun r os' => r = .tpl [] ∧ RSt g (A.upd a {A a with w := w}) (N + 1) os') := by
 obtain ⟨L, k, n, l, rfl, hR, hlN⟩ := h
 have h1 := rat (g := g) (L := L) (k := k) (n := n) hR a (by omega)
 refine FnM.walk 12 Tryz.func22 rfl Tryz.ntmps22 (by simp) fun X => ?_
 repeat (refine stp ?_; intros)
 refine EC.le (Le.pick [2, 3, 0, 1] [_, _, _, _] rfl (by decide) rfl) ?_
 refine EC.bI 4 [0, 1, 3] [2] [_, _] _ (by kernel_rfl) (by kernel_rfl) rfl ?_
 simp only [aA, KU, KY, KN, KP]
 repeat (refine sth ?_; intros)
 refine EM.nil ?_
 repeat (first | rw [KD] | rw [KE])
 refine CH.bP (rest := []) h1 (k := ?_)
 rintro _ _ ⟨L', l1, x, l2, ha, hll, rfl, rfl⟩
 try simp only [St.put]
 repeat (first | rw [KD] | rw [KE])
 refine CH.nil ?_
 try simp only [KF, KH]
 have hd := iZ l1 l2 x
 obtain ⟨xa, xn, xw, xc, xs⟩ := x
 repeat
  (first
   | (apply bn (k := l1.length) (off := 21) (d := ak ⟨xa, xn, xw, xc, xs⟩) (d'' := ak ⟨xa, xn, w, xc, xs⟩); rfl; exact .s .z; exact ⟨by simp, hd⟩; iterate 4 rfl)
   | (refine stp ?_; intros))
 have hs := ha.is
 exact EK.cO [rsO g L' k n, .row L' 51 55 (((l1 ++ ⟨xa, xn, xw, xc, xs⟩ :: l2).map ak).set l1.length (ak ⟨xa, xn, w, xc, xs⟩))] rfl (by (repeat first | exact KO _ | apply List.Sublist.cons_cons | apply List.Sublist.cons)) ⟨rfl, by rw [dZ]; exact RSt.of ha (by omega) ha.ad (ha.bx.mono (Nat.le_succ _)) ⟨hs.n, rfl, hs.cd, hs.ord, hs.val, hs.all⟩⟩
theorem oL (h : RSt g A N os) (hN : N ≤ 1000000) (v : Int) : FnM 21 [.v (ptr g), .arr 20 a, .v (.int .i64 v)] os (fun r os' => r = .tpl [] ∧ RSt g (A.upd a {A a with n := if v > 0 then v else 0}) (N + 1) os') := by
 obtain ⟨L, k, n, l, rfl, hR, hlN⟩ := h
 have h1 := rat (g := g) (L := L) (k := k) (n := n) hR a (by omega)
 refine FnM.walk 14 Tryz.func21 rfl Tryz.ntmps21 (by simp) fun X => ?_
 by_cases hv : v < 0
 ·
  rw [show (if v > 0 then v else 0) = 0 by rw [if_neg (by omega)]]
  repeat
   (first
    | (apply lH h1 [_] rfl rfl (aj.refl _ _) (by intro _ _; simp [go_sem]) rfl rfl; rintro _ _ ⟨L', l1, x, l2, ha, hll, rfl, rfl⟩; simp only [KD, KE]; have hd := iZ l1 l2 x; obtain ⟨xa, xn, xw, xc, xs⟩ := x)
    | (apply bn (k := l1.length) (off := 20) (d := ak ⟨xa, xn, xw, xc, xs⟩) (d'' := ak ⟨xa, 0, xw, xc, xs⟩); rfl; exact .s (.s .z); exact ⟨by simp, hd⟩; iterate 4 rfl)
    | (refine stp ?_; intros))
  have hs := ha.is
  exact EK.cO [rsO g L' k n, .row L' 51 55 (((l1 ++ ⟨xa, xn, xw, xc, xs⟩ :: l2).map ak).set l1.length (ak ⟨xa, 0, xw, xc, xs⟩))] rfl (by (repeat first | exact KO _ | apply List.Sublist.cons_cons | apply List.Sublist.cons)) ⟨rfl, by rw [dZ]; exact RSt.of ha (by omega) ha.ad (ha.bx.mono (Nat.le_succ _)) ⟨rfl, hs.w, hs.cd, hs.ord, hs.val, hs.all⟩⟩
 ·
  rw [show (if v > 0 then v else 0) = v by split <;> omega]
  repeat
   (first
    | (apply lH h1 [_] rfl rfl (aj.refl _ _) (by intro _ _; simp [go_sem]) rfl rfl; rintro _ _ ⟨L', l1, x, l2, ha, hll, rfl, rfl⟩; simp only [KD, KE]; have hd := iZ l1 l2 x; obtain ⟨xa, xn, xw, xc, xs⟩ := x)
    | (apply bn (k := l1.length) (off := 20) (d := ak ⟨xa, xn, xw, xc, xs⟩) (d'' := ak ⟨xa, v, xw, xc, xs⟩); rfl; exact .s (.s .z); exact ⟨by simp, hd⟩; iterate 4 rfl)
    | (refine stp ?_; intros))
  have hs := ha.is
  exact EK.cO [rsO g L' k n, .row L' 51 55 (((l1 ++ ⟨xa, xn, xw, xc, xs⟩ :: l2).map ak).set l1.length (ak ⟨xa, v, xw, xc, xs⟩))] rfl (by (repeat first | exact KO _ | apply List.Sublist.cons_cons | apply List.Sublist.cons)) ⟨rfl, by rw [dZ]; exact RSt.of ha (by omega) ha.ad (ha.bx.mono (Nat.le_succ _)) ⟨rfl, hs.w, hs.cd, hs.ord, hs.val, hs.all⟩⟩
theorem qp (h : RSt g A N os) (hN : N ≤ 1000000) (v : List UInt8) (hv : v.length ≤ 140737488355328) : FnM 23 [.v (ptr g), .arr 20 a, .bs v] os (fun r os' => r = .tpl [] ∧ RSt g (A.upd a {A a with cd := v}) (N + 1) os') := by
 obtain ⟨L, k, n, l, rfl, hR, hlN⟩ := h
 have h1 := rat (g := g) (L := L) (k := k) (n := n) hR a (by omega)
 refine FnM.walk 13 Tryz.func23 rfl Tryz.ntmps23 (by simp) fun X => ?_
 repeat
  (first
   | (apply lH h1 [_] rfl rfl (aj.refl _ _) (by intro _ _; simp [go_sem]) rfl rfl; rintro _ _ ⟨L', l1, x, l2, ha, hll, rfl, rfl⟩; simp only [KD, KE]; have hd := iZ l1 l2 x; obtain ⟨xa, xn, xw, xc, xs⟩ := x)
   | (apply vN hv; iterate 3 rfl)
   | (apply bn (k := l1.length) (off := 53) (d := ak ⟨xa, xn, xw, xc, xs⟩) (d'' := ak ⟨xa, xn, xw, v, xs⟩); rfl; exact .s (.s .z); exact ⟨by simp, hd⟩; iterate 4 rfl)
   | (refine stp ?_; intros))
 have hs := ha.is
 exact EK.cO [rsO g L' k n, .row L' 51 55 (((l1 ++ ⟨xa, xn, xw, xc, xs⟩ :: l2).map ak).set l1.length (ak ⟨xa, xn, xw, v, xs⟩))] rfl (by (repeat first | exact KO _ | apply List.Sublist.cons_cons | apply List.Sublist.cons)) ⟨rfl, by rw [dZ]; exact RSt.of ha (by omega) ha.ad ⟨LG ha.bx.1 (Nat.le_succ _), hv⟩ ⟨hs.n, hs.w, rfl, hs.ord, hs.val, hs.all⟩⟩
theorem zO (h : RSt g A N os) (hN : N ≤ 1000000) : FnM 20 [.v (ptr g), .arr 20 a] os (fun r os' => r = .tpl [] ∧ RSt g (A.upd a Ac.zero) (N + 1) os') := by
 obtain ⟨L, k, n, l, rfl, hR, hlN⟩ := h
 have h1 := rat (g := g) (L := L) (k := k) (n := n) hR a (by omega)
 refine FnM.walk 10 Tryz.func20 rfl Tryz.ntmps20 (by simp) fun X => ?_
 repeat (refine stp ?_; intros)
 refine EC.le (Le.pick [1, 2, 0] [_, _, _] rfl (by decide) rfl) ?_
 refine EC.bI 5 [0, 1, 3, 4] [2] [_, _] _ (by kernel_rfl) (by kernel_rfl) rfl ?_
 simp only [aA, KU, KY, KN, KP]
 repeat (refine sth ?_; intros)
 refine EM.nil ?_
 repeat (first | rw [KD] | rw [KE])
 refine CH.bP (rest := []) h1 (k := ?_)
 rintro _ _ ⟨L', l1, x, l2, ha, hll, rfl, rfl⟩
 try simp only [St.put]
 repeat (first | rw [KD] | rw [KE])
 refine CH.nil ?_
 try simp only [KF, KH]
 have hd := iZ l1 l2 x
 repeat
  (first
   | (apply bn (k := l1.length) (off := 0) (d := ak x) (d'' := .tup [.arr 20 a, .v (.int .i64 0), .arr 32 zero32, .v bF, .v bF]); rfl; exact .s .z; exact ⟨by simp, hd⟩; iterate 4 rfl)
   | (refine stp ?_; intros))
 have hR2 : ∀ F : List (Value × D), aj F (((l1 ++ x :: l2).map ak).set l1.length (.tup [.arr 20 a, .v (.int .i64 0), .arr 32 zero32, .v bF, .v bF])) ((l1 ++ AcL.none a :: l2).map ak) := fun F => by
  rw [show (((l1 ++ x :: l2).map ak).set l1.length (D.tup [.arr 20 a, .v (.int .i64 0), .arr 32 zero32, .v bF, .v bF])) = l1.map ak ++ ([D.tup [.arr 20 a, .v (.int .i64 0), .arr 32 zero32, .v bF, .v bF]] ++ l2.map ak) by simp, show (l1 ++ AcL.none a :: l2).map ak = l1.map ak ++ ([ak (AcL.none a)] ++ l2.map ak) by simp]
  exact RL.append (aj.refl _ _) (RL.append (RL.cons (Rf.tup (RL.cons Rf.same (RL.cons Rf.same (RL.cons Rf.same (RL.cons Rf.bs0 (RL.cons Rf.sl0 RL.nil)))))) RL.nil) (aj.refl _ _))
 refine EK.le (Le.pick [1, 0, 2] [_, _, _] rfl (by decide) rfl) ?_
 refine EK.le (Le.Dj (hR2 _)) ?_
 refine EK.le (Le.pick [1, 0, 2] [_, _, _] rfl (by decide) rfl) ?_
 exact EK.cO [rsO g L' k n, raA L' (l1 ++ AcL.none a :: l2)] rfl (by (repeat first | exact KO _ | apply List.Sublist.cons_cons | apply List.Sublist.cons)) ⟨rfl, RSt.of ha (by omega) rfl ⟨Lr _, Lr _⟩ (AcL.uP a)⟩
end E
end Go.Proofs.YtkhjanjlcdhdcaaGreat
namespace Go.Proofs.YtkhjanjlcdhdcaaGreat
set_option linter.unusedVariables false
set_option maxRecDepth 20000
set_option maxHeartbeats 16000000
open Go.RowKit Mono Rlp Wd
namespace E
theorem uX (l m : List UInt8) : Fn 50 [.arr 32 l, .arr 32 m] (· = .val (.v (.bool (Op.bytesLess l m)))) := by
 have hb := lF l m
 refine Fn.walk 10 Tryz.func50 rfl Tryz.ntmps50 (by simp) fun X => ?_
 repeat (refine stp ?_; intros)
 refine EC.draw 5 (by kernel_rfl) ?_
 simp only [KG, KI, KF, KH]
 repeat
  (first
   | (apply nM; exact FM; iterate 3 rfl) | (apply je; rfl; exact I0; iterate 4 rfl) | (apply je; rfl; exact I1; iterate 4 rfl)
   | (refine dP (hrun := hb) (kk := ?_)) | (refine sth ?_; intros))
 repeat (refine stp ?_; intros)
 exact EK.iU rfl rfl rfl
theorem Dq (q : List UInt8) : ∀ (l : List (List UInt8 × List UInt8)), l.Pairwise (fun x y => x.1 < y.1) → ∃ l1 l2, (∀ x ∈ l1, x.1 < q) ∧ (∀ y ∈ l2, q < y.1) ∧ ((∃ v, l = l1 ++ (q, v) :: l2) ∨ l = l1 ++ l2)
 | [], _ => ⟨[], [], fun x hx => by simp at hx, fun y hy => by simp at hy, .inr rfl⟩
 | x :: l, h => by
  obtain ⟨h1, h2⟩ := LY.1 h
  by_cases hlt : x.1 < q
  ·
   obtain ⟨l1, l2, h3, h4, h5⟩ := Dq q l h2
   refine ⟨x :: l1, l2, fun y hy => ?_, h4, ?_⟩
   ·
    rcases KT.1 hy with rfl | hy
    · exact hlt
    · exact h3 y hy
   ·
    rcases h5 with ⟨y, rfl⟩ | rfl
    · exact .inl ⟨y, rfl⟩
    · exact .inr rfl
  ·
   by_cases he : x.1 = q
   · exact ⟨[], l, fun y hy => by simp at hy, fun y hy => he ▸ h1 y hy, .inl ⟨x.2, by rw [← he]; rfl⟩⟩
   ·
    have hxa : q < x.1 := L9 fun hn => he (NP (NR.1 hn) (NR.1 hlt))
    refine ⟨[], x :: l, fun y hy => by simp at hy, fun y hy => ?_, .inr rfl⟩
    rcases KT.1 hy with rfl | hy
    · exact hxa
    · exact NU hxa (h1 y hy)
def eH (q v : List UInt8) : List (List UInt8 × List UInt8) := if v = zero32 then [] else [(q, v)]
theorem AcL.Is.put {x : AcL} {y : Ac} (h : x.Is y) {q v : List UInt8} {l1 l2 : List (List UInt8 × List UInt8)} (h1 : ∀ x ∈ l1, x.1 < q) (h2 : ∀ y ∈ l2, q < y.1) (h3 : (∃ v, x.sl = l1 ++ (q, v) :: l2) ∨ x.sl = l1 ++ l2) : ({x with sl := l1 ++ eH q v ++ l2} : AcL).Is (y.slot q v) := by
 have hm : ∀ p, p ∈ l1 ∨ p ∈ l2 → p ∈ x.sl := fun p hp => by
  rcases h3 with ⟨u, e⟩ | e <;> rw [e] <;> simp only [LH, KT]
  · exact hp.imp id .inr
  · exact hp
 have ho : l1.Pairwise (fun x y => x.1 < y.1) ∧ l2.Pairwise (fun x y => x.1 < y.1) := by
  have := h.ord
  rcases h3 with ⟨u, e⟩ | e <;> rw [e] at this
  · exact ⟨(LQ.1 this).1, (LY.1 (LQ.1 this).2.1).2⟩
  · exact ⟨(LQ.1 this).1, (LQ.1 this).2.1⟩
 have hp1 : ∀ p ∈ eH q v, p = (q, v) ∧ v ≠ zero32 := fun p hp => by
  unfold eH at hp
  split at hp
  · simp at hp
  ·
   rename_i hv
   exact ⟨by simpa using hp, hv⟩
 have hne : ∀ p, p ∈ l1 ∨ p ∈ l2 → ¬ q = p.1 := fun p hp e => by
  rcases hp with hp | hp
  ·
   have := h1 p hp
   rw [e] at this
   exact MI _ this
  ·
   have := h2 p hp
   rw [e] at this
   exact MI _ this
 refine ⟨h.n, h.w, h.cd, ?_, fun p hp => ?_, fun k hk => ?_⟩
 ·
  refine LQ.2 ⟨LQ.2 ⟨ho.1, ?_, fun u hu z hz => ?_⟩, ho.2, fun u hu z hz => ?_⟩
  ·
   unfold eH
   split
   · exact .nil
   · exact List.pairwise_singleton _ _
  ·
   rw [(hp1 z hz).1]
   exact h1 u hu
  ·
   rcases LH.1 hu with hu | hu
   · exact NU (h1 u hu) (h2 z hz)
   ·
    rw [(hp1 u hu).1]
    exact h2 z hz
 ·
  dsimp only at hp
  unfold Ac.slot
  dsimp only
  by_cases hq : p ∈ l1 ∨ p ∈ l2
  ·
   rw [if_neg (hne p hq)]
   exact h.val p (hm p hq)
  ·
   have : p ∈ eH q v := by
    simp only [LH] at hp
    rcases hp with (hp | hp) | hp
    · exact absurd (.inl hp) hq
    · exact hp
    · exact absurd (.inr hp) hq
   obtain ⟨rfl, hv⟩ := hp1 p this
   rw [if_pos rfl]
   exact ⟨rfl, hv⟩
 ·
  unfold Ac.slot at hk
  dsimp only at hk ⊢
  by_cases hqk : q = k
  ·
   rw [if_pos hqk] at hk
   exact ⟨(q, v), by unfold eH; rw [if_neg hk]; simp, hqk⟩
  ·
   rw [if_neg hqk] at hk
   obtain ⟨p, hp, e⟩ := h.all k hk
   refine ⟨p, ?_, e⟩
   rcases h3 with ⟨u, e2⟩ | e2 <;> rw [e2] at hp <;> simp only [LH, KT] at hp ⊢
   ·
    rcases hp with hp | rfl | hp
    · exact .inl (.inl hp)
    · exact absurd e hqk
    · exact .inr hp
   · exact hp.imp .inl id
variable {g N : Nat} {A : As} {os : List Obj} {a : List UInt8}
theorem qo (h : RSt g A N os) (hN : N ≤ 1000000) (q v : List UInt8) : FnM 24 [.v (ptr g), .arr 20 a, .arr 32 q, .arr 32 v] os (fun r os' => r = .tpl [] ∧ RSt g (A.upd a ((A a).slot q v)) (N + 1) os') := by
 obtain ⟨L, k, n, l, rfl, hR, hlN⟩ := h
 have h1 := rat (g := g) (L := L) (k := k) (n := n) hR a (by omega)
 refine FnM.walk 85 Tryz.func24 rfl Tryz.ntmps24 (by simp) fun X => ?_
 repeat
  (first
   | (apply lH h1 [_, _, _] rfl rfl (aj.refl _ _) (by intro _ _; simp [go_sem]) rfl rfl; rintro _ _ ⟨L', l1, x, l2, ha, hll, rfl, rfl⟩; simp only [KD, KE])
   | (refine stp ?_; intros))
 rename_i g5 g6 g7
 obtain ⟨s1, s2, hs1, hs2, h3⟩ := Dq q x.sl ha.is.ord
 have hd0 := iZ l1 l2 x
 have hxl : s1.length + s2.length ≤ x.sl.length := by rcases h3 with ⟨u, e⟩ | e <;> rw [e] <;> simp <;> omega
 have hxN := ha.bx.1
 have hml : (x.sl.map aG).length = x.sl.length := KR _
 have hg1 : ∀ i (hi : i < s1.length), x.sl[i]? = some s1[i] := fun i hi => by rcases h3 with ⟨u, e⟩ | e <;> rw [e, MG hi, KJ hi]
 have hput := ha.is.put (v := v) hs1 hs2 h3
 obtain ⟨xa, xn, xw, xc, xs⟩ := x
 dsimp only at hxl hxN hml hg1 h3 hput
 unfold ak at hd0
 dsimp only at hd0
 refine EC.loop (ι := {i : Nat // i ≤ s1.length})
  (fun i => ⟨[(9, .val (.v (.int .i64 (i.1 : Int)))), (8, .val (.v (aH L' ((l1.length : Int).toNat * 55)))), (7, .val (.v (.pointer (some ⟨g7, 0, none⟩)))), (6, .val (.v (.pointer (some ⟨g6, 0, none⟩))))], [.var g7 34 (.arr 32 v), .var g6 34 (.arr 32 q), .var g5 32 (.arr 20 a), rsO g L' k n, raA L' (l1 ++ ⟨xa, xn, xw, xc, xs⟩ :: l2)], []⟩)
  (fun i => s1.length - i.1) ⟨0, Lr _⟩ ?_ ?_
 · exact Le.kp
 rintro ⟨i, hi⟩
 dsimp only at hi ⊢
 by_cases hlt : i < s1.length
 ·
  have hil : i < xs.length := by omega
  have hd : (xs.map aG)[i]? = some (.tup [.arr 32 s1[i].1, .arr 32 s1[i].2]) := by rw [List.getElem?_map, hg1 i hlt]; rfl
  have hb := uX s1[i].1 q
  rw [Ic (hs1 _ (LW hlt))] at hb
  repeat (refine stp ?_; intros)
  refine EC.draw 19 (by kernel_rfl) ?_
  simp only [KG, KI, KF, KH]
  repeat
   (first
    | (apply dB (k := l1.length) (off := 54) (d := .tup [.arr 20 xa, .v (.int .i64 xn), .arr 32 xw, .bs xc, .sl 64 (xs.map aG)]); rfl; exact I4; exact ⟨by simp, hd0⟩; iterate 4 rfl)
    | (refine aW (hb) (kk := ?_)) | (refine sth ?_; intros))
  repeat (refine stp ?_; intros)
  refine EK.again ⟨i + 1, hlt⟩ (by dsimp only; omega) ?_
  simp only [LM]
  exact Le.kp
 ·
  have hiE : i = s1.length := by omega
  subst hiE
  have hpv : eH q v = if v = zero32 then [] else [(q, v)] := rfl
  have hcase : (∃ u, xs = s1 ++ (q, u) :: s2) ∨ (∃ p s3, s2 = p :: s3 ∧ xs = s1 ++ p :: s3 ∧ q < p.1) ∨ (s2 = [] ∧ s1 = xs) := by
   rcases h3 with h3 | h3
   · exact .inl h3
   ·
    cases s2 with
    | nil => exact .inr (.inr ⟨rfl, by simpa using h3.symm⟩)
    | cons p s3 => exact .inr (.inl ⟨p, s3, rfl, h3, hs2 p KQ⟩)
  rcases hcase with ⟨u, rfl⟩ | ⟨p, s3, rfl, rfl, hqp⟩ | ⟨rfl, rfl⟩
  ·
   have hd : ((s1 ++ (q, u) :: s2).map aG)[s1.length]? = some (.tup [.arr 32 q, .arr 32 u]) := by simp [aG]
   have hb := uX q q
   rw [zB] at hb
   have he := (dA q q).1
   rw [beq_self_eq_true] at he
   have hxl2 : (s1 ++ (q, u) :: s2).length = s1.length + 1 + s2.length := by simp; omega
   have hT : List.take (↑s1.length : Int).toNat (List.map aG (s1 ++ (q, u) :: s2)) = s1.map aG := by rw [L6, ← List.map_take]; simp
   have hDr : List.drop (↑s1.length + 1 : Int).toNat (List.map aG (s1 ++ (q, u) :: s2)) = (s2).map aG := by rw [show (↑s1.length + 1 : Int).toNat = s1.length + 1 by omega, ← List.map_drop]; simp [List.drop_append]
   repeat (refine stp ?_; intros)
   refine EC.draw 19 (by kernel_rfl) ?_
   simp only [KG, KI, KF, KH]
   repeat
    (first
     | (apply dB (k := l1.length) (off := 54) (d := .tup [.arr 20 xa, .v (.int .i64 xn), .arr 32 xw, .bs xc, .sl 64 ((s1 ++ (q, u) :: s2).map aG)]); rfl; exact I4; exact ⟨by simp, hd0⟩; iterate 4 rfl)
     | (refine aW (hb) (kk := ?_)) | (refine sth ?_; intros))
   repeat (refine stp ?_; intros)
   refine EC.draw 19 (by kernel_rfl) ?_
   simp only [KG, KI, KF, KH]
   repeat
    (first
     | (apply dB (k := l1.length) (off := 54) (d := .tup [.arr 20 xa, .v (.int .i64 xn), .arr 32 xw, .bs xc, .sl 64 ((s1 ++ (q, u) :: s2).map aG)]); rfl; exact I4; exact ⟨by simp, hd0⟩; iterate 4 rfl)
     | (refine dP (hrun := he) (kk := ?_)) | (refine sth ?_; intros))
   repeat
    (first
     | (apply aU (k := l1.length) (off := 54) (d := .tup [.arr 20 xa, .v (.int .i64 xn), .arr 32 xw, .bs xc, .sl 64 ((s1 ++ (q, u) :: s2).map aG)]); rfl; exact I4; exact ⟨by simp, hd0⟩; iterate 4 rfl)
     | (refine stp ?_; intros))
   refine EL.le (Le.row 63 64) ?_
   dsimp only
   by_cases hv : v = zero32
   ·
    have hz := (dA v zero32).2
    rw [show (v != zero32) = false by simp [hv]] at hz
    repeat
     (first
      | (apply oz; (iterate 3 rfl); exact ⟨by omega, by rw [hml, hxl2, L6]; omega⟩; iterate 2 rfl)
      | (apply fZ; (iterate 3 rfl); exact ⟨by omega, by rw [hml, hxl2]; omega⟩; iterate 2 rfl)
      | (apply aU (k := l1.length) (off := 54) (d := .tup [.arr 20 xa, .v (.int .i64 xn), .arr 32 xw, .bs xc, .sl 64 ((s1 ++ (q, u) :: s2).map aG)]); rfl; exact I5; exact ⟨by simp, hd0⟩; iterate 4 rfl)
      | (refine bM (hrun := hz) (kk := ?_)) | (refine stp ?_; intros))
    refine EL.le (Le.freeze (pre := []) rfl) ?_
    refine EL.le (Le.refine (t := 82) rfl (Rf.fact KQ rfl)) ?_
    have hp : eH q v = [] := by rw [hpv, if_pos hv]
    rw [hT, hDr, show [] ++ s1.map aG ++ (s2).map aG = (s1 ++ eH q v ++ s2).map aG by rw [hp]; simp]
    repeat
     (first
      | (apply bn (k := l1.length) (off := 54) (d := .tup [.arr 20 xa, .v (.int .i64 xn), .arr 32 xw, .bs xc, .sl 64 ((s1 ++ (q, u) :: s2).map aG)]) (d'' := .tup [.arr 20 xa, .v (.int .i64 xn), .arr 32 xw, .bs xc, .sl 64 ((s1 ++ eH q v ++ s2).map aG)]); rfl; exact .s (.s (.s (.s .z))); exact ⟨by simp, hd0⟩; iterate 4 rfl)
      | apply EL.nil)
    exact EK.cO [rsO g L' k n, .row L' 51 55 (((l1 ++ ⟨xa, xn, xw, xc, (s1 ++ (q, u) :: s2)⟩ :: l2).map ak).set l1.length (ak ⟨xa, xn, xw, xc, s1 ++ eH q v ++ s2⟩))] rfl (by (repeat first | exact KO _ | apply List.Sublist.cons_cons | apply List.Sublist.cons)) ⟨rfl, by rw [dZ]; exact RSt.of ha (by omega) ha.ad ⟨by dsimp only; rw [hp]; simp; omega, ha.bx.2⟩ hput⟩
   ·
    have hz := (dA v zero32).2
    rw [show (v != zero32) = true by simp [hv]] at hz
    repeat
     (first
      | (apply oz; (iterate 3 rfl); exact ⟨by omega, by rw [hml, hxl2, L6]; omega⟩; iterate 2 rfl)
      | (apply fZ; (iterate 3 rfl); exact ⟨by omega, by rw [hml, hxl2]; omega⟩; iterate 2 rfl)
      | (apply aU (k := l1.length) (off := 54) (d := .tup [.arr 20 xa, .v (.int .i64 xn), .arr 32 xw, .bs xc, .sl 64 ((s1 ++ (q, u) :: s2).map aG)]); rfl; exact I5; exact ⟨by simp, hd0⟩; iterate 4 rfl)
      | (refine bM (hrun := hz) (kk := ?_)) | (refine stp ?_; intros))
    refine EL.le (Le.freeze (pre := []) rfl) ?_
    refine EL.le (Le.refine (t := 82) rfl (Rf.fact KQ rfl)) ?_
    have hp : eH q v = [(q, v)] := by rw [hpv, if_neg hv]
    rw [hT, hDr, show [] ++ s1.map aG ++ [D.tup [.arr 32 q, .arr 32 v]] ++ (s2).map aG = (s1 ++ eH q v ++ s2).map aG by rw [hp]; simp [aG]]
    repeat
     (first
      | (apply bn (k := l1.length) (off := 54) (d := .tup [.arr 20 xa, .v (.int .i64 xn), .arr 32 xw, .bs xc, .sl 64 ((s1 ++ (q, u) :: s2).map aG)]) (d'' := .tup [.arr 20 xa, .v (.int .i64 xn), .arr 32 xw, .bs xc, .sl 64 ((s1 ++ eH q v ++ s2).map aG)]); rfl; exact .s (.s (.s (.s .z))); exact ⟨by simp, hd0⟩; iterate 4 rfl)
      | apply EL.nil)
    exact EK.cO [rsO g L' k n, .row L' 51 55 (((l1 ++ ⟨xa, xn, xw, xc, (s1 ++ (q, u) :: s2)⟩ :: l2).map ak).set l1.length (ak ⟨xa, xn, xw, xc, s1 ++ eH q v ++ s2⟩))] rfl (by (repeat first | exact KO _ | apply List.Sublist.cons_cons | apply List.Sublist.cons)) ⟨rfl, by rw [dZ]; exact RSt.of ha (by omega) ha.ad ⟨by dsimp only; rw [hp]; simp; omega, ha.bx.2⟩ hput⟩
  ·
   have hd : ((s1 ++ p :: s3).map aG)[s1.length]? = some (.tup [.arr 32 p.1, .arr 32 p.2]) := by simp [aG]
   have hb := uX p.1 q
   rw [Ie (fun h => MI _ (NU h hqp))] at hb
   have he := (dA p.1 q).1
   rw [show (p.1 == q) = false by simp only [beq_eq_false_iff_ne, ne_eq]; exact fun e => MI q (by rwa [e] at hqp)] at he
   have hxl2 : (s1 ++ p :: s3).length = s1.length + 1 + s3.length := by simp; omega
   have hT : List.take (↑s1.length : Int).toNat (List.map aG (s1 ++ p :: s3)) = s1.map aG := by rw [L6, ← List.map_take]; simp
   have hDr : List.drop (↑s1.length : Int).toNat (List.map aG (s1 ++ p :: s3)) = ((p :: s3)).map aG := by rw [show (↑s1.length : Int).toNat = s1.length by omega, ← List.map_drop]; simp
   repeat (refine stp ?_; intros)
   refine EC.draw 19 (by kernel_rfl) ?_
   simp only [KG, KI, KF, KH]
   repeat
    (first
     | (apply dB (k := l1.length) (off := 54) (d := .tup [.arr 20 xa, .v (.int .i64 xn), .arr 32 xw, .bs xc, .sl 64 ((s1 ++ p :: s3).map aG)]); rfl; exact I4; exact ⟨by simp, hd0⟩; iterate 4 rfl)
     | (refine aW (hb) (kk := ?_)) | (refine sth ?_; intros))
   repeat (refine stp ?_; intros)
   refine EC.draw 19 (by kernel_rfl) ?_
   simp only [KG, KI, KF, KH]
   repeat
    (first
     | (apply dB (k := l1.length) (off := 54) (d := .tup [.arr 20 xa, .v (.int .i64 xn), .arr 32 xw, .bs xc, .sl 64 ((s1 ++ p :: s3).map aG)]); rfl; exact I4; exact ⟨by simp, hd0⟩; iterate 4 rfl)
     | (refine dP (hrun := he) (kk := ?_)) | (refine sth ?_; intros))
   repeat
    (first
     | (apply aU (k := l1.length) (off := 54) (d := .tup [.arr 20 xa, .v (.int .i64 xn), .arr 32 xw, .bs xc, .sl 64 ((s1 ++ p :: s3).map aG)]); rfl; exact I4; exact ⟨by simp, hd0⟩; iterate 4 rfl)
     | (refine stp ?_; intros))
   refine EL.le (Le.row 63 64) ?_
   dsimp only
   by_cases hv : v = zero32
   ·
    have hz := (dA v zero32).2
    rw [show (v != zero32) = false by simp [hv]] at hz
    repeat
     (first
      | (apply oz; (iterate 3 rfl); exact ⟨by omega, by rw [hml, hxl2, L6]; omega⟩; iterate 2 rfl)
      | (apply fZ; (iterate 3 rfl); exact ⟨by omega, by rw [hml, hxl2]; omega⟩; iterate 2 rfl)
      | (apply aU (k := l1.length) (off := 54) (d := .tup [.arr 20 xa, .v (.int .i64 xn), .arr 32 xw, .bs xc, .sl 64 ((s1 ++ p :: s3).map aG)]); rfl; exact I5; exact ⟨by simp, hd0⟩; iterate 4 rfl)
      | (refine bM (hrun := hz) (kk := ?_)) | (refine stp ?_; intros))
    refine EL.le (Le.freeze (pre := []) rfl) ?_
    refine EL.le (Le.refine (t := 82) rfl (Rf.fact KQ rfl)) ?_
    have hp : eH q v = [] := by rw [hpv, if_pos hv]
    rw [hT, hDr, show [] ++ s1.map aG ++ ((p :: s3)).map aG = (s1 ++ eH q v ++ (p :: s3)).map aG by rw [hp]; simp]
    repeat
     (first
      | (apply bn (k := l1.length) (off := 54) (d := .tup [.arr 20 xa, .v (.int .i64 xn), .arr 32 xw, .bs xc, .sl 64 ((s1 ++ p :: s3).map aG)]) (d'' := .tup [.arr 20 xa, .v (.int .i64 xn), .arr 32 xw, .bs xc, .sl 64 ((s1 ++ eH q v ++ (p :: s3)).map aG)]); rfl; exact .s (.s (.s (.s .z))); exact ⟨by simp, hd0⟩; iterate 4 rfl)
      | apply EL.nil)
    exact EK.cO [rsO g L' k n, .row L' 51 55 (((l1 ++ ⟨xa, xn, xw, xc, (s1 ++ p :: s3)⟩ :: l2).map ak).set l1.length (ak ⟨xa, xn, xw, xc, s1 ++ eH q v ++ (p :: s3)⟩))] rfl (by (repeat first | exact KO _ | apply List.Sublist.cons_cons | apply List.Sublist.cons)) ⟨rfl, by rw [dZ]; exact RSt.of ha (by omega) ha.ad ⟨by dsimp only; rw [hp]; simp; omega, ha.bx.2⟩ hput⟩
   ·
    have hz := (dA v zero32).2
    rw [show (v != zero32) = true by simp [hv]] at hz
    repeat
     (first
      | (apply oz; (iterate 3 rfl); exact ⟨by omega, by rw [hml, hxl2, L6]; omega⟩; iterate 2 rfl)
      | (apply fZ; (iterate 3 rfl); exact ⟨by omega, by rw [hml, hxl2]; omega⟩; iterate 2 rfl)
      | (apply aU (k := l1.length) (off := 54) (d := .tup [.arr 20 xa, .v (.int .i64 xn), .arr 32 xw, .bs xc, .sl 64 ((s1 ++ p :: s3).map aG)]); rfl; exact I5; exact ⟨by simp, hd0⟩; iterate 4 rfl)
      | (refine bM (hrun := hz) (kk := ?_)) | (refine stp ?_; intros))
    refine EL.le (Le.freeze (pre := []) rfl) ?_
    refine EL.le (Le.refine (t := 82) rfl (Rf.fact KQ rfl)) ?_
    have hp : eH q v = [(q, v)] := by rw [hpv, if_neg hv]
    rw [hT, hDr, show [] ++ s1.map aG ++ [D.tup [.arr 32 q, .arr 32 v]] ++ ((p :: s3)).map aG = (s1 ++ eH q v ++ (p :: s3)).map aG by rw [hp]; simp [aG]]
    repeat
     (first
      | (apply bn (k := l1.length) (off := 54) (d := .tup [.arr 20 xa, .v (.int .i64 xn), .arr 32 xw, .bs xc, .sl 64 ((s1 ++ p :: s3).map aG)]) (d'' := .tup [.arr 20 xa, .v (.int .i64 xn), .arr 32 xw, .bs xc, .sl 64 ((s1 ++ eH q v ++ (p :: s3)).map aG)]); rfl; exact .s (.s (.s (.s .z))); exact ⟨by simp, hd0⟩; iterate 4 rfl)
      | apply EL.nil)
    exact EK.cO [rsO g L' k n, .row L' 51 55 (((l1 ++ ⟨xa, xn, xw, xc, (s1 ++ p :: s3)⟩ :: l2).map ak).set l1.length (ak ⟨xa, xn, xw, xc, s1 ++ eH q v ++ (p :: s3)⟩))] rfl (by (repeat first | exact KO _ | apply List.Sublist.cons_cons | apply List.Sublist.cons)) ⟨rfl, by rw [dZ]; exact RSt.of ha (by omega) ha.ad ⟨by dsimp only; rw [hp]; simp; omega, ha.bx.2⟩ hput⟩
  ·
   have hge : ¬ s1.length < s1.length := Nat.lt_irrefl _
   have hxl2 : s1.length = s1.length := rfl
   have hT : List.take (↑s1.length : Int).toNat (List.map aG s1) = s1.map aG := by rw [L6, ← List.map_take]; simp
   have hDr : List.drop (↑s1.length : Int).toNat (List.map aG s1) = ([]).map aG := by rw [show (↑s1.length : Int).toNat = s1.length by omega, ← List.map_drop]; simp
   repeat (refine stp ?_; intros)
   refine EC.draw 19 (by kernel_rfl) ?_
   simp only [KG, KI, KF, KH]
   repeat
    (first
     | (apply dB (k := l1.length) (off := 54) (d := .tup [.arr 20 xa, .v (.int .i64 xn), .arr 32 xw, .bs xc, .sl 64 (s1.map aG)]); rfl; exact I4; exact ⟨by simp, hd0⟩; iterate 4 rfl)
     | (refine sth ?_; intros))
   repeat (refine stp ?_; intros)
   refine EC.draw 19 (by kernel_rfl) ?_
   simp only [KG, KI, KF, KH]
   repeat
    (first
     | (apply dB (k := l1.length) (off := 54) (d := .tup [.arr 20 xa, .v (.int .i64 xn), .arr 32 xw, .bs xc, .sl 64 (s1.map aG)]); rfl; exact I4; exact ⟨by simp, hd0⟩; iterate 4 rfl)
     | (refine sth ?_; intros))
   repeat
    (first
     | (apply aU (k := l1.length) (off := 54) (d := .tup [.arr 20 xa, .v (.int .i64 xn), .arr 32 xw, .bs xc, .sl 64 (s1.map aG)]); rfl; exact I4; exact ⟨by simp, hd0⟩; iterate 4 rfl)
     | (refine stp ?_; intros))
   refine EL.le (Le.row 63 64) ?_
   dsimp only
   by_cases hv : v = zero32
   ·
    have hz := (dA v zero32).2
    rw [show (v != zero32) = false by simp [hv]] at hz
    repeat
     (first
      | (apply oz; (iterate 3 rfl); exact ⟨by omega, by rw [hml, hxl2, L6]; omega⟩; iterate 2 rfl)
      | (apply fZ; (iterate 3 rfl); exact ⟨by omega, by rw [hml, hxl2]; omega⟩; iterate 2 rfl)
      | (apply aU (k := l1.length) (off := 54) (d := .tup [.arr 20 xa, .v (.int .i64 xn), .arr 32 xw, .bs xc, .sl 64 (s1.map aG)]); rfl; exact I5; exact ⟨by simp, hd0⟩; iterate 4 rfl)
      | (refine bM (hrun := hz) (kk := ?_)) | (refine stp ?_; intros))
    refine EL.le (Le.freeze (pre := []) rfl) ?_
    refine EL.le (Le.refine (t := 82) rfl (Rf.fact KQ rfl)) ?_
    have hp : eH q v = [] := by rw [hpv, if_pos hv]
    rw [hT, hDr, show [] ++ s1.map aG ++ ([]).map aG = (s1 ++ eH q v ++ []).map aG by rw [hp]; simp]
    repeat
     (first
      | (apply bn (k := l1.length) (off := 54) (d := .tup [.arr 20 xa, .v (.int .i64 xn), .arr 32 xw, .bs xc, .sl 64 (s1.map aG)]) (d'' := .tup [.arr 20 xa, .v (.int .i64 xn), .arr 32 xw, .bs xc, .sl 64 ((s1 ++ eH q v ++ []).map aG)]); rfl; exact .s (.s (.s (.s .z))); exact ⟨by simp, hd0⟩; iterate 4 rfl)
      | apply EL.nil)
    exact EK.cO [rsO g L' k n, .row L' 51 55 (((l1 ++ ⟨xa, xn, xw, xc, s1⟩ :: l2).map ak).set l1.length (ak ⟨xa, xn, xw, xc, s1 ++ eH q v ++ []⟩))] rfl (by (repeat first | exact KO _ | apply List.Sublist.cons_cons | apply List.Sublist.cons)) ⟨rfl, by rw [dZ]; exact RSt.of ha (by omega) ha.ad ⟨by dsimp only; rw [hp]; simp; omega, ha.bx.2⟩ hput⟩
   ·
    have hz := (dA v zero32).2
    rw [show (v != zero32) = true by simp [hv]] at hz
    repeat
     (first
      | (apply oz; (iterate 3 rfl); exact ⟨by omega, by rw [hml, hxl2, L6]; omega⟩; iterate 2 rfl)
      | (apply fZ; (iterate 3 rfl); exact ⟨by omega, by rw [hml, hxl2]; omega⟩; iterate 2 rfl)
      | (apply aU (k := l1.length) (off := 54) (d := .tup [.arr 20 xa, .v (.int .i64 xn), .arr 32 xw, .bs xc, .sl 64 (s1.map aG)]); rfl; exact I5; exact ⟨by simp, hd0⟩; iterate 4 rfl)
      | (refine bM (hrun := hz) (kk := ?_)) | (refine stp ?_; intros))
    refine EL.le (Le.freeze (pre := []) rfl) ?_
    refine EL.le (Le.refine (t := 82) rfl (Rf.fact KQ rfl)) ?_
    have hp : eH q v = [(q, v)] := by rw [hpv, if_neg hv]
    rw [hT, hDr, show [] ++ s1.map aG ++ [D.tup [.arr 32 q, .arr 32 v]] ++ ([]).map aG = (s1 ++ eH q v ++ []).map aG by rw [hp]; simp [aG]]
    repeat
     (first
      | (apply bn (k := l1.length) (off := 54) (d := .tup [.arr 20 xa, .v (.int .i64 xn), .arr 32 xw, .bs xc, .sl 64 (s1.map aG)]) (d'' := .tup [.arr 20 xa, .v (.int .i64 xn), .arr 32 xw, .bs xc, .sl 64 ((s1 ++ eH q v ++ []).map aG)]); rfl; exact .s (.s (.s (.s .z))); exact ⟨by simp, hd0⟩; iterate 4 rfl)
      | apply EL.nil)
    exact EK.cO [rsO g L' k n, .row L' 51 55 (((l1 ++ ⟨xa, xn, xw, xc, s1⟩ :: l2).map ak).set l1.length (ak ⟨xa, xn, xw, xc, s1 ++ eH q v ++ []⟩))] rfl (by (repeat first | exact KO _ | apply List.Sublist.cons_cons | apply List.Sublist.cons)) ⟨rfl, by rw [dZ]; exact RSt.of ha (by omega) ha.ad ⟨by dsimp only; rw [hp]; simp; omega, ha.bx.2⟩ hput⟩
end E
end Go.Proofs.YtkhjanjlcdhdcaaGreat
namespace Go.Proofs.YtkhjanjlcdhdcaaGreat
set_option linter.unusedVariables false
open Go.RowKit Mono Rlp Wd Go.Sort
namespace E
def mF (A : As) (ch : List ChL) : As := ch.foldl (fun A c => c.of A) A
end E
end Go.Proofs.YtkhjanjlcdhdcaaGreat
namespace Go.Proofs.YtkhjanjlcdhdcaaGreat
set_option linter.unusedVariables false
set_option maxRecDepth 20000
set_option maxHeartbeats 16000000
open Go.RowKit Mono Rlp Wd
namespace E
theorem As.kR (A : As) (a : List UInt8) (x y : Ac) : (A.upd a x).upd a y = A.upd a y := by
 funext b
 unfold As.upd
 split <;> rfl
theorem As.upd_same (A : As) (a : List UInt8) (x : Ac) : (A.upd a x) a = x := if_pos rfl
theorem pY (A : As) (a : List UInt8) : ∀ (sl : List (List UInt8 × List UInt8)) (y : Ac), gW a sl (A.upd a y) = A.upd a {y with sl := sl.foldl (fun f p => fun k => if p.1 = k then p.2 else f k) y.sl}
 | [], y => rfl
 | p :: sl, y => by
  have := pY A a sl (y.slot p.1 p.2)
  unfold gW at this ⊢
  rw [NT, As.upd_same, As.kR, this]
  rfl
theorem F5 (A : As) (x : AcL) : (⟨x.a, true, x.n, x.w, x.cd, x.sl⟩ : ChL).of A = A.upd x.a x.take := by
 unfold ChL.of ChL.base
 dsimp only
 rw [if_pos rfl]
 simp only [As.kR, As.upd_same]
 rw [pY]
 rfl
theorem RSt.mono {g N M : Nat} {A : As} {os : List Obj} (h : RSt g A N os) (hm : N ≤ M) : RSt g A M os := by
 obtain ⟨L, k, n, l, rfl, hR, hl⟩ := h
 exact ⟨L, k, n, l, rfl, ⟨fun x hx => (hR.bd x hx).mono hm, hR.ord, hR.mem, hR.out⟩, LG hl hm⟩
theorem RSt.nil (g : Nat) (L k : Value) (n : Int) : RSt g (iJ []) 0 [rsO g L k n, .row L 51 55 []] := ⟨L, k, n, [], rfl, ⟨fun x hx => by simp at hx, .nil, fun x hx => by simp at hx, fun a _ => rfl⟩, Lj _⟩
def wtL (l : List AcL) : Nat := (l.map fun x => 5 + x.sl.length).sum
theorem CJ (l : List AcL) (x : AcL) : wtL (l ++ [x]) = wtL l + (5 + x.sl.length) := by simp [wtL]
theorem vS (l : List AcL) (x : AcL) : wtL (x :: l) = 5 + x.sl.length + wtL l := by simp [wtL]
theorem zJ : ∀ l : List AcL, 5 * l.length ≤ wtL l
 | [] => Lr _
 | x :: l => by
  have := zJ l
  rw [vS, LX]
  omega
theorem CG (l : List AcL) (i : Nat) : wtL (l.take i) ≤ wtL l := by
 have h : ∀ (a b : List AcL), wtL a ≤ wtL (a ++ b) := fun a b => by simp [wtL]
 have := h (l.take i) (l.drop i)
 rwa [MF] at this
theorem yH (B : Nat) : ∀ l : List AcL, (∀ x ∈ l, x.sl.length ≤ B) → wtL l ≤ l.length * (5 + B)
 | [], _ => Lr _
 | x :: l, h => by
  have h1 := yH B l fun y hy => h y (Ld _ hy)
  have h2 := h x KQ
  rw [vS, LX, Nat.succ_mul]
  omega
theorem JJ (l : List AcL) (hwt : wtL l ≤ 1000000) (hB : ∀ x ∈ l, x.cd.length ≤ 140737488355328) : FnM 7 [.sl 55 (l.map ak)] [] (fun r os' => ∃ g, r = .val (.v (ptr g)) ∧ RSt g (iJ l) (wtL l) os') := by
 have hll := zJ l
 have hml : (l.map ak).length = l.length := KR _
 refine FnM.walk 93 Tryz.func7 rfl Tryz.ntmps7 (by simp) fun X => ?_
 repeat (refine stp ?_; intros)
 rename_i g
 refine EC.le (Le.row 51 55) ?_
 refine EC.le (Le.pick [1, 0] [_, _] rfl (by decide) rfl) ?_
 refine EC.loop (ι := {x : Nat × List Obj // x.1 ≤ l.length ∧ RSt g (iJ (l.take x.1)) (wtL (l.take x.1)) x.2})
  (fun x => ⟨[(4, .val (.v (.int .i64 (x.1.1 : Int)))), (3, .val (.v (ptr g))), (0, .val (.sl 55 (l.map ak)))], x.1.2, []⟩)
  (fun x => l.length - x.1.1) ⟨(0, _), Lr _, RSt.nil g bF bF 0⟩ ?_ ?_
 · exact (Le.keep (by repeat first | exact trivial | refine ⟨rfl, ?_⟩) (by repeat first | exact La _ | apply List.Sublist.cons_cons | apply List.Sublist.cons) (by simp))
 rintro ⟨⟨i, os1⟩, hil, h0⟩
 dsimp only at hil h0 ⊢
 by_cases hlt : i < l.length
 ·
  have hd : (l.map ak)[i]? = some (ak l[i]) := by rw [List.getElem?_map, KJ hlt]; rfl
  have hBi := hB l[i] (LW hlt)
  have htk : iJ (l.take (i + 1)) = (⟨l[i].a, true, l[i].n, l[i].w, l[i].cd, l[i].sl⟩ : ChL).of (iJ (l.take i)) := by rw [LU hlt, sD, F5]
  have htw : wtL (l.take (i + 1)) = wtL (l.take i) + (5 + l[i].sl.length) := by rw [LU hlt, CJ]
  have hwi := CG l (i + 1)
  generalize l[i] = x at hd hBi htk htw
  obtain ⟨xa, xn, xw, xc, xs⟩ := x
  unfold ak at hd
  dsimp only at hd hBi htk htw
  obtain ⟨W0, hw0⟩ : ∃ W0, wtL (l.take i) = W0 := ⟨_, rfl⟩
  have h00 : RSt g (iJ (l.take i)) W0 os1 := hw0 ▸ h0
  rw [hw0] at htw
  have hmx : (xs.map aG).length = xs.length := KR _
  repeat
   (first
    | (apply lH (zO h00 (a := xa) (by omega)) [] rfl rfl (aj.refl _ _) (by intro _ _; simp [go_sem]) rfl rfl; rintro _ os2 ⟨rfl, h1⟩; simp only [KE]) | (refine stp ?_; intros))
  refine EC.bI 12 [0, 1, 2, 3, 4, 5, 6, 7, 8, 9, 10] [11] os2 _ (by kernel_rfl) (by kernel_rfl) (Lh _).symm ?_
  simp only [aA, KU, KY, KN, KP]
  repeat (refine sth ?_; intros)
  refine EM.nil ?_
  repeat (first | rw [KD] | rw [KE])
  refine CH.bP (rest := []) (oL h1 (a := xa) (by omega) xn) (k := ?_)
  rintro _ os3 ⟨rfl, h2⟩
  simp only [St.put, Lh]
  refine CH.nil ?_
  try simp only [KF, KH]
  repeat (refine stp ?_; intros)
  refine EC.bI 12 [0, 1, 2, 3, 4, 5, 6, 7, 8, 9, 10] [11] os3 _ (by kernel_rfl) (by kernel_rfl) (Lh _).symm ?_
  simp only [aA, KU, KY, KN, KP]
  repeat (refine sth ?_; intros)
  refine EM.nil ?_
  repeat (first | rw [KD] | rw [KE])
  refine CH.bP (rest := []) (fK h2 (a := xa) (by omega) xw) (k := ?_)
  rintro _ os4 ⟨rfl, h3⟩
  simp only [St.put, Lh]
  refine CH.nil ?_
  try simp only [KF, KH]
  repeat (refine stp ?_; intros)
  refine EC.bI 12 [0, 1, 2, 3, 4, 5, 6, 7, 8, 9, 10] [11] os4 _ (by kernel_rfl) (by kernel_rfl) (Lh _).symm ?_
  simp only [aA, KU, KY, KN, KP]
  repeat (refine sth ?_; intros)
  refine EM.nil ?_
  repeat (first | rw [KD] | rw [KE])
  refine CH.bP (rest := []) (qp h3 (a := xa) (by omega) xc hBi) (k := ?_)
  rintro _ os5 ⟨rfl, h4⟩
  simp only [St.put, Lh]
  refine CH.nil ?_
  try simp only [KF, KH]
  repeat (refine stp ?_; intros)
  have h5 : RSt g (ChL.base ⟨xa, true, xn, xw, xc, xs⟩ (iJ (l.take i))) (W0 + 5) os5 := RSt.mono h4 (by omega)
  clear h1 h2 h3 h4
  refine EC.loop (ι := {x : Nat × List Obj // x.1 ≤ xs.length ∧ RSt g (gW xa (xs.take x.1) (ChL.base ⟨xa, true, xn, xw, xc, xs⟩ (iJ (l.take i)))) (W0 + 5 + x.1) x.2})
   (fun x => ⟨[(5, .val (.v (.int .i64 (x.1.1 : Int)))), (4, .val (.v (.int .i64 (i : Int)))), (3, .val (.v (ptr g))), (0, .val (.sl 55 (l.map ak)))], x.1.2, []⟩)
   (fun x => xs.length - x.1.1) ⟨(0, os5), Lr _, h5⟩ ?_ ?_
  · exact (Le.keep (by repeat first | exact trivial | refine ⟨rfl, ?_⟩) (by repeat first | exact La _ | apply List.Sublist.cons_cons | apply List.Sublist.cons) (by simp))
  rintro ⟨⟨j, os6⟩, hjl, h6⟩
  dsimp only at hjl h6 ⊢
  by_cases hlj : j < xs.length
  ·
   have hd2 : (xs.map aG)[j]? = some (aG xs[j]) := by rw [List.getElem?_map, KJ hlj]; rfl
   have htk2 : xs.take (j + 1) = xs.take j ++ [xs[j]] := LU hlj
   generalize xs[j] = y at hd2 htk2
   obtain ⟨q, v⟩ := y
   unfold aG at hd2
   dsimp only at hd2
   repeat (refine stp ?_; intros)
   refine EC.bI 25 [0, 1, 2, 3, 4, 5, 6, 7, 8, 9, 10, 11, 12, 13, 14, 15, 16, 17, 18, 19, 20, 21, 22, 23] [24] os6 _ (by kernel_rfl) (by kernel_rfl) (Lh _).symm ?_
   simp only [aA, KU, KY, KN, KP]
   repeat (refine sth ?_; intros)
   refine EM.nil ?_
   repeat (first | rw [KD] | rw [KE])
   refine CH.bP (rest := []) (qo h6 (a := xa) (by omega) q v) (k := ?_)
   rintro _ os7 ⟨rfl, h7⟩
   simp only [St.put, Lh]
   refine CH.nil ?_
   try simp only [KF, KH]
   repeat (refine stp ?_; intros)
   refine EK.again ⟨(j + 1, os7), hlj, by rw [htk2, wC]; exact h7⟩ (by dsimp only; omega) ?_
   simp only [LM]
   exact (Le.keep (by repeat first | exact trivial | refine ⟨rfl, ?_⟩) (by repeat first | exact La _ | apply List.Sublist.cons_cons | apply List.Sublist.cons) (by simp))
  ·
   have hjE : j = xs.length := by omega
   subst hjE
   rw [Nh] at h6
   repeat (refine stp ?_; intros)
   refine EK.again ⟨(i + 1, os6), hlt, ?_⟩ (by dsimp only; omega) ?_
   ·
    dsimp only
    rw [htk]
    exact RSt.mono h6 (by omega)
   ·
    simp only [LM]
    exact (Le.keep (by repeat first | exact trivial | refine ⟨rfl, ?_⟩) (by repeat first | exact La _ | apply List.Sublist.cons_cons | apply List.Sublist.cons) (by simp))
 ·
  have hiE : i = l.length := by omega
  subst hiE
  rw [Nh] at h0
  repeat (refine stp ?_; intros)
  exact EK.aI os1 rfl rfl (by (repeat first | exact La _ | apply List.Sublist.cons_cons | apply List.Sublist.cons)) ⟨g, rfl, h0⟩
theorem Kt (l : List AcL) (hll : l.length ≤ 100) (hB : ∀ x ∈ l, x.sl.length ≤ 1000 ∧ x.cd.length ≤ 140737488355328) : FnM 7 [.sl 55 (l.map ak)] [] (fun r os' => ∃ g, r = .val (.v (ptr g)) ∧ RSt g (iJ l) (l.length * 1005) os') :=
 FnM.mono (JJ l (by have := yH 1000 l fun x hx => (hB x hx).1; omega) fun x hx => (hB x hx).2) fun r os' ⟨g, hr, h⟩ => ⟨g, hr, h.mono (by have := yH 1000 l fun x hx => (hB x hx).1; omega)⟩
end E
end Go.Proofs.YtkhjanjlcdhdcaaGreat
