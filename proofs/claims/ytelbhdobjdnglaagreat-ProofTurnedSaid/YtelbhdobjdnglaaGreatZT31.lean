/-
 Merged: lemmas of this claim.
 Conditions: none.
-/
import Derived.Test.YtelbhdobjdnglaaGreatZT27
import Derived.Test.YtelbhdobjdnglaaGreatZT13
import Derived.Test.YtelbhdobjdnglaaGreatZT0
namespace Go.Proofs.YtelbhdobjdnglaaGreat
set_option linter.unusedVariables false
set_option maxRecDepth 20000
set_option maxHeartbeats 32000000
open Go.RowKit Mono Rlp
namespace E
theorem uJ : ∀ (f : Nat) (x : Raw) (w : List UInt8), (bP f x).1 ≠ .hash w
 | 0, x, w => fun h => by cases h
 | _ + 1, .mk false _ _, w => fun h => by cases h
 | f + 1, .mk true b xs, w => fun h => by
  rw [bP] at h
  split at h
  ·
   unfold sO at h
   split at h
   · cases h
   ·
    split at h
    · cases h
    ·
     split at h
     · cases h
     · split at h <;> cases h
  ·
   split at h
   ·
    unfold brF at h
    split at h <;> cases h
   · cases h
theorem Qn {t : Nd} (h : t.isNil = false) (h2 : ∀ w, t ≠ .hash w) : ∃ T d, dN t = .ifc T d ∧ Nat.beq T 179 = false := by
 cases t with
 | nil => cases h
 | hash w => exact absurd rfl (h2 w)
 | leaf p v => exact ⟨_, _, by rw [dN], rfl⟩
 | ext p k => exact ⟨_, _, by rw [dN], rfl⟩
 | br ks v => exact ⟨_, _, by rw [dN], rfl⟩
def TM (tot : List UInt8 × Nat) (n : Nd) (p v : List UInt8) (q : List (List UInt8)) : Prop :=
 (n = .nil ∧ (if q.length = 0 then (v, 0) else ([], 3)) = tot ∧ v.length ≤ 16777216) ∨ ∃ f y fu, G9 f y ∧ n = (gX (bP f) y).1 ∧ chk fu y p q = tot ∧ p.length < fu ∧ ∀ c ∈ p, c.toNat < 16
theorem Tm {x : Raw} (h : Gd x) : (bts x).length ≤ 16777216 := by
 obtain ⟨l, b, xs⟩ := x
 show b.length ≤ _
 cases l with
 | false =>
  have h1 := h.len
  rw [Rlp.E] at h1
  have := QV b
  simp only [most] at h1
  omega
 | true =>
  have h1 := h.nrm
  rw [norm] at h1
  injection h1 with _ h1 _
  rw [← h1]
  exact XQ _
theorem JX {b : List UInt8} {l : Bool} {xs : List Raw} (h : Gd (.mk l b xs)) (k : Nat) : (bts (xs.getD k eF)).length ≤ 16777216 := by
 cases l with
 | true =>
  rw [List.getD_eq_getElem?_getD]
  cases hk : xs[k]? with
  | none => exact XQ _
  | some y => exact Tm (h.kid (XZ hk))
 | false =>
  have h1 := h.nrm
  rw [norm] at h1
  injection h1 with _ _ h1
  rw [← h1]
  exact XQ _
theorem Tc {x : Raw} (h : Gd x) (p : List UInt8) : (dwn x p).2.2.1.length ≤ 16777216 := by
 obtain ⟨l, b, xs⟩ := x
 unfold dwn
 rw [show its (.mk l b xs) = xs from rfl]
 split
 ·
  cases p with
  | nil => exact JX h 16
  | cons c r =>
   dsimp only
   split <;> exact XQ _
 ·
  split
  ·
   split
   · exact JX h 1
   · exact XQ _
  · split <;> exact XQ _
  · split <;> exact XQ _
theorem sF {tot : List UInt8 × Nat} {f fu : Nat} {x : Raw} {p : List UInt8} {q : List (List UInt8)} (hx : Gd x) (hn : isN f x = true) (hp : ∀ c ∈ p, c.toNat < 16) (hpf : p.length < fu + 1) (h : zV fu x p q = tot) : TM tot (iW (bP f x).1 p).1 (iW (bP f x).1 p).2.1 (iW (bP f x).1 p).2.2 q ∧ ((iW (bP f x).1 p).1.isNil = true ∨ (iW (bP f x).1 p).2.1.length < p.length) := by
 unfold zV at h
 rcases yC hx hn p hp with ⟨r, v, e1, e2, e3⟩ | ⟨g', k, r, e1, e2, e3, e4, e5⟩
 ·
  rw [e1, e2, if_neg Xv] at h
  rw [e3]
  exact ⟨.inl ⟨rfl, h, by have := Tc hx p; rw [e2] at this; exact this⟩, .inl rfl⟩
 ·
  rw [e1, if_pos rfl] at h
  rw [e2]
  exact ⟨.inr ⟨g', k, fu, e3, rfl, h, by dsimp only; omega, fun c hc => hp c (e5 c hc)⟩, .inr e4⟩
def msN (n : Nd) (p : List UInt8) : Nat := if n.isNil then 0 else p.length + 1
theorem uY (root key : List UInt8) (q : List (List UInt8)) (hr : root.length = 32) (hk : key.length ≤ 150) : Fn 50 [.arr 32 root, .bs key, .sl 1 (q.map D.bs)] (· = Rx (xQ root key q)) := by
 have hE := BZ
 have hw := (qR root lY).1
 have hS := uX key (by omega)
 have hnib : ∀ c ∈ split key, c.toNat < 16 := fun c hc => by
  obtain ⟨y, _, hy⟩ := List.mem_flatMap.1 hc
  simp only [XB, Zz, or_false] at hy
  rcases hy with rfl | rfl
  ·
   rw [Zp]
   have := y.toNat_lt
   simp [Nat.shiftRight_eq_div_pow]
   omega
  ·
   rw [UInt8.toNat_and]
   have := Yo y.toNat 4
   simp at this ⊢
   omega
 have hsl := dB key
 refine FnM.toFn ?_
 unfold Rx
 generalize htot : xQ root key q = tot
 have hI : TM tot (if root = lY then .nil else .hash root) (split key) [] q := by
  unfold xQ at htot
  by_cases h0 : root = lY
  ·
   rw [if_pos h0] at htot ⊢
   exact .inl ⟨rfl, htot, XQ _⟩
  ·
   rw [if_neg h0] at htot ⊢
   refine .inr ⟨40, .mk false root [], 400, BN hr, ?_, htot, by omega, hnib⟩
   unfold gX
   rw [if_neg (show ¬ isL (.mk false root []) = true from Xv), show bts (.mk false root []) = root from rfl, if_neg (by omega), if_pos hr]
 clear htot hk
 generalize split key = p0 at *
 refine FnM.walk 70 Tryz.func50 rfl Tryz.ntmps50 (by simp) fun X => ?_
 by_cases h0 : root = lY
 ·
  rw [if_pos h0] at hI
  rw [show (root == lY) = true by simp [h0]] at hw
  repeat
   (first
    | (apply fU; rfl; rfl; rfl; intro g; refine EL.le (Le.pin (p := 3) (pre := []) rfl rfl) ?_; simp only [List.nil_append]) | (apply ah; iterate 3 rfl)
    | (apply aH; iterate 5 rfl) | (apply iw; iterate 4 rfl) | apply EL.nil
    | (with_reducible first | apply EK.nc | apply EC.seq | apply EC.r0))
  refine EC.draw 2 (by kernel_rfl) ?_
  simp only [Xp, Xu, mP, Xq]
  repeat
   (first
    | (apply fD (hE); rfl; exact aj.refl _ _; exact enA; iterate 2 rfl) | (apply bD; iterate 5 rfl) | ((with_reducible apply EH.nil); rfl))
  repeat
   (first
    | (apply dW; (iterate 2 rfl); exact hw; iterate 2 rfl) | (apply aA (hS); rfl; exact aj.refl _ _; exact enA; iterate 2 rfl) | (apply ak; iterate 3 rfl)
    | (apply ah; iterate 3 rfl) | apply EL.nil | (apply EC.t0; rfl)
    | (with_reducible first | apply EK.nc | apply EC.seq | apply EC.r0 | apply EC.b0))
  refine EC.le (Le.refine (t := 10) (d' := .bs []) rfl Rf.bs0) ?_
  refine EC.loop (ι := {x : Nd × List UInt8 × List UInt8 × List (List UInt8) // TM tot x.1 x.2.1 x.2.2.1 x.2.2.2})
   (fun x => ⟨[(9, .val (dN x.1.1)), (11, .val (.bs x.1.2.1)), (10, .val (.bs x.1.2.2.1)), (2, .val (.sl 1 (x.1.2.2.2.map D.bs)))], [], []⟩)
   (fun x => msN x.1.1 x.1.2.1) ⟨(.nil, p0, [], q), hI⟩ ?_ ?_
  ·
   dsimp only
   rw [dN]
   exact Le.kp
  rintro ⟨⟨n, p, v, q⟩, hc⟩
  dsimp only at hc ⊢
  have hml : (q.map D.bs).length = q.length := List.length_map _
  have hnn := mM n
  rcases hc with ⟨rfl, ht, hvl⟩ | ⟨f, y, fu, ⟨hg, hyy⟩, hny, hch, hpf, hp⟩
  ·
   rw [show Nd.nil.isNil = true from rfl] at hnn
   rw [dN] at hnn ⊢
   by_cases hz : q.length = 0
   ·
    rw [if_pos hz] at ht
    subst ht
    obtain rfl : q = [] := X5 hz
    have hCl := Ko v (by omega)
    dsimp only
    by_cases hv : 0 < v.length
    ·
     rw [show decide (0 < v.length) = true by simp [hv]]
     have hc0 : fM .gtr (v.length : Int) 0 = some true := by
      simp only [fM, XT, decide_eq_true_eq]
      omega
     repeat
      (first
       | (apply dW; (iterate 2 rfl); exact hnn; iterate 2 rfl) | (apply aA (hCl); rfl; exact aj.refl _ _; exact enA; iterate 2 rfl)
       | (apply aC (b := true); (iterate 2 rfl); exact hc0; iterate 2 rfl) | (apply ak; iterate 3 rfl) | (apply ah; iterate 3 rfl)
       | (apply aC (b := false); (iterate 2 rfl); exact aK; iterate 2 rfl) | (apply aP; iterate 4 rfl) | (apply aJ; iterate 4 rfl) | apply EL.nil
       | (apply EC.f0; rfl)
       | (with_reducible first | apply EK.nc | apply EC.seq | apply EC.r0 | apply EC.k0 | apply EC.x0 | apply EC.ret | apply EK.s0 | apply EK.aY))
     exact EK.gy [] rfl rfl rfl rfl RL.a RL.a RL.a (Xt _) ⟨rfl, rfl⟩
    ·
     rw [show decide (0 < v.length) = false by simp [hv]]
     have hc0 : fM .gtr (v.length : Int) 0 = some false := by
      simp only [fM, XT, decide_eq_false_iff_not]
      omega
     repeat
      (first
       | (apply dW; (iterate 2 rfl); exact hnn; iterate 2 rfl) | (apply aA (hCl); rfl; exact aj.refl _ _; exact enA; iterate 2 rfl)
       | (apply aC (b := false); (iterate 2 rfl); exact hc0; iterate 2 rfl) | (apply ak; iterate 3 rfl) | (apply ah; iterate 3 rfl)
       | (apply aC (b := false); (iterate 2 rfl); exact aK; iterate 2 rfl) | (apply aP; iterate 4 rfl) | (apply aJ; iterate 4 rfl) | apply EL.nil
       | (apply EC.f0; rfl)
       | (with_reducible first | apply EK.nc | apply EC.seq | apply EC.r0 | apply EC.k0 | apply EC.x0 | apply EC.ret | apply EK.s0 | apply EK.aY))
     exact EK.gy [] rfl rfl rfl rfl RL.a RL.a RL.a (Xt _) ⟨rfl, rfl⟩
   ·
    rw [if_neg hz] at ht
    subst ht
    have hc0 : fM .gtr ((q.map D.bs).length : Int) 0 = some true := by
     simp only [fM, XT, decide_eq_true_eq]
     omega
    repeat
     (first
      | (apply dW; (iterate 2 rfl); exact hnn; iterate 2 rfl) | (apply aC (b := true); (iterate 2 rfl); exact hc0; iterate 2 rfl) | (apply ak; iterate 3 rfl)
      | (apply ah; iterate 3 rfl) | (apply aJ; iterate 4 rfl) | apply EL.nil | (apply EC.t0; rfl)
      | (apply EC.f0; rfl) | (with_reducible first | apply EK.nc | apply EC.seq | apply EC.r0 | apply EC.x0 | apply EC.ret | apply EK.s0 | apply EK.aG | apply EK.aY))
    exact EK.gy [] rfl rfl rfl rfl RL.a RL.a RL.a (Xt _) ⟨rfl, rfl⟩
  ·
   obtain ⟨fu, rfl⟩ : ∃ n, fu = n + 1 := ⟨fu - 1, by omega⟩
   rcases hyy with ⟨hl, hn, h32⟩ | ⟨hl, h32⟩
   ·
    have hrf : (gX (bP f) y).1 = (bP f y).1 := by rw [rO hg hl, if_pos h32]
    obtain rfl := hny.trans hrf
    rw [Gy fu hl] at hch
    have hok : (bP f y).2 = true := by rw [kQ f y hg, hn]
    have hni := tV f y hok
    have hst := zJ (bP f y).1 p hp
    obtain ⟨hnx, hms⟩ := sF hg hn hp (by omega) hch
    obtain ⟨T, d, ed, hne⟩ := Qn hni (uJ f y)
    have hmm : msN (iW (bP f y).1 p).1 (iW (bP f y).1 p).2.1 < msN (bP f y).1 p := by
     unfold msN
     rw [hni, if_neg Xv]
     rcases hms with h | h
     ·
      rw [if_pos h]
      omega
     · split <;> omega
    rw [hni] at hnn
    rw [ed] at hst hnn ⊢
    unfold stepD at hst
    generalize iW (bP f y).1 p = s at *
    obtain ⟨n2, p2, v2⟩ := s
    dsimp only at hst hnx hmm
    repeat
     (first
      | (apply dW; (iterate 2 rfl); exact hnn; iterate 2 rfl) | (apply aA (hst); rfl; exact aj.refl _ _; exact enA; iterate 2 rfl)
      | (apply iC; rfl; rfl; exact hne; iterate 3 rfl) | (apply ak; iterate 3 rfl) | (apply ah; iterate 3 rfl) | (apply aF; iterate 4 rfl)
      | (apply aT; rfl; rfl; rfl; intro _) | (apply aI; rfl; exact saA; iterate 4 rfl) | apply EL.nil
      | (apply EC.t0; rfl) | (apply EC.f0; rfl)
      | (with_reducible first | apply EK.nc | apply EC.seq | apply EC.r0 | apply EC.k0 | apply EC.b0 | apply EK.n0))
    refine EK.again ⟨(n2, p2, v2, q), hnx⟩ (by exact hmm) ?_
    exact Le.kp
   ·
    have hrf : (gX (bP f) y).1 = .hash (bts y) := by
     unfold gX
     rw [hl, if_neg Xv, if_neg (by omega), if_pos h32]
    obtain rfl := hny.trans hrf
    rw [show (Nd.hash (bts y)).isNil = false from rfl] at hnn
    rw [dN] at hnn ⊢
    cases q with
    | nil =>
     rw [Cj fu hl] at hch
     subst hch
     repeat
      (first
       | (apply dW; (iterate 2 rfl); exact hnn; iterate 2 rfl) | (apply ak; iterate 3 rfl) | (apply ah; iterate 3 rfl) | (apply aF; iterate 4 rfl)
       | (apply eP; iterate 4 rfl) | (apply aT; rfl; rfl; rfl; intro _)
       | (apply aI; rfl; exact saA; iterate 4 rfl) | apply EL.nil
       | (apply EC.t0; rfl) | (with_reducible first | apply EK.nc | apply EC.seq | apply EC.r0 | apply EC.k0 | apply EC.b0))
     refine EC.draw 10 (by kernel_rfl) ?_
     simp only [Xp, Xu, mP, Xq]
     repeat
      (first
       | (apply uj; iterate 2 rfl) | (apply aX; iterate 3 rfl) | (apply jm (b := true); (iterate 2 rfl); exact aK; iterate 2 rfl)
       | (apply iL; iterate 4 rfl) | ((with_reducible apply EH.nil); rfl))
     repeat
      (first
       | (apply eX; iterate 2 rfl) | (apply ah; iterate 3 rfl) | (apply aS; iterate 4 rfl) | apply EL.nil
       | (apply EC.t0; rfl) | (with_reducible first | apply EK.nc | apply EC.seq | apply EC.r0 | apply EC.ret | apply EK.dK | apply EK.aG))
     exact EK.gy [] rfl rfl rfl rfl RL.a RL.a RL.a (Xt _) ⟨rfl, rfl⟩
    | cons b q =>
     rw [wF fu hl] at hch
     have hK := uZ b
     have hb := (qR (hash b) (bts y)).2
     have hce : fM .eql (((b :: q).map D.bs).length : Int) 0 = some false := by
      have : ((b :: q).map D.bs).length = q.length + 1 := by simp
      simp only [fM, XT, beq_eq_false_iff_ne]
      omega
     have hat : ((b :: q).map D.bs)[0]? = some (.bs b) := rfl
     have hdr : ((b :: q).map D.bs).drop 1 = q.map D.bs := rfl
     by_cases he : hash b = bts y
     ·
      rw [if_pos he] at hch
      rw [show (hash b != bts y) = false by simp [he]] at hb
      have hR := J7 b
      have hgx := uz b
      by_cases hok : rdE b = 0 ∧ isN 40 (rdX b) = true
      ·
       rw [if_pos hok] at hch
       have hrd : Aw b = ((bP 40 (rdX b)).1, true) := by
        unfold Aw
        rw [if_pos hok, ← hok.2, ← kQ 40 (rdX b) hgx]
       rw [hrd] at hR
       unfold jE at hR
       obtain ⟨hnx, hms⟩ := sF hgx hok.2 hp (by omega) hch
       have hst := zJ (bP 40 (rdX b)).1 p hp
       have hmm : msN (iW (bP 40 (rdX b)).1 p).1 (iW (bP 40 (rdX b)).1 p).2.1 < msN (.hash (bts y)) p := by
        unfold msN
        rw [show (Nd.hash (bts y)).isNil = false from rfl, if_neg Xv]
        rcases hms with h | h
        ·
         rw [if_pos h]
         omega
        · split <;> omega
       dsimp only at hR
       unfold stepD at hst
       generalize iW (bP 40 (rdX b)).1 p = s at *
       generalize (bP 40 (rdX b)).1 = nd at *
       obtain ⟨n2, p2, v2⟩ := s
       dsimp only at hst hnx hmm
       repeat
        (first
         | (apply dW; (iterate 2 rfl); exact hnn; iterate 2 rfl) | (apply ak; iterate 3 rfl) | (apply ah; iterate 3 rfl) | (apply aF; iterate 4 rfl)
         | (apply eP; iterate 4 rfl) | (apply aT; rfl; rfl; rfl; intro _)
         | (apply aI; rfl; exact saA; iterate 4 rfl) | apply EL.nil
         | (apply EC.t0; rfl) | (with_reducible first | apply EK.nc | apply EC.seq | apply EC.r0 | apply EC.k0 | apply EC.b0))
       refine EC.draw 10 (by kernel_rfl) ?_
       simp only [Xp, Xu, mP, Xq]
       repeat
        (first
         | (apply fD (hK); rfl; exact aj.refl _ _; exact enA; iterate 2 rfl) | (apply jm (b := false); (iterate 2 rfl); exact hce; iterate 2 rfl)
         | (apply aX; iterate 3 rfl) | (apply bD; iterate 5 rfl) | (apply dw; rfl; exact I.a; iterate 4 rfl) | (apply iL; iterate 4 rfl)
         | (apply dJ; (iterate 4 rfl); exact ixA; iterate 2 rfl)
         | (apply kK; iterate 9 rfl) | ((with_reducible apply EH.nil); rfl))
       repeat
        (first
         | (apply dW; (iterate 2 rfl); exact hb; iterate 2 rfl) | (apply aA (hR); rfl; exact aj.refl _ _; exact enA; iterate 2 rfl)
         | (apply bT; (iterate 4 rfl); exact ⟨by decide, hat⟩; iterate 2 rfl) | (apply ak; iterate 3 rfl) | (apply ah; iterate 3 rfl)
         | (apply aF; iterate 4 rfl) | (apply aH; iterate 5 rfl) | (apply aS; iterate 4 rfl) | (apply dI; iterate 3 rfl) | apply EL.nil
         | (apply EC.f0; rfl) | (with_reducible first | apply EK.nc | apply EC.seq | apply EC.r0 | apply EC.k0))
       refine EC.draw 4 (by kernel_rfl) ?_
       simp only [Xp, Xu, mP, Xq]
       repeat
        (first
         | (apply Am; (iterate 3 rfl); exact ⟨by decide, (by simp)⟩; iterate 2 rfl) | (apply aX; iterate 3 rfl) | (apply fA; iterate 3 rfl)
         | ((with_reducible apply EH.nil); rfl))
       repeat
        (first
         | (apply aA (hst); rfl; exact aj.refl _ _; exact enA; iterate 2 rfl) | (apply ak; iterate 3 rfl) | (apply ah; iterate 3 rfl)
         | (apply aF; iterate 4 rfl) | apply EL.nil | (with_reducible first | apply EK.nc | apply EC.r0 | apply EK.n0))
       refine EK.again ⟨(n2, p2, v2, q), hnx⟩ (by exact hmm) ?_
       exact Le.kp
      ·
       rw [if_neg hok] at hch
       subst hch
       have hrd : Aw b = (.nil, false) := by
        unfold Aw
        rw [if_neg hok]
       rw [hrd] at hR
       unfold jE at hR
       dsimp only at hR
       repeat
        (first
         | (apply dW; (iterate 2 rfl); exact hnn; iterate 2 rfl) | (apply ak; iterate 3 rfl) | (apply ah; iterate 3 rfl) | (apply aF; iterate 4 rfl)
         | (apply eP; iterate 4 rfl) | (apply aT; rfl; rfl; rfl; intro _)
         | (apply aI; rfl; exact saA; iterate 4 rfl) | apply EL.nil
         | (apply EC.t0; rfl) | (with_reducible first | apply EK.nc | apply EC.seq | apply EC.r0 | apply EC.k0 | apply EC.b0))
       refine EC.draw 10 (by kernel_rfl) ?_
       simp only [Xp, Xu, mP, Xq]
       repeat
        (first
         | (apply fD (hK); rfl; exact aj.refl _ _; exact enA; iterate 2 rfl) | (apply jm (b := false); (iterate 2 rfl); exact hce; iterate 2 rfl)
         | (apply aX; iterate 3 rfl) | (apply bD; iterate 5 rfl) | (apply dw; rfl; exact I.a; iterate 4 rfl) | (apply iL; iterate 4 rfl)
         | (apply dJ; (iterate 4 rfl); exact ixA; iterate 2 rfl)
         | (apply kK; iterate 9 rfl) | ((with_reducible apply EH.nil); rfl))
       repeat
        (first
         | (apply dW; (iterate 2 rfl); exact hb; iterate 2 rfl) | (apply aA (hR); rfl; exact aj.refl _ _; exact enA; iterate 2 rfl)
         | (apply bT; (iterate 4 rfl); exact ⟨by decide, hat⟩; iterate 2 rfl) | (apply ak; iterate 3 rfl) | (apply ah; iterate 3 rfl)
         | (apply aF; iterate 4 rfl) | (apply aH; iterate 5 rfl) | (apply aS; iterate 4 rfl) | (apply dI; iterate 3 rfl) | apply EL.nil
         | (apply EC.t0; rfl) | (apply EC.f0; rfl)
         | (with_reducible first | apply EK.nc | apply EC.seq | apply EC.r0 | apply EC.k0 | apply EC.ret | apply EK.dK | apply EK.aG))
       exact EK.gy [] rfl rfl rfl rfl RL.a RL.a RL.a (Xt _) ⟨rfl, rfl⟩
     ·
      rw [if_neg he] at hch
      subst hch
      rw [show (hash b != bts y) = true by simp [he]] at hb
      repeat
       (first
        | (apply dW; (iterate 2 rfl); exact hnn; iterate 2 rfl) | (apply ak; iterate 3 rfl) | (apply ah; iterate 3 rfl) | (apply aF; iterate 4 rfl)
        | (apply eP; iterate 4 rfl) | (apply aT; rfl; rfl; rfl; intro _)
        | (apply aI; rfl; exact saA; iterate 4 rfl) | apply EL.nil
        | (apply EC.t0; rfl) | (with_reducible first | apply EK.nc | apply EC.seq | apply EC.r0 | apply EC.k0 | apply EC.b0))
      refine EC.draw 10 (by kernel_rfl) ?_
      simp only [Xp, Xu, mP, Xq]
      repeat
       (first
        | (apply fD (hK); rfl; exact aj.refl _ _; exact enA; iterate 2 rfl) | (apply jm (b := false); (iterate 2 rfl); exact hce; iterate 2 rfl)
        | (apply aX; iterate 3 rfl) | (apply bD; iterate 5 rfl) | (apply dw; rfl; exact I.a; iterate 4 rfl) | (apply iL; iterate 4 rfl)
        | (apply dJ; (iterate 4 rfl); exact ixA; iterate 2 rfl)
        | (apply kK; iterate 9 rfl) | ((with_reducible apply EH.nil); rfl))
      repeat
       (first
        | (apply dW; (iterate 2 rfl); exact hb; iterate 2 rfl) | (apply ah; iterate 3 rfl) | (apply aS; iterate 4 rfl) | apply EL.nil
        | (apply EC.t0; rfl) | (with_reducible first | apply EK.nc | apply EC.seq | apply EC.r0 | apply EC.ret | apply EK.dK | apply EK.aG))
      exact EK.gy [] rfl rfl rfl rfl RL.a RL.a RL.a (Xt _) ⟨rfl, rfl⟩
 ·
  rw [if_neg h0] at hI
  rw [show (root == lY) = false by simp [h0]] at hw
  repeat
   (first
    | (apply fU; rfl; rfl; rfl; intro g; refine EL.le (Le.pin (p := 3) (pre := []) rfl rfl) ?_; simp only [List.nil_append]) | (apply ah; iterate 3 rfl)
    | (apply aH; iterate 5 rfl) | (apply iw; iterate 4 rfl) | apply EL.nil
    | (with_reducible first | apply EK.nc | apply EC.seq | apply EC.r0))
  refine EC.draw 2 (by kernel_rfl) ?_
  simp only [Xp, Xu, mP, Xq]
  repeat
   (first
    | (apply fD (hE); rfl; exact aj.refl _ _; exact enA; iterate 2 rfl) | (apply bD; iterate 5 rfl) | ((with_reducible apply EH.nil); rfl))
  repeat
   (first
    | (apply dW; (iterate 2 rfl); exact hw; iterate 2 rfl) | (apply aA (hS); rfl; exact aj.refl _ _; exact enA; iterate 2 rfl) | (apply ak; iterate 3 rfl)
    | (apply ah; iterate 3 rfl) | apply EL.nil | (apply EC.f0; rfl)
    | (with_reducible first | apply EK.nc | apply EC.seq | apply EC.r0 | apply EC.k0 | apply EC.b0))
  refine EC.le (Le.refine (t := 10) (d' := .bs []) rfl Rf.bs0) ?_
  refine EC.loop (ι := {x : Nd × List UInt8 × List UInt8 × List (List UInt8) // TM tot x.1 x.2.1 x.2.2.1 x.2.2.2})
   (fun x => ⟨[(9, .val (dN x.1.1)), (11, .val (.bs x.1.2.1)), (10, .val (.bs x.1.2.2.1)), (2, .val (.sl 1 (x.1.2.2.2.map D.bs)))], [], []⟩)
   (fun x => msN x.1.1 x.1.2.1) ⟨(.hash root, p0, [], q), hI⟩ ?_ ?_
  ·
   dsimp only
   rw [dN]
   exact Le.kp
  rintro ⟨⟨n, p, v, q⟩, hc⟩
  dsimp only at hc ⊢
  have hml : (q.map D.bs).length = q.length := List.length_map _
  have hnn := mM n
  rcases hc with ⟨rfl, ht, hvl⟩ | ⟨f, y, fu, ⟨hg, hyy⟩, hny, hch, hpf, hp⟩
  ·
   rw [show Nd.nil.isNil = true from rfl] at hnn
   rw [dN] at hnn ⊢
   by_cases hz : q.length = 0
   ·
    rw [if_pos hz] at ht
    subst ht
    obtain rfl : q = [] := X5 hz
    have hCl := Ko v (by omega)
    dsimp only
    by_cases hv : 0 < v.length
    ·
     rw [show decide (0 < v.length) = true by simp [hv]]
     have hc0 : fM .gtr (v.length : Int) 0 = some true := by
      simp only [fM, XT, decide_eq_true_eq]
      omega
     repeat
      (first
       | (apply dW; (iterate 2 rfl); exact hnn; iterate 2 rfl) | (apply aA (hCl); rfl; exact aj.refl _ _; exact enA; iterate 2 rfl)
       | (apply aC (b := true); (iterate 2 rfl); exact hc0; iterate 2 rfl) | (apply ak; iterate 3 rfl) | (apply ah; iterate 3 rfl)
       | (apply aC (b := false); (iterate 2 rfl); exact aK; iterate 2 rfl) | (apply aP; iterate 4 rfl) | (apply aJ; iterate 4 rfl) | apply EL.nil
       | (apply EC.f0; rfl)
       | (with_reducible first | apply EK.nc | apply EC.seq | apply EC.r0 | apply EC.k0 | apply EC.x0 | apply EC.ret | apply EK.s0 | apply EK.aY))
     exact EK.gy [] rfl rfl rfl rfl RL.a RL.a RL.a (Xt _) ⟨rfl, rfl⟩
    ·
     rw [show decide (0 < v.length) = false by simp [hv]]
     have hc0 : fM .gtr (v.length : Int) 0 = some false := by
      simp only [fM, XT, decide_eq_false_iff_not]
      omega
     repeat
      (first
       | (apply dW; (iterate 2 rfl); exact hnn; iterate 2 rfl) | (apply aA (hCl); rfl; exact aj.refl _ _; exact enA; iterate 2 rfl)
       | (apply aC (b := false); (iterate 2 rfl); exact hc0; iterate 2 rfl) | (apply ak; iterate 3 rfl) | (apply ah; iterate 3 rfl)
       | (apply aC (b := false); (iterate 2 rfl); exact aK; iterate 2 rfl) | (apply aP; iterate 4 rfl) | (apply aJ; iterate 4 rfl) | apply EL.nil
       | (apply EC.f0; rfl)
       | (with_reducible first | apply EK.nc | apply EC.seq | apply EC.r0 | apply EC.k0 | apply EC.x0 | apply EC.ret | apply EK.s0 | apply EK.aY))
     exact EK.gy [] rfl rfl rfl rfl RL.a RL.a RL.a (Xt _) ⟨rfl, rfl⟩
   ·
    rw [if_neg hz] at ht
    subst ht
    have hc0 : fM .gtr ((q.map D.bs).length : Int) 0 = some true := by
     simp only [fM, XT, decide_eq_true_eq]
     omega
    repeat
     (first
      | (apply dW; (iterate 2 rfl); exact hnn; iterate 2 rfl) | (apply aC (b := true); (iterate 2 rfl); exact hc0; iterate 2 rfl) | (apply ak; iterate 3 rfl)
      | (apply ah; iterate 3 rfl) | (apply aJ; iterate 4 rfl) | apply EL.nil | (apply EC.t0; rfl)
      | (apply EC.f0; rfl) | (with_reducible first | apply EK.nc | apply EC.seq | apply EC.r0 | apply EC.x0 | apply EC.ret | apply EK.s0 | apply EK.aG | apply EK.aY))
    exact EK.gy [] rfl rfl rfl rfl RL.a RL.a RL.a (Xt _) ⟨rfl, rfl⟩
  ·
   obtain ⟨fu, rfl⟩ : ∃ n, fu = n + 1 := ⟨fu - 1, by omega⟩
   rcases hyy with ⟨hl, hn, h32⟩ | ⟨hl, h32⟩
   ·
    have hrf : (gX (bP f) y).1 = (bP f y).1 := by rw [rO hg hl, if_pos h32]
    obtain rfl := hny.trans hrf
    rw [Gy fu hl] at hch
    have hok : (bP f y).2 = true := by rw [kQ f y hg, hn]
    have hni := tV f y hok
    have hst := zJ (bP f y).1 p hp
    obtain ⟨hnx, hms⟩ := sF hg hn hp (by omega) hch
    obtain ⟨T, d, ed, hne⟩ := Qn hni (uJ f y)
    have hmm : msN (iW (bP f y).1 p).1 (iW (bP f y).1 p).2.1 < msN (bP f y).1 p := by
     unfold msN
     rw [hni, if_neg Xv]
     rcases hms with h | h
     ·
      rw [if_pos h]
      omega
     · split <;> omega
    rw [hni] at hnn
    rw [ed] at hst hnn ⊢
    unfold stepD at hst
    generalize iW (bP f y).1 p = s at *
    obtain ⟨n2, p2, v2⟩ := s
    dsimp only at hst hnx hmm
    repeat
     (first
      | (apply dW; (iterate 2 rfl); exact hnn; iterate 2 rfl) | (apply aA (hst); rfl; exact aj.refl _ _; exact enA; iterate 2 rfl)
      | (apply iC; rfl; rfl; exact hne; iterate 3 rfl) | (apply ak; iterate 3 rfl) | (apply ah; iterate 3 rfl) | (apply aF; iterate 4 rfl)
      | (apply aT; rfl; rfl; rfl; intro _) | (apply aI; rfl; exact saA; iterate 4 rfl) | apply EL.nil
      | (apply EC.t0; rfl) | (apply EC.f0; rfl)
      | (with_reducible first | apply EK.nc | apply EC.seq | apply EC.r0 | apply EC.k0 | apply EC.b0 | apply EK.n0))
    refine EK.again ⟨(n2, p2, v2, q), hnx⟩ (by exact hmm) ?_
    exact Le.kp
   ·
    have hrf : (gX (bP f) y).1 = .hash (bts y) := by
     unfold gX
     rw [hl, if_neg Xv, if_neg (by omega), if_pos h32]
    obtain rfl := hny.trans hrf
    rw [show (Nd.hash (bts y)).isNil = false from rfl] at hnn
    rw [dN] at hnn ⊢
    cases q with
    | nil =>
     rw [Cj fu hl] at hch
     subst hch
     repeat
      (first
       | (apply dW; (iterate 2 rfl); exact hnn; iterate 2 rfl) | (apply ak; iterate 3 rfl) | (apply ah; iterate 3 rfl) | (apply aF; iterate 4 rfl)
       | (apply eP; iterate 4 rfl) | (apply aT; rfl; rfl; rfl; intro _)
       | (apply aI; rfl; exact saA; iterate 4 rfl) | apply EL.nil
       | (apply EC.t0; rfl) | (with_reducible first | apply EK.nc | apply EC.seq | apply EC.r0 | apply EC.k0 | apply EC.b0))
     refine EC.draw 10 (by kernel_rfl) ?_
     simp only [Xp, Xu, mP, Xq]
     repeat
      (first
       | (apply uj; iterate 2 rfl) | (apply aX; iterate 3 rfl) | (apply jm (b := true); (iterate 2 rfl); exact aK; iterate 2 rfl)
       | (apply iL; iterate 4 rfl) | ((with_reducible apply EH.nil); rfl))
     repeat
      (first
       | (apply eX; iterate 2 rfl) | (apply ah; iterate 3 rfl) | (apply aS; iterate 4 rfl) | apply EL.nil
       | (apply EC.t0; rfl) | (with_reducible first | apply EK.nc | apply EC.seq | apply EC.r0 | apply EC.ret | apply EK.dK | apply EK.aG))
     exact EK.gy [] rfl rfl rfl rfl RL.a RL.a RL.a (Xt _) ⟨rfl, rfl⟩
    | cons b q =>
     rw [wF fu hl] at hch
     have hK := uZ b
     have hb := (qR (hash b) (bts y)).2
     have hce : fM .eql (((b :: q).map D.bs).length : Int) 0 = some false := by
      have : ((b :: q).map D.bs).length = q.length + 1 := by simp
      simp only [fM, XT, beq_eq_false_iff_ne]
      omega
     have hat : ((b :: q).map D.bs)[0]? = some (.bs b) := rfl
     have hdr : ((b :: q).map D.bs).drop 1 = q.map D.bs := rfl
     by_cases he : hash b = bts y
     ·
      rw [if_pos he] at hch
      rw [show (hash b != bts y) = false by simp [he]] at hb
      have hR := J7 b
      have hgx := uz b
      by_cases hok : rdE b = 0 ∧ isN 40 (rdX b) = true
      ·
       rw [if_pos hok] at hch
       have hrd : Aw b = ((bP 40 (rdX b)).1, true) := by
        unfold Aw
        rw [if_pos hok, ← hok.2, ← kQ 40 (rdX b) hgx]
       rw [hrd] at hR
       unfold jE at hR
       obtain ⟨hnx, hms⟩ := sF hgx hok.2 hp (by omega) hch
       have hst := zJ (bP 40 (rdX b)).1 p hp
       have hmm : msN (iW (bP 40 (rdX b)).1 p).1 (iW (bP 40 (rdX b)).1 p).2.1 < msN (.hash (bts y)) p := by
        unfold msN
        rw [show (Nd.hash (bts y)).isNil = false from rfl, if_neg Xv]
        rcases hms with h | h
        ·
         rw [if_pos h]
         omega
        · split <;> omega
       dsimp only at hR
       unfold stepD at hst
       generalize iW (bP 40 (rdX b)).1 p = s at *
       generalize (bP 40 (rdX b)).1 = nd at *
       obtain ⟨n2, p2, v2⟩ := s
       dsimp only at hst hnx hmm
       repeat
        (first
         | (apply dW; (iterate 2 rfl); exact hnn; iterate 2 rfl) | (apply ak; iterate 3 rfl) | (apply ah; iterate 3 rfl) | (apply aF; iterate 4 rfl)
         | (apply eP; iterate 4 rfl) | (apply aT; rfl; rfl; rfl; intro _)
         | (apply aI; rfl; exact saA; iterate 4 rfl) | apply EL.nil
         | (apply EC.t0; rfl) | (with_reducible first | apply EK.nc | apply EC.seq | apply EC.r0 | apply EC.k0 | apply EC.b0))
       refine EC.draw 10 (by kernel_rfl) ?_
       simp only [Xp, Xu, mP, Xq]
       repeat
        (first
         | (apply fD (hK); rfl; exact aj.refl _ _; exact enA; iterate 2 rfl) | (apply jm (b := false); (iterate 2 rfl); exact hce; iterate 2 rfl)
         | (apply aX; iterate 3 rfl) | (apply bD; iterate 5 rfl) | (apply dw; rfl; exact I.a; iterate 4 rfl) | (apply iL; iterate 4 rfl)
         | (apply dJ; (iterate 4 rfl); exact ixA; iterate 2 rfl)
         | (apply kK; iterate 9 rfl) | ((with_reducible apply EH.nil); rfl))
       repeat
        (first
         | (apply dW; (iterate 2 rfl); exact hb; iterate 2 rfl) | (apply aA (hR); rfl; exact aj.refl _ _; exact enA; iterate 2 rfl)
         | (apply bT; (iterate 4 rfl); exact ⟨by decide, hat⟩; iterate 2 rfl) | (apply ak; iterate 3 rfl) | (apply ah; iterate 3 rfl)
         | (apply aF; iterate 4 rfl) | (apply aH; iterate 5 rfl) | (apply aS; iterate 4 rfl) | (apply dI; iterate 3 rfl) | apply EL.nil
         | (apply EC.f0; rfl) | (with_reducible first | apply EK.nc | apply EC.seq | apply EC.r0 | apply EC.k0))
       refine EC.draw 4 (by kernel_rfl) ?_
       simp only [Xp, Xu, mP, Xq]
       repeat
        (first
         | (apply Am; (iterate 3 rfl); exact ⟨by decide, (by simp)⟩; iterate 2 rfl) | (apply aX; iterate 3 rfl) | (apply fA; iterate 3 rfl)
         | ((with_reducible apply EH.nil); rfl))
       repeat
        (first
         | (apply aA (hst); rfl; exact aj.refl _ _; exact enA; iterate 2 rfl) | (apply ak; iterate 3 rfl) | (apply ah; iterate 3 rfl)
         | (apply aF; iterate 4 rfl) | apply EL.nil | (with_reducible first | apply EK.nc | apply EC.r0 | apply EK.n0))
       refine EK.again ⟨(n2, p2, v2, q), hnx⟩ (by exact hmm) ?_
       exact Le.kp
      ·
       rw [if_neg hok] at hch
       subst hch
       have hrd : Aw b = (.nil, false) := by
        unfold Aw
        rw [if_neg hok]
       rw [hrd] at hR
       unfold jE at hR
       dsimp only at hR
       repeat
        (first
         | (apply dW; (iterate 2 rfl); exact hnn; iterate 2 rfl) | (apply ak; iterate 3 rfl) | (apply ah; iterate 3 rfl) | (apply aF; iterate 4 rfl)
         | (apply eP; iterate 4 rfl) | (apply aT; rfl; rfl; rfl; intro _)
         | (apply aI; rfl; exact saA; iterate 4 rfl) | apply EL.nil
         | (apply EC.t0; rfl) | (with_reducible first | apply EK.nc | apply EC.seq | apply EC.r0 | apply EC.k0 | apply EC.b0))
       refine EC.draw 10 (by kernel_rfl) ?_
       simp only [Xp, Xu, mP, Xq]
       repeat
        (first
         | (apply fD (hK); rfl; exact aj.refl _ _; exact enA; iterate 2 rfl) | (apply jm (b := false); (iterate 2 rfl); exact hce; iterate 2 rfl)
         | (apply aX; iterate 3 rfl) | (apply bD; iterate 5 rfl) | (apply dw; rfl; exact I.a; iterate 4 rfl) | (apply iL; iterate 4 rfl)
         | (apply dJ; (iterate 4 rfl); exact ixA; iterate 2 rfl)
         | (apply kK; iterate 9 rfl) | ((with_reducible apply EH.nil); rfl))
       repeat
        (first
         | (apply dW; (iterate 2 rfl); exact hb; iterate 2 rfl) | (apply aA (hR); rfl; exact aj.refl _ _; exact enA; iterate 2 rfl)
         | (apply bT; (iterate 4 rfl); exact ⟨by decide, hat⟩; iterate 2 rfl) | (apply ak; iterate 3 rfl) | (apply ah; iterate 3 rfl)
         | (apply aF; iterate 4 rfl) | (apply aH; iterate 5 rfl) | (apply aS; iterate 4 rfl) | (apply dI; iterate 3 rfl) | apply EL.nil
         | (apply EC.t0; rfl) | (apply EC.f0; rfl)
         | (with_reducible first | apply EK.nc | apply EC.seq | apply EC.r0 | apply EC.k0 | apply EC.ret | apply EK.dK | apply EK.aG))
       exact EK.gy [] rfl rfl rfl rfl RL.a RL.a RL.a (Xt _) ⟨rfl, rfl⟩
     ·
      rw [if_neg he] at hch
      subst hch
      rw [show (hash b != bts y) = true by simp [he]] at hb
      repeat
       (first
        | (apply dW; (iterate 2 rfl); exact hnn; iterate 2 rfl) | (apply ak; iterate 3 rfl) | (apply ah; iterate 3 rfl) | (apply aF; iterate 4 rfl)
        | (apply eP; iterate 4 rfl) | (apply aT; rfl; rfl; rfl; intro _)
        | (apply aI; rfl; exact saA; iterate 4 rfl) | apply EL.nil
        | (apply EC.t0; rfl) | (with_reducible first | apply EK.nc | apply EC.seq | apply EC.r0 | apply EC.k0 | apply EC.b0))
      refine EC.draw 10 (by kernel_rfl) ?_
      simp only [Xp, Xu, mP, Xq]
      repeat
       (first
        | (apply fD (hK); rfl; exact aj.refl _ _; exact enA; iterate 2 rfl) | (apply jm (b := false); (iterate 2 rfl); exact hce; iterate 2 rfl)
        | (apply aX; iterate 3 rfl) | (apply bD; iterate 5 rfl) | (apply dw; rfl; exact I.a; iterate 4 rfl) | (apply iL; iterate 4 rfl)
        | (apply dJ; (iterate 4 rfl); exact ixA; iterate 2 rfl)
        | (apply kK; iterate 9 rfl) | ((with_reducible apply EH.nil); rfl))
      repeat
       (first
        | (apply dW; (iterate 2 rfl); exact hb; iterate 2 rfl) | (apply ah; iterate 3 rfl) | (apply aS; iterate 4 rfl) | apply EL.nil
        | (apply EC.t0; rfl) | (with_reducible first | apply EK.nc | apply EC.seq | apply EC.r0 | apply EC.ret | apply EK.dK | apply EK.aG))
      exact EK.gy [] rfl rfl rfl rfl RL.a RL.a RL.a (Xt _) ⟨rfl, rfl⟩
end E
end Go.Proofs.YtelbhdobjdnglaaGreat
namespace Go.Proofs.YtelbhdobjdnglaaGreat.Kec
def ofN (n : Nat) : St := fun k => BitVec.ofNat 64 (n >>> (64 * k))
theorem chain (S : List Nat) (h : ∀ i, i < 24 → ∀ k, k < 25 → round (ofN (S.getD i 0)) (rc i) k = ofN (S.getD (i + 1) 0) k) : Same (perm (ofN (S.getD 0 0)) 24) (ofN (S.getD 24 0)) := by
 have : ∀ i, i ≤ 24 → Same (perm (ofN (S.getD 0 0)) i) (ofN (S.getD i 0)) := by
  intro i
  induction i with
  | zero => exact fun _ => Same.refl _
  | succ i ih => exact fun hi => (tu (ih (by omega)) (rc i)).trans (h i (by omega))
 exact this 24 (by omega)
theorem tK {a b : St} (h : Same a b) : ∀ k, Same (perm a k) (perm b k)
 | 0 => h
 | k + 1 => tu (tK h k) (rc k)
end Go.Proofs.YtelbhdobjdnglaaGreat.Kec
