/-
 Merged (wip/tools/merge.py): PFB, TP9, KecHash.
 Conditions: none.
-/
import Derived.Test.YtiledgojbpmoiaaGreatZR24
import Derived.Test.YtiledgojbpmoiaaGreatZR20
import Derived.Test.YtiledgojbpmoiaaGreatZR14
namespace Go.Proofs.YtiledgojbpmoiaaGreat
set_option linter.unusedVariables false
set_option maxRecDepth 20000
set_option maxHeartbeats 32000000
open Go.RowKit Mono Rlp
namespace E
theorem uq : ∀ (f : Nat) (x : Raw) (w : List UInt8), (bH f x).1 ≠ .hash w
 | 0, x, w => fun h => by cases h
 | _ + 1, .mk false _ _, w => fun h => by cases h
 | f + 1, .mk true b xs, w => fun h => by
  rw [bH] at h
  split at h
  ·
   unfold rP at h
   split at h
   · cases h
   ·
    split at h
    · cases h
    ·
     split at h
     · cases h
     · split at h <;> cases h
  ·
   split at h
   ·
    unfold brF at h
    split at h <;> cases h
   · cases h
theorem Qr {t : Nd} (h : t.isNil = false) (h2 : ∀ w, t ≠ .hash w) : ∃ T d, dN t = .ifc T d ∧ Nat.beq T 167 = false := by
 cases t with
 | nil => cases h
 | hash w => exact absurd rfl (h2 w)
 | leaf p v => exact ⟨_, _, by rw [dN], rfl⟩
 | ext p k => exact ⟨_, _, by rw [dN], rfl⟩
 | br ks v => exact ⟨_, _, by rw [dN], rfl⟩
def TB (tot : List UInt8 × Nat) (n : Nd) (p v : List UInt8) (q : List (List UInt8)) : Prop :=
 (n = .nil ∧ (if q.length = 0 then (v, 0) else ([], 3)) = tot ∧ v.length ≤ 16777216) ∨ ∃ f y fu, KT f y ∧ n = (gY (bH f) y).1 ∧ chk fu y p q = tot ∧ p.length < fu ∧ ∀ c ∈ p, c.toNat < 16
theorem S9 {x : Raw} (h : Gd x) : (bts x).length ≤ 16777216 := by
 obtain ⟨l, b, xs⟩ := x
 show b.length ≤ _
 cases l with
 | false =>
  have h1 := h.len
  rw [Rlp.E] at h1
  have := Ub b
  simp only [most] at h1
  omega
 | true =>
  have h1 := h.nrm
  rw [norm] at h1
  injection h1 with _ h1 _
  rw [← h1]
  exact Nat.zero_le _
theorem JX {b : List UInt8} {l : Bool} {xs : List Raw} (h : Gd (.mk l b xs)) (k : Nat) : (bts (xs.getD k fM)).length ≤ 16777216 := by
 cases l with
 | true =>
  rw [List.getD_eq_getElem?_getD]
  cases hk : xs[k]? with
  | none => exact Nat.zero_le _
  | some y => exact S9 (h.kid (List.mem_of_getElem? hk))
 | false =>
  have h1 := h.nrm
  rw [norm] at h1
  injection h1 with _ _ h1
  rw [← h1]
  exact Nat.zero_le _
theorem SN {x : Raw} (h : Gd x) (p : List UInt8) : (dwn x p).2.2.1.length ≤ 16777216 := by
 obtain ⟨l, b, xs⟩ := x
 unfold dwn
 rw [show its (.mk l b xs) = xs from rfl]
 split
 ·
  cases p with
  | nil => exact JX h 16
  | cons c r =>
   dsimp only
   split <;> exact Nat.zero_le _
 ·
  split
  ·
   split
   · exact JX h 1
   · exact Nat.zero_le _
  · split <;> exact Nat.zero_le _
  · split <;> exact Nat.zero_le _
theorem rG {tot : List UInt8 × Nat} {f fu : Nat} {x : Raw} {p : List UInt8} {q : List (List UInt8)} (hx : Gd x) (hn : isN f x = true) (hp : ∀ c ∈ p, c.toNat < 16) (hpf : p.length < fu + 1) (h : DT fu x p q = tot) : TB tot (gB (bH f x).1 p).1 (gB (bH f x).1 p).2.1 (gB (bH f x).1 p).2.2 q ∧ ((gB (bH f x).1 p).1.isNil = true ∨ (gB (bH f x).1 p).2.1.length < p.length) := by
 unfold DT at h
 rcases Ot hx hn p hp with ⟨r, v, e1, e2, e3⟩ | ⟨g', k, r, e1, e2, e3, e4, e5⟩
 ·
  rw [e1, e2, if_neg Bool.false_ne_true] at h
  rw [e3]
  exact ⟨.inl ⟨rfl, h, by have := SN hx p; rw [e2] at this; exact this⟩, .inl rfl⟩
 ·
  rw [e1, if_pos rfl] at h
  rw [e2]
  exact ⟨.inr ⟨g', k, fu, e3, rfl, h, by dsimp only; omega, fun c hc => hp c (e5 c hc)⟩, .inr e4⟩
def msN (n : Nd) (p : List UInt8) : Nat := if n.isNil then 0 else p.length + 1
theorem uJ (root key : List UInt8) (q : List (List UInt8)) (hr : root.length = 32) (hk : key.length ≤ 150) : Fn 41 [.arr 32 root, .bs key, .sl 1 (q.map D.bs)] (· = Rt (qF root key q)) := by
 have hE := BL
 have hw := (nY root kE).1
 have hS := qx key (by omega)
 have hnib : ∀ c ∈ split key, c.toNat < 16 := fun c hc => by
  obtain ⟨y, _, hy⟩ := List.mem_flatMap.1 hc
  simp only [List.mem_cons, List.not_mem_nil, or_false] at hy
  rcases hy with rfl | rfl
  ·
   rw [UInt8.toNat_shiftRight]
   have := y.toNat_lt
   simp [Nat.shiftRight_eq_div_pow]
   omega
  ·
   rw [UInt8.toNat_and]
   have := Nat.and_two_pow_sub_one_eq_mod y.toNat 4
   simp at this ⊢
   omega
 have hsl := dG key
 refine FnM.toFn ?_
 unfold Rt
 generalize htot : qF root key q = tot
 have hI : TB tot (if root = kE then .nil else .hash root) (split key) [] q := by
  unfold qF at htot
  by_cases h0 : root = kE
  ·
   rw [if_pos h0] at htot ⊢
   exact .inl ⟨rfl, htot, Nat.zero_le _⟩
  ·
   rw [if_neg h0] at htot ⊢
   refine .inr ⟨40, .mk false root [], 400, Nh hr, ?_, htot, by omega, hnib⟩
   unfold gY
   rw [if_neg (show ¬ isL (.mk false root []) = true from Bool.false_ne_true), show bts (.mk false root []) = root from rfl, if_neg (by omega), if_pos hr]
 clear htot hk
 generalize split key = p0 at *
 refine FnM.walk 70 Tryz.func41 rfl Tryz.ntmps41 (by simp) fun X => ?_
 by_cases h0 : root = kE
 ·
  rw [if_pos h0] at hI
  rw [show (root == kE) = true by simp [h0]] at hw
  repeat
   (first
    | (apply gU; rfl; rfl; rfl; intro g; refine EL.le (Le.pin (p := 3) (pre := []) rfl rfl) ?_; simp only [List.nil_append]) | (apply ak; iterate 3 rfl)
    | (apply aK; iterate 5 rfl) | (apply fZ; iterate 4 rfl) | apply EL.nil | ((with_reducible apply EK.ah); apply EK.code)
    | (with_reducible first | apply EC.seq | apply EC.region))
  refine EC.draw 2 (by kernel_rfl) ?_
  simp only [List.take_succ_cons, List.take_zero, List.drop_succ_cons, List.drop_zero]
  repeat
   (first
    | (apply dW (hE); rfl; exact aj.refl _ _; exact enA; iterate 2 rfl) | (apply bM; iterate 5 rfl) | ((with_reducible apply EH.nil); rfl))
  repeat
   (first
    | (apply dY; (iterate 2 rfl); exact hw; iterate 2 rfl) | (apply aA (hS); rfl; exact aj.refl _ _; exact enA; iterate 2 rfl) | (apply au; iterate 3 rfl)
    | (apply ak; iterate 3 rfl) | apply EL.nil | ((with_reducible apply EK.ah); apply EK.code) | (apply EC.cond_true; rfl)
    | (with_reducible first | apply EC.seq | apply EC.region | apply EC.block))
  refine EC.le (Le.refine (t := 10) (d' := .bs []) rfl Rf.bs0) ?_
  refine EC.loop (ι := {x : Nd × List UInt8 × List UInt8 × List (List UInt8) // TB tot x.1 x.2.1 x.2.2.1 x.2.2.2})
   (fun x => ⟨[(9, .val (dN x.1.1)), (11, .val (.bs x.1.2.1)), (10, .val (.bs x.1.2.2.1)), (2, .val (.sl 1 (x.1.2.2.2.map D.bs)))], [], []⟩)
   (fun x => msN x.1.1 x.1.2.1) ⟨(.nil, p0, [], q), hI⟩ ?_ ?_
  ·
   dsimp only
   rw [dN]
   exact Le.kp
  rintro ⟨⟨n, p, v, q⟩, hc⟩
  dsimp only at hc ⊢
  have hml : (q.map D.bs).length = q.length := List.length_map _
  have hnn := kL n
  rcases hc with ⟨rfl, ht, hvl⟩ | ⟨f, y, fu, ⟨hg, hyy⟩, hny, hch, hpf, hp⟩
  ·
   rw [show Nd.nil.isNil = true from rfl] at hnn
   rw [dN] at hnn ⊢
   by_cases hz : q.length = 0
   ·
    rw [if_pos hz] at ht
    subst ht
    obtain rfl : q = [] := List.eq_nil_of_length_eq_zero hz
    have hCl := Ko v (by omega)
    dsimp only
    by_cases hv : 0 < v.length
    ·
     rw [show decide (0 < v.length) = true by simp [hv]]
     have hc0 : dL .gtr (v.length : Int) 0 = some true := by
      simp only [dL, Option.some.injEq, decide_eq_true_eq]
      omega
     repeat
      (first
       | (apply dY; (iterate 2 rfl); exact hnn; iterate 2 rfl) | (apply aA (hCl); rfl; exact aj.refl _ _; exact enA; iterate 2 rfl)
       | (apply aC (b := true); (iterate 2 rfl); exact hc0; iterate 2 rfl) | (apply au; iterate 3 rfl) | (apply ak; iterate 3 rfl)
       | (apply aC (b := false); (iterate 2 rfl); exact aO; iterate 2 rfl) | (apply aU; iterate 4 rfl) | (apply aJ; iterate 4 rfl) | apply EL.nil
       | ((with_reducible apply EK.ah); apply EK.code) | (apply EC.cond_false; rfl)
       | (with_reducible first | apply EC.seq | apply EC.region | apply EC.skip | apply EC.exit | apply EC.ret | apply EK.bG | apply EK.aQ))
     exact EK.iK [] rfl rfl rfl rfl RL.a RL.a RL.a (List.nil_sublist _) ⟨rfl, rfl⟩
    ·
     rw [show decide (0 < v.length) = false by simp [hv]]
     have hc0 : dL .gtr (v.length : Int) 0 = some false := by
      simp only [dL, Option.some.injEq, decide_eq_false_iff_not]
      omega
     repeat
      (first
       | (apply dY; (iterate 2 rfl); exact hnn; iterate 2 rfl) | (apply aA (hCl); rfl; exact aj.refl _ _; exact enA; iterate 2 rfl)
       | (apply aC (b := false); (iterate 2 rfl); exact hc0; iterate 2 rfl) | (apply au; iterate 3 rfl) | (apply ak; iterate 3 rfl)
       | (apply aC (b := false); (iterate 2 rfl); exact aO; iterate 2 rfl) | (apply aU; iterate 4 rfl) | (apply aJ; iterate 4 rfl) | apply EL.nil
       | ((with_reducible apply EK.ah); apply EK.code) | (apply EC.cond_false; rfl)
       | (with_reducible first | apply EC.seq | apply EC.region | apply EC.skip | apply EC.exit | apply EC.ret | apply EK.bG | apply EK.aQ))
     exact EK.iK [] rfl rfl rfl rfl RL.a RL.a RL.a (List.nil_sublist _) ⟨rfl, rfl⟩
   ·
    rw [if_neg hz] at ht
    subst ht
    have hc0 : dL .gtr ((q.map D.bs).length : Int) 0 = some true := by
     simp only [dL, Option.some.injEq, decide_eq_true_eq]
     omega
    repeat
     (first
      | (apply dY; (iterate 2 rfl); exact hnn; iterate 2 rfl) | (apply aC (b := true); (iterate 2 rfl); exact hc0; iterate 2 rfl) | (apply au; iterate 3 rfl)
      | (apply ak; iterate 3 rfl) | (apply aJ; iterate 4 rfl) | apply EL.nil | ((with_reducible apply EK.ah); apply EK.code) | (apply EC.cond_true; rfl)
      | (apply EC.cond_false; rfl) | (with_reducible first | apply EC.seq | apply EC.region | apply EC.exit | apply EC.ret | apply EK.bG | apply EK.aH | apply EK.aQ))
    exact EK.iK [] rfl rfl rfl rfl RL.a RL.a RL.a (List.nil_sublist _) ⟨rfl, rfl⟩
  ·
   obtain ⟨fu, rfl⟩ : ∃ n, fu = n + 1 := ⟨fu - 1, by omega⟩
   rcases hyy with ⟨hl, hn, h32⟩ | ⟨hl, h32⟩
   ·
    have hrf : (gY (bH f) y).1 = (bH f y).1 := by rw [qW hg hl, if_pos h32]
    obtain rfl := hny.trans hrf
    rw [Gy fu hl] at hch
    have hok : (bH f y).2 = true := by rw [kJ f y hg, hn]
    have hni := sS f y hok
    have hst := vO (bH f y).1 p hp
    obtain ⟨hnx, hms⟩ := rG hg hn hp (by omega) hch
    obtain ⟨T, d, ed, hne⟩ := Qr hni (uq f y)
    have hmm : msN (gB (bH f y).1 p).1 (gB (bH f y).1 p).2.1 < msN (bH f y).1 p := by
     unfold msN
     rw [hni, if_neg Bool.false_ne_true]
     rcases hms with h | h
     ·
      rw [if_pos h]
      omega
     · split <;> omega
    rw [hni] at hnn
    rw [ed] at hst hnn ⊢
    unfold stepD at hst
    generalize gB (bH f y).1 p = s at *
    obtain ⟨n2, p2, v2⟩ := s
    dsimp only at hst hnx hmm
    repeat
     (first
      | (apply dY; (iterate 2 rfl); exact hnn; iterate 2 rfl) | (apply aA (hst); rfl; exact aj.refl _ _; exact enA; iterate 2 rfl)
      | (apply iC; rfl; rfl; exact hne; iterate 3 rfl) | (apply au; iterate 3 rfl) | (apply ak; iterate 3 rfl) | (apply aF; iterate 4 rfl)
      | (apply aZ; rfl; rfl; rfl; intro _) | (apply aN; rfl; (focus (repeat first | exact .z | apply bC.s | apply aP.s)); iterate 4 rfl) | apply EL.nil
      | ((with_reducible apply EK.ah); apply EK.code) | (apply EC.cond_true; rfl) | (apply EC.cond_false; rfl)
      | (with_reducible first | apply EC.seq | apply EC.region | apply EC.skip | apply EC.block | apply EK.aI))
    refine EK.again ⟨(n2, p2, v2, q), hnx⟩ (by exact hmm) ?_
    exact Le.kp
   ·
    have hrf : (gY (bH f) y).1 = .hash (bts y) := by
     unfold gY
     rw [hl, if_neg Bool.false_ne_true, if_neg (by omega), if_pos h32]
    obtain rfl := hny.trans hrf
    rw [show (Nd.hash (bts y)).isNil = false from rfl] at hnn
    rw [dN] at hnn ⊢
    cases q with
    | nil =>
     rw [vP fu hl] at hch
     subst hch
     repeat
      (first
       | (apply dY; (iterate 2 rfl); exact hnn; iterate 2 rfl) | (apply au; iterate 3 rfl) | (apply ak; iterate 3 rfl) | (apply aF; iterate 4 rfl)
       | (apply eX; iterate 4 rfl) | (apply aZ; rfl; rfl; rfl; intro _)
       | (apply aN; rfl; (focus (repeat first | exact .z | apply bC.s | apply aP.s)); iterate 4 rfl) | apply EL.nil | ((with_reducible apply EK.ah); apply EK.code)
       | (apply EC.cond_true; rfl) | (with_reducible first | apply EC.seq | apply EC.region | apply EC.skip | apply EC.block))
     refine EC.draw 10 (by kernel_rfl) ?_
     simp only [List.take_succ_cons, List.take_zero, List.drop_succ_cons, List.drop_zero]
     repeat
      (first
       | (apply tJ; iterate 2 rfl) | (apply aY; iterate 3 rfl) | (apply jw (b := true); (iterate 2 rfl); exact aO; iterate 2 rfl)
       | (apply gV; iterate 4 rfl) | ((with_reducible apply EH.nil); rfl))
     repeat
      (first
       | (apply fF; iterate 2 rfl) | (apply ak; iterate 3 rfl) | (apply aT; iterate 4 rfl) | apply EL.nil | ((with_reducible apply EK.ah); apply EK.code)
       | (apply EC.cond_true; rfl) | (with_reducible first | apply EC.seq | apply EC.region | apply EC.ret | apply EK.dV | apply EK.aH))
     exact EK.iK [] rfl rfl rfl rfl RL.a RL.a RL.a (List.nil_sublist _) ⟨rfl, rfl⟩
    | cons b q =>
     rw [rF fu hl] at hch
     have hK := uK b
     have hb := (nY (hash b) (bts y)).2
     have hce : dL .eql (((b :: q).map D.bs).length : Int) 0 = some false := by
      have : ((b :: q).map D.bs).length = q.length + 1 := by simp
      simp only [dL, Option.some.injEq, beq_eq_false_iff_ne]
      omega
     have hat : ((b :: q).map D.bs)[0]? = some (.bs b) := rfl
     have hdr : ((b :: q).map D.bs).drop 1 = q.map D.bs := rfl
     by_cases he : hash b = bts y
     ·
      rw [if_pos he] at hch
      rw [show (hash b != bts y) = false by simp [he]] at hb
      have hR := J7 b
      have hgx := CX b
      by_cases hok : rdE b = 0 ∧ isN 40 (rdX b) = true
      ·
       rw [if_pos hok] at hch
       have hrd : Ai b = ((bH 40 (rdX b)).1, true) := by
        unfold Ai
        rw [if_pos hok, ← hok.2, ← kJ 40 (rdX b) hgx]
       rw [hrd] at hR
       unfold jv at hR
       obtain ⟨hnx, hms⟩ := rG hgx hok.2 hp (by omega) hch
       have hst := vO (bH 40 (rdX b)).1 p hp
       have hmm : msN (gB (bH 40 (rdX b)).1 p).1 (gB (bH 40 (rdX b)).1 p).2.1 < msN (.hash (bts y)) p := by
        unfold msN
        rw [show (Nd.hash (bts y)).isNil = false from rfl, if_neg Bool.false_ne_true]
        rcases hms with h | h
        ·
         rw [if_pos h]
         omega
        · split <;> omega
       dsimp only at hR
       unfold stepD at hst
       generalize gB (bH 40 (rdX b)).1 p = s at *
       generalize (bH 40 (rdX b)).1 = nd at *
       obtain ⟨n2, p2, v2⟩ := s
       dsimp only at hst hnx hmm
       repeat
        (first
         | (apply dY; (iterate 2 rfl); exact hnn; iterate 2 rfl) | (apply au; iterate 3 rfl) | (apply ak; iterate 3 rfl) | (apply aF; iterate 4 rfl)
         | (apply eX; iterate 4 rfl) | (apply aZ; rfl; rfl; rfl; intro _)
         | (apply aN; rfl; (focus (repeat first | exact .z | apply bC.s | apply aP.s)); iterate 4 rfl) | apply EL.nil | ((with_reducible apply EK.ah); apply EK.code)
         | (apply EC.cond_true; rfl) | (with_reducible first | apply EC.seq | apply EC.region | apply EC.skip | apply EC.block))
       refine EC.draw 10 (by kernel_rfl) ?_
       simp only [List.take_succ_cons, List.take_zero, List.drop_succ_cons, List.drop_zero]
       repeat
        (first
         | (apply dW (hK); rfl; exact aj.refl _ _; exact enA; iterate 2 rfl) | (apply jw (b := false); (iterate 2 rfl); exact hce; iterate 2 rfl)
         | (apply aY; iterate 3 rfl) | (apply bM; iterate 5 rfl) | (apply dH; rfl; exact I.a; iterate 4 rfl) | (apply gV; iterate 4 rfl)
         | (apply dI; (iterate 4 rfl); (focus (first | exact ⟨by decide, rfl⟩ | (refine ⟨by omega, ?_⟩; rw [Int.toNat_natCast]; assumption))); iterate 2 rfl)
         | (apply kY; iterate 9 rfl) | ((with_reducible apply EH.nil); rfl))
       repeat
        (first
         | (apply dY; (iterate 2 rfl); exact hb; iterate 2 rfl) | (apply aA (hR); rfl; exact aj.refl _ _; exact enA; iterate 2 rfl)
         | (apply bJ; (iterate 4 rfl); exact ⟨by decide, hat⟩; iterate 2 rfl) | (apply au; iterate 3 rfl) | (apply ak; iterate 3 rfl)
         | (apply aF; iterate 4 rfl) | (apply aK; iterate 5 rfl) | (apply aT; iterate 4 rfl) | (apply dP; iterate 3 rfl) | apply EL.nil
         | ((with_reducible apply EK.ah); apply EK.code) | (apply EC.cond_false; rfl) | (with_reducible first | apply EC.seq | apply EC.region | apply EC.skip))
       refine EC.draw 4 (by kernel_rfl) ?_
       simp only [List.take_succ_cons, List.take_zero, List.drop_succ_cons, List.drop_zero]
       repeat
        (first
         | (apply G8; (iterate 3 rfl); exact ⟨by decide, (by simp)⟩; iterate 2 rfl) | (apply aY; iterate 3 rfl) | (apply gy; iterate 3 rfl)
         | ((with_reducible apply EH.nil); rfl))
       repeat
        (first
         | (apply aA (hst); rfl; exact aj.refl _ _; exact enA; iterate 2 rfl) | (apply au; iterate 3 rfl) | (apply ak; iterate 3 rfl)
         | (apply aF; iterate 4 rfl) | apply EL.nil | ((with_reducible apply EK.ah); apply EK.code) | (with_reducible first | apply EC.region | apply EK.aI))
       refine EK.again ⟨(n2, p2, v2, q), hnx⟩ (by exact hmm) ?_
       exact Le.kp
      ·
       rw [if_neg hok] at hch
       subst hch
       have hrd : Ai b = (.nil, false) := by
        unfold Ai
        rw [if_neg hok]
       rw [hrd] at hR
       unfold jv at hR
       dsimp only at hR
       repeat
        (first
         | (apply dY; (iterate 2 rfl); exact hnn; iterate 2 rfl) | (apply au; iterate 3 rfl) | (apply ak; iterate 3 rfl) | (apply aF; iterate 4 rfl)
         | (apply eX; iterate 4 rfl) | (apply aZ; rfl; rfl; rfl; intro _)
         | (apply aN; rfl; (focus (repeat first | exact .z | apply bC.s | apply aP.s)); iterate 4 rfl) | apply EL.nil | ((with_reducible apply EK.ah); apply EK.code)
         | (apply EC.cond_true; rfl) | (with_reducible first | apply EC.seq | apply EC.region | apply EC.skip | apply EC.block))
       refine EC.draw 10 (by kernel_rfl) ?_
       simp only [List.take_succ_cons, List.take_zero, List.drop_succ_cons, List.drop_zero]
       repeat
        (first
         | (apply dW (hK); rfl; exact aj.refl _ _; exact enA; iterate 2 rfl) | (apply jw (b := false); (iterate 2 rfl); exact hce; iterate 2 rfl)
         | (apply aY; iterate 3 rfl) | (apply bM; iterate 5 rfl) | (apply dH; rfl; exact I.a; iterate 4 rfl) | (apply gV; iterate 4 rfl)
         | (apply dI; (iterate 4 rfl); (focus (first | exact ⟨by decide, rfl⟩ | (refine ⟨by omega, ?_⟩; rw [Int.toNat_natCast]; assumption))); iterate 2 rfl)
         | (apply kY; iterate 9 rfl) | ((with_reducible apply EH.nil); rfl))
       repeat
        (first
         | (apply dY; (iterate 2 rfl); exact hb; iterate 2 rfl) | (apply aA (hR); rfl; exact aj.refl _ _; exact enA; iterate 2 rfl)
         | (apply bJ; (iterate 4 rfl); exact ⟨by decide, hat⟩; iterate 2 rfl) | (apply au; iterate 3 rfl) | (apply ak; iterate 3 rfl)
         | (apply aF; iterate 4 rfl) | (apply aK; iterate 5 rfl) | (apply aT; iterate 4 rfl) | (apply dP; iterate 3 rfl) | apply EL.nil
         | ((with_reducible apply EK.ah); apply EK.code) | (apply EC.cond_true; rfl) | (apply EC.cond_false; rfl)
         | (with_reducible first | apply EC.seq | apply EC.region | apply EC.skip | apply EC.ret | apply EK.dV | apply EK.aH))
       exact EK.iK [] rfl rfl rfl rfl RL.a RL.a RL.a (List.nil_sublist _) ⟨rfl, rfl⟩
     ·
      rw [if_neg he] at hch
      subst hch
      rw [show (hash b != bts y) = true by simp [he]] at hb
      repeat
       (first
        | (apply dY; (iterate 2 rfl); exact hnn; iterate 2 rfl) | (apply au; iterate 3 rfl) | (apply ak; iterate 3 rfl) | (apply aF; iterate 4 rfl)
        | (apply eX; iterate 4 rfl) | (apply aZ; rfl; rfl; rfl; intro _)
        | (apply aN; rfl; (focus (repeat first | exact .z | apply bC.s | apply aP.s)); iterate 4 rfl) | apply EL.nil | ((with_reducible apply EK.ah); apply EK.code)
        | (apply EC.cond_true; rfl) | (with_reducible first | apply EC.seq | apply EC.region | apply EC.skip | apply EC.block))
      refine EC.draw 10 (by kernel_rfl) ?_
      simp only [List.take_succ_cons, List.take_zero, List.drop_succ_cons, List.drop_zero]
      repeat
       (first
        | (apply dW (hK); rfl; exact aj.refl _ _; exact enA; iterate 2 rfl) | (apply jw (b := false); (iterate 2 rfl); exact hce; iterate 2 rfl)
        | (apply aY; iterate 3 rfl) | (apply bM; iterate 5 rfl) | (apply dH; rfl; exact I.a; iterate 4 rfl) | (apply gV; iterate 4 rfl)
        | (apply dI; (iterate 4 rfl); (focus (first | exact ⟨by decide, rfl⟩ | (refine ⟨by omega, ?_⟩; rw [Int.toNat_natCast]; assumption))); iterate 2 rfl)
        | (apply kY; iterate 9 rfl) | ((with_reducible apply EH.nil); rfl))
      repeat
       (first
        | (apply dY; (iterate 2 rfl); exact hb; iterate 2 rfl) | (apply ak; iterate 3 rfl) | (apply aT; iterate 4 rfl) | apply EL.nil
        | ((with_reducible apply EK.ah); apply EK.code) | (apply EC.cond_true; rfl) | (with_reducible first | apply EC.seq | apply EC.region | apply EC.ret | apply EK.dV | apply EK.aH))
      exact EK.iK [] rfl rfl rfl rfl RL.a RL.a RL.a (List.nil_sublist _) ⟨rfl, rfl⟩
 ·
  rw [if_neg h0] at hI
  rw [show (root == kE) = false by simp [h0]] at hw
  repeat
   (first
    | (apply gU; rfl; rfl; rfl; intro g; refine EL.le (Le.pin (p := 3) (pre := []) rfl rfl) ?_; simp only [List.nil_append]) | (apply ak; iterate 3 rfl)
    | (apply aK; iterate 5 rfl) | (apply fZ; iterate 4 rfl) | apply EL.nil | ((with_reducible apply EK.ah); apply EK.code)
    | (with_reducible first | apply EC.seq | apply EC.region))
  refine EC.draw 2 (by kernel_rfl) ?_
  simp only [List.take_succ_cons, List.take_zero, List.drop_succ_cons, List.drop_zero]
  repeat
   (first
    | (apply dW (hE); rfl; exact aj.refl _ _; exact enA; iterate 2 rfl) | (apply bM; iterate 5 rfl) | ((with_reducible apply EH.nil); rfl))
  repeat
   (first
    | (apply dY; (iterate 2 rfl); exact hw; iterate 2 rfl) | (apply aA (hS); rfl; exact aj.refl _ _; exact enA; iterate 2 rfl) | (apply au; iterate 3 rfl)
    | (apply ak; iterate 3 rfl) | apply EL.nil | ((with_reducible apply EK.ah); apply EK.code) | (apply EC.cond_false; rfl)
    | (with_reducible first | apply EC.seq | apply EC.region | apply EC.skip | apply EC.block))
  refine EC.le (Le.refine (t := 10) (d' := .bs []) rfl Rf.bs0) ?_
  refine EC.loop (ι := {x : Nd × List UInt8 × List UInt8 × List (List UInt8) // TB tot x.1 x.2.1 x.2.2.1 x.2.2.2})
   (fun x => ⟨[(9, .val (dN x.1.1)), (11, .val (.bs x.1.2.1)), (10, .val (.bs x.1.2.2.1)), (2, .val (.sl 1 (x.1.2.2.2.map D.bs)))], [], []⟩)
   (fun x => msN x.1.1 x.1.2.1) ⟨(.hash root, p0, [], q), hI⟩ ?_ ?_
  ·
   dsimp only
   rw [dN]
   exact Le.kp
  rintro ⟨⟨n, p, v, q⟩, hc⟩
  dsimp only at hc ⊢
  have hml : (q.map D.bs).length = q.length := List.length_map _
  have hnn := kL n
  rcases hc with ⟨rfl, ht, hvl⟩ | ⟨f, y, fu, ⟨hg, hyy⟩, hny, hch, hpf, hp⟩
  ·
   rw [show Nd.nil.isNil = true from rfl] at hnn
   rw [dN] at hnn ⊢
   by_cases hz : q.length = 0
   ·
    rw [if_pos hz] at ht
    subst ht
    obtain rfl : q = [] := List.eq_nil_of_length_eq_zero hz
    have hCl := Ko v (by omega)
    dsimp only
    by_cases hv : 0 < v.length
    ·
     rw [show decide (0 < v.length) = true by simp [hv]]
     have hc0 : dL .gtr (v.length : Int) 0 = some true := by
      simp only [dL, Option.some.injEq, decide_eq_true_eq]
      omega
     repeat
      (first
       | (apply dY; (iterate 2 rfl); exact hnn; iterate 2 rfl) | (apply aA (hCl); rfl; exact aj.refl _ _; exact enA; iterate 2 rfl)
       | (apply aC (b := true); (iterate 2 rfl); exact hc0; iterate 2 rfl) | (apply au; iterate 3 rfl) | (apply ak; iterate 3 rfl)
       | (apply aC (b := false); (iterate 2 rfl); exact aO; iterate 2 rfl) | (apply aU; iterate 4 rfl) | (apply aJ; iterate 4 rfl) | apply EL.nil
       | ((with_reducible apply EK.ah); apply EK.code) | (apply EC.cond_false; rfl)
       | (with_reducible first | apply EC.seq | apply EC.region | apply EC.skip | apply EC.exit | apply EC.ret | apply EK.bG | apply EK.aQ))
     exact EK.iK [] rfl rfl rfl rfl RL.a RL.a RL.a (List.nil_sublist _) ⟨rfl, rfl⟩
    ·
     rw [show decide (0 < v.length) = false by simp [hv]]
     have hc0 : dL .gtr (v.length : Int) 0 = some false := by
      simp only [dL, Option.some.injEq, decide_eq_false_iff_not]
      omega
     repeat
      (first
       | (apply dY; (iterate 2 rfl); exact hnn; iterate 2 rfl) | (apply aA (hCl); rfl; exact aj.refl _ _; exact enA; iterate 2 rfl)
       | (apply aC (b := false); (iterate 2 rfl); exact hc0; iterate 2 rfl) | (apply au; iterate 3 rfl) | (apply ak; iterate 3 rfl)
       | (apply aC (b := false); (iterate 2 rfl); exact aO; iterate 2 rfl) | (apply aU; iterate 4 rfl) | (apply aJ; iterate 4 rfl) | apply EL.nil
       | ((with_reducible apply EK.ah); apply EK.code) | (apply EC.cond_false; rfl)
       | (with_reducible first | apply EC.seq | apply EC.region | apply EC.skip | apply EC.exit | apply EC.ret | apply EK.bG | apply EK.aQ))
     exact EK.iK [] rfl rfl rfl rfl RL.a RL.a RL.a (List.nil_sublist _) ⟨rfl, rfl⟩
   ·
    rw [if_neg hz] at ht
    subst ht
    have hc0 : dL .gtr ((q.map D.bs).length : Int) 0 = some true := by
     simp only [dL, Option.some.injEq, decide_eq_true_eq]
     omega
    repeat
     (first
      | (apply dY; (iterate 2 rfl); exact hnn; iterate 2 rfl) | (apply aC (b := true); (iterate 2 rfl); exact hc0; iterate 2 rfl) | (apply au; iterate 3 rfl)
      | (apply ak; iterate 3 rfl) | (apply aJ; iterate 4 rfl) | apply EL.nil | ((with_reducible apply EK.ah); apply EK.code) | (apply EC.cond_true; rfl)
      | (apply EC.cond_false; rfl) | (with_reducible first | apply EC.seq | apply EC.region | apply EC.exit | apply EC.ret | apply EK.bG | apply EK.aH | apply EK.aQ))
    exact EK.iK [] rfl rfl rfl rfl RL.a RL.a RL.a (List.nil_sublist _) ⟨rfl, rfl⟩
  ·
   obtain ⟨fu, rfl⟩ : ∃ n, fu = n + 1 := ⟨fu - 1, by omega⟩
   rcases hyy with ⟨hl, hn, h32⟩ | ⟨hl, h32⟩
   ·
    have hrf : (gY (bH f) y).1 = (bH f y).1 := by rw [qW hg hl, if_pos h32]
    obtain rfl := hny.trans hrf
    rw [Gy fu hl] at hch
    have hok : (bH f y).2 = true := by rw [kJ f y hg, hn]
    have hni := sS f y hok
    have hst := vO (bH f y).1 p hp
    obtain ⟨hnx, hms⟩ := rG hg hn hp (by omega) hch
    obtain ⟨T, d, ed, hne⟩ := Qr hni (uq f y)
    have hmm : msN (gB (bH f y).1 p).1 (gB (bH f y).1 p).2.1 < msN (bH f y).1 p := by
     unfold msN
     rw [hni, if_neg Bool.false_ne_true]
     rcases hms with h | h
     ·
      rw [if_pos h]
      omega
     · split <;> omega
    rw [hni] at hnn
    rw [ed] at hst hnn ⊢
    unfold stepD at hst
    generalize gB (bH f y).1 p = s at *
    obtain ⟨n2, p2, v2⟩ := s
    dsimp only at hst hnx hmm
    repeat
     (first
      | (apply dY; (iterate 2 rfl); exact hnn; iterate 2 rfl) | (apply aA (hst); rfl; exact aj.refl _ _; exact enA; iterate 2 rfl)
      | (apply iC; rfl; rfl; exact hne; iterate 3 rfl) | (apply au; iterate 3 rfl) | (apply ak; iterate 3 rfl) | (apply aF; iterate 4 rfl)
      | (apply aZ; rfl; rfl; rfl; intro _) | (apply aN; rfl; (focus (repeat first | exact .z | apply bC.s | apply aP.s)); iterate 4 rfl) | apply EL.nil
      | ((with_reducible apply EK.ah); apply EK.code) | (apply EC.cond_true; rfl) | (apply EC.cond_false; rfl)
      | (with_reducible first | apply EC.seq | apply EC.region | apply EC.skip | apply EC.block | apply EK.aI))
    refine EK.again ⟨(n2, p2, v2, q), hnx⟩ (by exact hmm) ?_
    exact Le.kp
   ·
    have hrf : (gY (bH f) y).1 = .hash (bts y) := by
     unfold gY
     rw [hl, if_neg Bool.false_ne_true, if_neg (by omega), if_pos h32]
    obtain rfl := hny.trans hrf
    rw [show (Nd.hash (bts y)).isNil = false from rfl] at hnn
    rw [dN] at hnn ⊢
    cases q with
    | nil =>
     rw [vP fu hl] at hch
     subst hch
     repeat
      (first
       | (apply dY; (iterate 2 rfl); exact hnn; iterate 2 rfl) | (apply au; iterate 3 rfl) | (apply ak; iterate 3 rfl) | (apply aF; iterate 4 rfl)
       | (apply eX; iterate 4 rfl) | (apply aZ; rfl; rfl; rfl; intro _)
       | (apply aN; rfl; (focus (repeat first | exact .z | apply bC.s | apply aP.s)); iterate 4 rfl) | apply EL.nil | ((with_reducible apply EK.ah); apply EK.code)
       | (apply EC.cond_true; rfl) | (with_reducible first | apply EC.seq | apply EC.region | apply EC.skip | apply EC.block))
     refine EC.draw 10 (by kernel_rfl) ?_
     simp only [List.take_succ_cons, List.take_zero, List.drop_succ_cons, List.drop_zero]
     repeat
      (first
       | (apply tJ; iterate 2 rfl) | (apply aY; iterate 3 rfl) | (apply jw (b := true); (iterate 2 rfl); exact aO; iterate 2 rfl)
       | (apply gV; iterate 4 rfl) | ((with_reducible apply EH.nil); rfl))
     repeat
      (first
       | (apply fF; iterate 2 rfl) | (apply ak; iterate 3 rfl) | (apply aT; iterate 4 rfl) | apply EL.nil | ((with_reducible apply EK.ah); apply EK.code)
       | (apply EC.cond_true; rfl) | (with_reducible first | apply EC.seq | apply EC.region | apply EC.ret | apply EK.dV | apply EK.aH))
     exact EK.iK [] rfl rfl rfl rfl RL.a RL.a RL.a (List.nil_sublist _) ⟨rfl, rfl⟩
    | cons b q =>
     rw [rF fu hl] at hch
     have hK := uK b
     have hb := (nY (hash b) (bts y)).2
     have hce : dL .eql (((b :: q).map D.bs).length : Int) 0 = some false := by
      have : ((b :: q).map D.bs).length = q.length + 1 := by simp
      simp only [dL, Option.some.injEq, beq_eq_false_iff_ne]
      omega
     have hat : ((b :: q).map D.bs)[0]? = some (.bs b) := rfl
     have hdr : ((b :: q).map D.bs).drop 1 = q.map D.bs := rfl
     by_cases he : hash b = bts y
     ·
      rw [if_pos he] at hch
      rw [show (hash b != bts y) = false by simp [he]] at hb
      have hR := J7 b
      have hgx := CX b
      by_cases hok : rdE b = 0 ∧ isN 40 (rdX b) = true
      ·
       rw [if_pos hok] at hch
       have hrd : Ai b = ((bH 40 (rdX b)).1, true) := by
        unfold Ai
        rw [if_pos hok, ← hok.2, ← kJ 40 (rdX b) hgx]
       rw [hrd] at hR
       unfold jv at hR
       obtain ⟨hnx, hms⟩ := rG hgx hok.2 hp (by omega) hch
       have hst := vO (bH 40 (rdX b)).1 p hp
       have hmm : msN (gB (bH 40 (rdX b)).1 p).1 (gB (bH 40 (rdX b)).1 p).2.1 < msN (.hash (bts y)) p := by
        unfold msN
        rw [show (Nd.hash (bts y)).isNil = false from rfl, if_neg Bool.false_ne_true]
        rcases hms with h | h
        ·
         rw [if_pos h]
         omega
        · split <;> omega
       dsimp only at hR
       unfold stepD at hst
       generalize gB (bH 40 (rdX b)).1 p = s at *
       generalize (bH 40 (rdX b)).1 = nd at *
       obtain ⟨n2, p2, v2⟩ := s
       dsimp only at hst hnx hmm
       repeat
        (first
         | (apply dY; (iterate 2 rfl); exact hnn; iterate 2 rfl) | (apply au; iterate 3 rfl) | (apply ak; iterate 3 rfl) | (apply aF; iterate 4 rfl)
         | (apply eX; iterate 4 rfl) | (apply aZ; rfl; rfl; rfl; intro _)
         | (apply aN; rfl; (focus (repeat first | exact .z | apply bC.s | apply aP.s)); iterate 4 rfl) | apply EL.nil | ((with_reducible apply EK.ah); apply EK.code)
         | (apply EC.cond_true; rfl) | (with_reducible first | apply EC.seq | apply EC.region | apply EC.skip | apply EC.block))
       refine EC.draw 10 (by kernel_rfl) ?_
       simp only [List.take_succ_cons, List.take_zero, List.drop_succ_cons, List.drop_zero]
       repeat
        (first
         | (apply dW (hK); rfl; exact aj.refl _ _; exact enA; iterate 2 rfl) | (apply jw (b := false); (iterate 2 rfl); exact hce; iterate 2 rfl)
         | (apply aY; iterate 3 rfl) | (apply bM; iterate 5 rfl) | (apply dH; rfl; exact I.a; iterate 4 rfl) | (apply gV; iterate 4 rfl)
         | (apply dI; (iterate 4 rfl); (focus (first | exact ⟨by decide, rfl⟩ | (refine ⟨by omega, ?_⟩; rw [Int.toNat_natCast]; assumption))); iterate 2 rfl)
         | (apply kY; iterate 9 rfl) | ((with_reducible apply EH.nil); rfl))
       repeat
        (first
         | (apply dY; (iterate 2 rfl); exact hb; iterate 2 rfl) | (apply aA (hR); rfl; exact aj.refl _ _; exact enA; iterate 2 rfl)
         | (apply bJ; (iterate 4 rfl); exact ⟨by decide, hat⟩; iterate 2 rfl) | (apply au; iterate 3 rfl) | (apply ak; iterate 3 rfl)
         | (apply aF; iterate 4 rfl) | (apply aK; iterate 5 rfl) | (apply aT; iterate 4 rfl) | (apply dP; iterate 3 rfl) | apply EL.nil
         | ((with_reducible apply EK.ah); apply EK.code) | (apply EC.cond_false; rfl) | (with_reducible first | apply EC.seq | apply EC.region | apply EC.skip))
       refine EC.draw 4 (by kernel_rfl) ?_
       simp only [List.take_succ_cons, List.take_zero, List.drop_succ_cons, List.drop_zero]
       repeat
        (first
         | (apply G8; (iterate 3 rfl); exact ⟨by decide, (by simp)⟩; iterate 2 rfl) | (apply aY; iterate 3 rfl) | (apply gy; iterate 3 rfl)
         | ((with_reducible apply EH.nil); rfl))
       repeat
        (first
         | (apply aA (hst); rfl; exact aj.refl _ _; exact enA; iterate 2 rfl) | (apply au; iterate 3 rfl) | (apply ak; iterate 3 rfl)
         | (apply aF; iterate 4 rfl) | apply EL.nil | ((with_reducible apply EK.ah); apply EK.code) | (with_reducible first | apply EC.region | apply EK.aI))
       refine EK.again ⟨(n2, p2, v2, q), hnx⟩ (by exact hmm) ?_
       exact Le.kp
      ·
       rw [if_neg hok] at hch
       subst hch
       have hrd : Ai b = (.nil, false) := by
        unfold Ai
        rw [if_neg hok]
       rw [hrd] at hR
       unfold jv at hR
       dsimp only at hR
       repeat
        (first
         | (apply dY; (iterate 2 rfl); exact hnn; iterate 2 rfl) | (apply au; iterate 3 rfl) | (apply ak; iterate 3 rfl) | (apply aF; iterate 4 rfl)
         | (apply eX; iterate 4 rfl) | (apply aZ; rfl; rfl; rfl; intro _)
         | (apply aN; rfl; (focus (repeat first | exact .z | apply bC.s | apply aP.s)); iterate 4 rfl) | apply EL.nil | ((with_reducible apply EK.ah); apply EK.code)
         | (apply EC.cond_true; rfl) | (with_reducible first | apply EC.seq | apply EC.region | apply EC.skip | apply EC.block))
       refine EC.draw 10 (by kernel_rfl) ?_
       simp only [List.take_succ_cons, List.take_zero, List.drop_succ_cons, List.drop_zero]
       repeat
        (first
         | (apply dW (hK); rfl; exact aj.refl _ _; exact enA; iterate 2 rfl) | (apply jw (b := false); (iterate 2 rfl); exact hce; iterate 2 rfl)
         | (apply aY; iterate 3 rfl) | (apply bM; iterate 5 rfl) | (apply dH; rfl; exact I.a; iterate 4 rfl) | (apply gV; iterate 4 rfl)
         | (apply dI; (iterate 4 rfl); (focus (first | exact ⟨by decide, rfl⟩ | (refine ⟨by omega, ?_⟩; rw [Int.toNat_natCast]; assumption))); iterate 2 rfl)
         | (apply kY; iterate 9 rfl) | ((with_reducible apply EH.nil); rfl))
       repeat
        (first
         | (apply dY; (iterate 2 rfl); exact hb; iterate 2 rfl) | (apply aA (hR); rfl; exact aj.refl _ _; exact enA; iterate 2 rfl)
         | (apply bJ; (iterate 4 rfl); exact ⟨by decide, hat⟩; iterate 2 rfl) | (apply au; iterate 3 rfl) | (apply ak; iterate 3 rfl)
         | (apply aF; iterate 4 rfl) | (apply aK; iterate 5 rfl) | (apply aT; iterate 4 rfl) | (apply dP; iterate 3 rfl) | apply EL.nil
         | ((with_reducible apply EK.ah); apply EK.code) | (apply EC.cond_true; rfl) | (apply EC.cond_false; rfl)
         | (with_reducible first | apply EC.seq | apply EC.region | apply EC.skip | apply EC.ret | apply EK.dV | apply EK.aH))
       exact EK.iK [] rfl rfl rfl rfl RL.a RL.a RL.a (List.nil_sublist _) ⟨rfl, rfl⟩
     ·
      rw [if_neg he] at hch
      subst hch
      rw [show (hash b != bts y) = true by simp [he]] at hb
      repeat
       (first
        | (apply dY; (iterate 2 rfl); exact hnn; iterate 2 rfl) | (apply au; iterate 3 rfl) | (apply ak; iterate 3 rfl) | (apply aF; iterate 4 rfl)
        | (apply eX; iterate 4 rfl) | (apply aZ; rfl; rfl; rfl; intro _)
        | (apply aN; rfl; (focus (repeat first | exact .z | apply bC.s | apply aP.s)); iterate 4 rfl) | apply EL.nil | ((with_reducible apply EK.ah); apply EK.code)
        | (apply EC.cond_true; rfl) | (with_reducible first | apply EC.seq | apply EC.region | apply EC.skip | apply EC.block))
      refine EC.draw 10 (by kernel_rfl) ?_
      simp only [List.take_succ_cons, List.take_zero, List.drop_succ_cons, List.drop_zero]
      repeat
       (first
        | (apply dW (hK); rfl; exact aj.refl _ _; exact enA; iterate 2 rfl) | (apply jw (b := false); (iterate 2 rfl); exact hce; iterate 2 rfl)
        | (apply aY; iterate 3 rfl) | (apply bM; iterate 5 rfl) | (apply dH; rfl; exact I.a; iterate 4 rfl) | (apply gV; iterate 4 rfl)
        | (apply dI; (iterate 4 rfl); (focus (first | exact ⟨by decide, rfl⟩ | (refine ⟨by omega, ?_⟩; rw [Int.toNat_natCast]; assumption))); iterate 2 rfl)
        | (apply kY; iterate 9 rfl) | ((with_reducible apply EH.nil); rfl))
      repeat
       (first
        | (apply dY; (iterate 2 rfl); exact hb; iterate 2 rfl) | (apply ak; iterate 3 rfl) | (apply aT; iterate 4 rfl) | apply EL.nil
        | ((with_reducible apply EK.ah); apply EK.code) | (apply EC.cond_true; rfl) | (with_reducible first | apply EC.seq | apply EC.region | apply EC.ret | apply EK.dV | apply EK.aH))
      exact EK.iK [] rfl rfl rfl rfl RL.a RL.a RL.a (List.nil_sublist _) ⟨rfl, rfl⟩
theorem Dj (x : UInt8) : (x >>> 4).toNat = x.toNat / 16 := by rw [UInt8.toNat_shiftRight]; simp [Nat.shiftRight_eq_div_pow]
theorem Di (x : UInt8) : (x &&& 15).toNat = x.toNat % 16 := by rw [UInt8.toNat_and]; exact Nat.and_two_pow_sub_one_eq_mod _ 4
theorem iU (l : List UInt8) : ∀ x ∈ split l, x.toNat ≤ 15 := by
 intro x hx
 obtain ⟨y, _, hy⟩ := List.mem_flatMap.1 hx
 simp only [List.mem_cons, List.not_mem_nil, or_false] at hy
 rcases hy with rfl | rfl
 · rw [Dj]; have := y.toNat_lt; omega
 · rw [Di]; omega
theorem Wy : ∀ (f : Nat) (l : List Pr) (at_ : Nat), (∀ x ∈ l, x.1.length ≤ 536870912) → (bdF f l at_).ok := by
 intro f
 induction f with
 | zero => intro l at_ h; exact trivial
 | succ f ih =>
  intro l at_ h
  match l with
  | [] => exact trivial
  | [x] =>
   show (x.1.drop at_).length ≤ 536870912
   have := h x (by simp)
   rw [List.length_drop]
   omega
  | x :: y :: r =>
   have hx := h x (by simp)
   rw [bdF]
   split
   ·
    refine ⟨?_, ih _ _ h⟩
    rw [List.length_take, List.length_drop]
    omega
   ·
    split
    · exact fun i => ih _ _ fun z hz => h z (List.mem_cons_of_mem _ ((List.mem_filter.1 hz).1))
    · exact fun i => ih _ _ fun z hz => h z ((List.mem_filter.1 hz).1)
def fP (l : List Pr) : Nat := if 100000 < l.length ∨ l.any lg = true then 3 else if l.any (·.2.isEmpty) = true then 1 else if ((l.map sp).map (·.1)).Nodup then 0 else 1
def kT (l : List Pr) : Tn := bdF 200 (srt (l.map sp)) 0
theorem lN {l : List Pr} (h : fP l = 0) : vw l = .tpl [.sl 2 ((srt (l.map sp)).map dPr), .v (.int .i64 0)] ∧ l.any lg = false ∧ ((l.map sp).map (·.1)).Nodup := by
 unfold fP at h
 unfold vw
 split at h
 · cases h
 ·
  rename_i h1
  rw [if_neg h1]
  split at h
  · cases h
  ·
   rename_i h2
   rw [if_neg h2]
   split at h
   ·
    rename_i h3
    rw [if_pos h3]
    exact ⟨rfl, by simpa using fun e => h1 (.inr e), h3⟩
   · cases h
theorem Iy {l : List Pr} (h : fP l ≠ 0) : vw l = .tpl [.v (.slice none 0 0), .v (.int .i64 (fP l : Int))] := by
 unfold fP at h ⊢
 unfold vw
 split
 · rfl
 ·
  rename_i h1
  rw [if_neg h1] at h
  split
  · rfl
  ·
   rename_i h2
   rw [if_neg h2] at h
   split
   ·
    rename_i h3
    rw [if_pos h3] at h
    exact absurd rfl h
   · rfl
theorem yF {l : List Pr} (hn : ((l.map sp).map (·.1)).Nodup) : jX 0 (srt (l.map sp)) := by
 refine ⟨?_, fun x _ => Nat.zero_le _, fun x _ y _ => rfl, fun x hx b hb => ?_⟩
 ·
  have h1 := yj (l.map sp)
  have h2 : ((srt (l.map sp)).map (·.1)).Nodup := ((gX (l.map sp)).map (·.1)).nodup_iff.2 hn
  unfold List.Nodup at h2
  rw [List.pairwise_map] at h2
  refine (h1.and h2).imp fun h => ?_
  exact Classical.byContradiction fun hn => h.2 (List.le_antisymm h.1 (List.not_lt.1 hn))
 ·
  obtain ⟨y, _, rfl⟩ := List.mem_map.1 ((gX (l.map sp)).mem_iff.1 hx)
  have := iU y.1 b hb
  omega
theorem Jc (l : List Pr) : Fn 69 [.sl 2 (l.map dPr)] (· = .tpl [if fP l = 0 then dT (kT l) else .v .nilIface, .v (.int .i64 (fP l : Int))]) := by
 have h1 := SC l
 refine Fn.walk 16 Tryz.func69 rfl Tryz.ntmps69 (by simp) fun X => ?_
 by_cases he : fP l = 0
 ·
  obtain ⟨e1, e2, e3⟩ := lN he
  rw [e1] at h1
  rw [if_pos he, he]
  have hlen : ∀ x ∈ srt (l.map sp), x.1.length ≤ 128 := fun x hx => by
   obtain ⟨y, hy, rfl⟩ := List.mem_map.1 ((gX (l.map sp)).mem_iff.1 hx)
   have := iL e2 hy
   show (split y.1).length ≤ 128
   rw [dG]
   omega
  have h2 := SH 200 (srt (l.map sp)) 0 (yF e3) (fun x hx => by have := hlen x hx; omega) (fun x hx => by have := hlen x hx; omega)
  repeat
   (first
    | (apply aA (h1); rfl; exact aj.refl _ _; exact enA; iterate 2 rfl) | (apply aA (h2); rfl; exact aj.refl _ _; exact enA; iterate 2 rfl)
    | (apply au; iterate 3 rfl) | (apply ak; iterate 3 rfl) | (apply aF; iterate 4 rfl)
    | (apply aC (b := false); (iterate 2 rfl); exact aO; iterate 2 rfl) | apply EL.nil | ((with_reducible apply EK.ah); apply EK.code) | (apply EC.cond_false; rfl)
    | (with_reducible first | apply EC.seq | apply EC.region | apply EC.skip | apply EC.ret))
  exact EK.Hz rfl rfl rfl rfl
 ·
  rw [Iy he] at h1
  rw [if_neg he]
  have hne : (fP l : Int) ≠ 0 := by omega
  repeat
   (first
    | (apply aA (h1); rfl; exact aj.refl _ _; exact enA; iterate 2 rfl) | (apply au; iterate 3 rfl) | (apply ak; iterate 3 rfl)
    | (apply aF; iterate 4 rfl) | (apply aC (b := true); (iterate 2 rfl); exact aO; iterate 2 rfl) | apply EL.nil | ((with_reducible apply EK.ah); apply EK.code)
    | (apply EC.cond_true; rfl) | (with_reducible first | apply EC.seq | apply EC.region | apply EC.ret | apply EK.aH))
  exact EK.Hz rfl rfl rfl rfl
theorem Cj {l : List Pr} (h : fP l = 0) : (kT l).ok := Wy _ _ _ fun x hx => by
 obtain ⟨y, hy, rfl⟩ := List.mem_map.1 ((gX (l.map sp)).mem_iff.1 hx)
 have := iL (lN h).2.1 hy
 show (split y.1).length ≤ _
 rw [dG]
 omega
def fK (l : List Pr) : List UInt8 := if fP l = 0 then sumT (kT l) else zero32
theorem U5 (l : List Pr) : Fn 26 [.sl 2 (l.map dPr)] (· = .tpl [.arr 32 (fK l), .v (.int .i64 (fP l : Int))]) := by
 have h1 := Jc l
 unfold fK
 refine Fn.walk 17 Tryz.func26 rfl Tryz.ntmps26 (by simp) fun X => ?_
 by_cases he : fP l = 0
 ·
  have h2 := Ws (kT l) (Cj he)
  rw [if_pos he, he] at h1 ⊢
  repeat
   (first
    | (apply aA (h1); rfl; exact aj.refl _ _; exact enA; iterate 2 rfl) | (apply aA (h2); rfl; exact aj.refl _ _; exact enA; iterate 2 rfl)
    | (apply au; iterate 3 rfl) | (apply ak; iterate 3 rfl) | (apply aF; iterate 4 rfl)
    | (apply aC (b := false); (iterate 2 rfl); exact aO; iterate 2 rfl) | (apply aZ; rfl; rfl; rfl; intro _)
    | (apply aN; rfl; (focus (repeat first | exact .z | apply bC.s | apply aP.s)); iterate 4 rfl) | apply EL.nil | ((with_reducible apply EK.ah); apply EK.code)
    | (apply EC.cond_false; rfl) | (with_reducible first | apply EC.seq | apply EC.region | apply EC.skip | apply EC.ret))
  refine EK.OT 0 rfl rfl rfl rfl rfl ?_ rfl
  (exact RL.a)
 ·
  rw [if_neg he] at h1 ⊢
  have hne : (fP l : Int) ≠ 0 := by omega
  repeat
   (first
    | (apply aA (h1); rfl; exact aj.refl _ _; exact enA; iterate 2 rfl) | (apply au; iterate 3 rfl) | (apply ak; iterate 3 rfl)
    | (apply aF; iterate 4 rfl) | (apply aC (b := true); (iterate 2 rfl); exact aO; iterate 2 rfl) | (apply G5; iterate 5 rfl)
    | (apply aZ; rfl; rfl; rfl; intro _) | (apply aN; rfl; (focus (repeat first | exact .z | apply bC.s | apply aP.s)); iterate 4 rfl) | apply EL.nil
    | ((with_reducible apply EK.ah); apply EK.code) | (apply EC.cond_true; rfl) | (with_reducible first | apply EC.seq | apply EC.region | apply EC.ret | apply EK.aH))
  refine EK.OT 0 rfl rfl rfl rfl rfl ?_ rfl
  (exact RL.a)
end E
end Go.Proofs.YtiledgojbpmoiaaGreat
namespace Go.Proofs.YtiledgojbpmoiaaGreat.Kec
def ofN (n : Nat) : St := fun k => BitVec.ofNat 64 (n >>> (64 * k))
theorem chain (S : List Nat) (h : ∀ i, i < 24 → ∀ k, k < 25 → round (ofN (S.getD i 0)) (rc i) k = ofN (S.getD (i + 1) 0) k) : Same (perm (ofN (S.getD 0 0)) 24) (ofN (S.getD 24 0)) := by
 have : ∀ i, i ≤ 24 → Same (perm (ofN (S.getD 0 0)) i) (ofN (S.getD i 0)) := by
  intro i
  induction i with
  | zero => exact fun _ => Same.refl _
  | succ i ih => exact fun hi => (sF (ih (by omega)) (rc i)).trans (h i (by omega))
 exact this 24 (by omega)
theorem sK {a b : St} (h : Same a b) : ∀ k, Same (perm a k) (perm b k)
 | 0 => h
 | k + 1 => sF (sK h k) (rc k)
end Go.Proofs.YtiledgojbpmoiaaGreat.Kec
