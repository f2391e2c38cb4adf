/-
 Merged (wip/tools/merge.py): PFB, TP9, KecHash.
 Conditions: none.
-/
import Derived.Test.YtiledgojbpmoiaaGreatZO24
import Derived.Test.YtiledgojbpmoiaaGreatZO20
import Derived.Test.YtiledgojbpmoiaaGreatZO14
namespace Go.Proofs.YtiledgojbpmoiaaGreat
set_option linter.unusedVariables false
set_option maxRecDepth 20000
set_option maxHeartbeats 32000000
open Go.RowKit Mono Rlp
namespace E
theorem um : ∀ (f : Nat) (x : Raw) (w : List UInt8), (bJ f x).1 ≠ .hash w
 | 0, x, w => fun h => by cases h
 | _ + 1, .mk false _ _, w => fun h => by cases h
 | f + 1, .mk true b xs, w => fun h => by
  rw [bJ] at h
  split at h
  ·
   unfold rM at h
   split at h
   · cases h
   ·
    split at h
    · cases h
    ·
     split at h
     · cases h
     · split at h <;> cases h
  ·
   split at h
   ·
    unfold brF at h
    split at h <;> cases h
   · cases h
theorem QA {t : Nd} (h : t.isNil = false) (h2 : ∀ w, t ≠ .hash w) : ∃ T d, dN t = .ifc T d ∧ Nat.beq T 167 = false := by
 cases t with
 | nil => cases h
 | hash w => exact absurd rfl (h2 w)
 | leaf p v => exact ⟨_, _, by rw [dN], rfl⟩
 | ext p k => exact ⟨_, _, by rw [dN], rfl⟩
 | br ks v => exact ⟨_, _, by rw [dN], rfl⟩
def TM (tot : List UInt8 × Nat) (n : Nd) (p v : List UInt8) (q : List (List UInt8)) : Prop :=
 (n = .nil ∧ (if q.length = 0 then (v, 0) else ([], 3)) = tot ∧ v.length ≤ 16777216) ∨ ∃ f y fu, KZ f y ∧ n = (gX (bJ f) y).1 ∧ chk fu y p q = tot ∧ p.length < fu ∧ ∀ c ∈ p, c.toNat < 16
theorem Tv {x : Raw} (h : Gd x) : (bts x).length ≤ 16777216 := by
 obtain ⟨l, b, xs⟩ := x
 show b.length ≤ _
 cases l with
 | false =>
  have h1 := h.len
  rw [Rlp.E] at h1
  have := Uh b
  simp only [most] at h1
  omega
 | true =>
  have h1 := h.nrm
  rw [norm] at h1
  injection h1 with _ h1 _
  rw [← h1]
  exact Nat.zero_le _
theorem J5 {b : List UInt8} {l : Bool} {xs : List Raw} (h : Gd (.mk l b xs)) (k : Nat) : (bts (xs.getD k fJ)).length ≤ 16777216 := by
 cases l with
 | true =>
  rw [List.getD_eq_getElem?_getD]
  cases hk : xs[k]? with
  | none => exact Nat.zero_le _
  | some y => exact Tv (h.kid (List.mem_of_getElem? hk))
 | false =>
  have h1 := h.nrm
  rw [norm] at h1
  injection h1 with _ _ h1
  rw [← h1]
  exact Nat.zero_le _
theorem Ti {x : Raw} (h : Gd x) (p : List UInt8) : (dwn x p).2.2.1.length ≤ 16777216 := by
 obtain ⟨l, b, xs⟩ := x
 unfold dwn
 rw [show its (.mk l b xs) = xs from rfl]
 split
 ·
  cases p with
  | nil => exact J5 h 16
  | cons c r =>
   dsimp only
   split <;> exact Nat.zero_le _
 ·
  split
  ·
   split
   · exact J5 h 1
   · exact Nat.zero_le _
  · split <;> exact Nat.zero_le _
  · split <;> exact Nat.zero_le _
theorem rE {tot : List UInt8 × Nat} {f fu : Nat} {x : Raw} {p : List UInt8} {q : List (List UInt8)} (hx : Gd x) (hn : isN f x = true) (hp : ∀ c ∈ p, c.toNat < 16) (hpf : p.length < fu + 1) (h : zQ fu x p q = tot) : TM tot (gB (bJ f x).1 p).1 (gB (bJ f x).1 p).2.1 (gB (bJ f x).1 p).2.2 q ∧ ((gB (bJ f x).1 p).1.isNil = true ∨ (gB (bJ f x).1 p).2.1.length < p.length) := by
 unfold zQ at h
 rcases OB hx hn p hp with ⟨r, v, e1, e2, e3⟩ | ⟨g', k, r, e1, e2, e3, e4, e5⟩
 ·
  rw [e1, e2, if_neg Bool.false_ne_true] at h
  rw [e3]
  exact ⟨.inl ⟨rfl, h, by have := Ti hx p; rw [e2] at this; exact this⟩, .inl rfl⟩
 ·
  rw [e1, if_pos rfl] at h
  rw [e2]
  exact ⟨.inr ⟨g', k, fu, e3, rfl, h, by dsimp only; omega, fun c hc => hp c (e5 c hc)⟩, .inr e4⟩
def msN (n : Nd) (p : List UInt8) : Nat := if n.isNil then 0 else p.length + 1
theorem Gt (root key : List UInt8) (q : List (List UInt8)) (hr : root.length = 32) (hk : key.length ≤ 150) : Fn 41 [.arr 32 root, .bs key, .sl 1 (q.map D.bs)] (· = RH (vP root key q)) := by
 have hE := BQ
 have hw := (qE root lC).1
 have hS := qw key (by omega)
 have hnib : ∀ c ∈ split key, c.toNat < 16 := fun c hc => by
  obtain ⟨y, _, hy⟩ := List.mem_flatMap.1 hc
  simp only [List.mem_cons, List.not_mem_nil, or_false] at hy
  rcases hy with rfl | rfl
  ·
   rw [UInt8.toNat_shiftRight]
   have := y.toNat_lt
   simp [Nat.shiftRight_eq_div_pow]
   omega
  ·
   rw [UInt8.toNat_and]
   have := Nat.and_two_pow_sub_one_eq_mod y.toNat 4
   simp at this ⊢
   omega
 have hsl := dH key
 refine FnM.toFn ?_
 unfold RH
 generalize htot : vP root key q = tot
 have hI : TM tot (if root = lC then .nil else .hash root) (split key) [] q := by
  unfold vP at htot
  by_cases h0 : root = lC
  ·
   rw [if_pos h0] at htot ⊢
   exact .inl ⟨rfl, htot, Nat.zero_le _⟩
  ·
   rw [if_neg h0] at htot ⊢
   refine .inr ⟨40, .mk false root [], 400, Nr hr, ?_, htot, by omega, hnib⟩
   unfold gX
   rw [if_neg (show ¬ isL (.mk false root []) = true from Bool.false_ne_true), show bts (.mk false root []) = root from rfl, if_neg (by omega), if_pos hr]
 clear htot hk
 generalize split key = p0 at *
 refine FnM.walk 70 Tryz.func41 rfl Tryz.ntmps41 (by simp) fun X => ?_
 by_cases h0 : root = lC
 ·
  rw [if_pos h0] at hI
  rw [show (root == lC) = true by simp [h0]] at hw
  repeat
   (first
    | (apply gU; rfl; rfl; rfl; intro g; refine EL.le (Le.pin (p := 3) (pre := []) rfl rfl) ?_; simp only [List.nil_append]) | (apply aj; iterate 3 rfl)
    | (apply aJ; iterate 5 rfl) | (apply fU; iterate 4 rfl) | apply EL.nil | ((with_reducible apply EK.ah); apply EK.code)
    | (with_reducible first | apply EC.seq | apply EC.region))
  refine EC.draw 2 (by kernel_rfl) ?_
  simp only [List.take_succ_cons, List.take_zero, List.drop_succ_cons, List.drop_zero]
  repeat
   (first
    | (apply eF (hE); rfl; exact ak.refl _ _; exact enA; iterate 2 rfl) | (apply bH; iterate 5 rfl) | ((with_reducible apply EH.nil); rfl))
  repeat
   (first
    | (apply dP; (iterate 2 rfl); exact hw; iterate 2 rfl) | (apply aB (hS); rfl; exact ak.refl _ _; exact enA; iterate 2 rfl) | (apply au; iterate 3 rfl)
    | (apply aj; iterate 3 rfl) | apply EL.nil | ((with_reducible apply EK.ah); apply EK.code) | (apply EC.cond_true; rfl)
    | (with_reducible first | apply EC.seq | apply EC.region | apply EC.block))
  refine EC.le (Le.refine (t := 10) (d' := .bs []) rfl Rf.bs0) ?_
  refine EC.loop (ι := {x : Nd × List UInt8 × List UInt8 × List (List UInt8) // TM tot x.1 x.2.1 x.2.2.1 x.2.2.2})
   (fun x => ⟨[(9, .val (dN x.1.1)), (11, .val (.bs x.1.2.1)), (10, .val (.bs x.1.2.2.1)), (2, .val (.sl 1 (x.1.2.2.2.map D.bs)))], [], []⟩)
   (fun x => msN x.1.1 x.1.2.1) ⟨(.nil, p0, [], q), hI⟩ ?_ ?_
  ·
   dsimp only
   rw [dN]
   exact Le.kp
  rintro ⟨⟨n, p, v, q⟩, hc⟩
  dsimp only at hc ⊢
  have hml : (q.map D.bs).length = q.length := List.length_map _
  have hnn := kN n
  rcases hc with ⟨rfl, ht, hvl⟩ | ⟨f, y, fu, ⟨hg, hyy⟩, hny, hch, hpf, hp⟩
  ·
   rw [show Nd.nil.isNil = true from rfl] at hnn
   rw [dN] at hnn ⊢
   by_cases hz : q.length = 0
   ·
    rw [if_pos hz] at ht
    subst ht
    obtain rfl : q = [] := List.eq_nil_of_length_eq_zero hz
    have hCl := Ku v (by omega)
    dsimp only
    by_cases hv : 0 < v.length
    ·
     rw [show decide (0 < v.length) = true by simp [hv]]
     have hc0 : dI .gtr (v.length : Int) 0 = some true := by
      simp only [dI, Option.some.injEq, decide_eq_true_eq]
      omega
     repeat
      (first
       | (apply dP; (iterate 2 rfl); exact hnn; iterate 2 rfl) | (apply aB (hCl); rfl; exact ak.refl _ _; exact enA; iterate 2 rfl)
       | (apply aC (b := true); (iterate 2 rfl); exact hc0; iterate 2 rfl) | (apply au; iterate 3 rfl) | (apply aj; iterate 3 rfl)
       | (apply aC (b := false); (iterate 2 rfl); exact aO; iterate 2 rfl) | (apply aS; iterate 4 rfl) | (apply aK; iterate 4 rfl) | apply EL.nil
       | ((with_reducible apply EK.ah); apply EK.code) | (apply EC.cond_false; rfl)
       | (with_reducible first | apply EC.seq | apply EC.region | apply EC.skip | apply EC.exit | apply EC.ret | apply EK.bG | apply EK.aQ))
     exact EK.iK [] rfl rfl rfl rfl RL.a RL.a RL.a (List.nil_sublist _) ⟨rfl, rfl⟩
    ·
     rw [show decide (0 < v.length) = false by simp [hv]]
     have hc0 : dI .gtr (v.length : Int) 0 = some false := by
      simp only [dI, Option.some.injEq, decide_eq_false_iff_not]
      omega
     repeat
      (first
       | (apply dP; (iterate 2 rfl); exact hnn; iterate 2 rfl) | (apply aB (hCl); rfl; exact ak.refl _ _; exact enA; iterate 2 rfl)
       | (apply aC (b := false); (iterate 2 rfl); exact hc0; iterate 2 rfl) | (apply au; iterate 3 rfl) | (apply aj; iterate 3 rfl)
       | (apply aC (b := false); (iterate 2 rfl); exact aO; iterate 2 rfl) | (apply aS; iterate 4 rfl) | (apply aK; iterate 4 rfl) | apply EL.nil
       | ((with_reducible apply EK.ah); apply EK.code) | (apply EC.cond_false; rfl)
       | (with_reducible first | apply EC.seq | apply EC.region | apply EC.skip | apply EC.exit | apply EC.ret | apply EK.bG | apply EK.aQ))
     exact EK.iK [] rfl rfl rfl rfl RL.a RL.a RL.a (List.nil_sublist _) ⟨rfl, rfl⟩
   ·
    rw [if_neg hz] at ht
    subst ht
    have hc0 : dI .gtr ((q.map D.bs).length : Int) 0 = some true := by
     simp only [dI, Option.some.injEq, decide_eq_true_eq]
     omega
    repeat
     (first
      | (apply dP; (iterate 2 rfl); exact hnn; iterate 2 rfl) | (apply aC (b := true); (iterate 2 rfl); exact hc0; iterate 2 rfl) | (apply au; iterate 3 rfl)
      | (apply aj; iterate 3 rfl) | (apply aK; iterate 4 rfl) | apply EL.nil | ((with_reducible apply EK.ah); apply EK.code) | (apply EC.cond_true; rfl)
      | (apply EC.cond_false; rfl) | (with_reducible first | apply EC.seq | apply EC.region | apply EC.exit | apply EC.ret | apply EK.bG | apply EK.aH | apply EK.aQ))
    exact EK.iK [] rfl rfl rfl rfl RL.a RL.a RL.a (List.nil_sublist _) ⟨rfl, rfl⟩
  ·
   obtain ⟨fu, rfl⟩ : ∃ n, fu = n + 1 := ⟨fu - 1, by omega⟩
   rcases hyy with ⟨hl, hn, h32⟩ | ⟨hl, h32⟩
   ·
    have hrf : (gX (bJ f) y).1 = (bJ f y).1 := by rw [qV hg hl, if_pos h32]
    obtain rfl := hny.trans hrf
    rw [GI fu hl] at hch
    have hok : (bJ f y).2 = true := by rw [kL f y hg, hn]
    have hni := sN f y hok
    have hst := vN (bJ f y).1 p hp
    obtain ⟨hnx, hms⟩ := rE hg hn hp (by omega) hch
    obtain ⟨T, d, ed, hne⟩ := QA hni (um f y)
    have hmm : msN (gB (bJ f y).1 p).1 (gB (bJ f y).1 p).2.1 < msN (bJ f y).1 p := by
     unfold msN
     rw [hni, if_neg Bool.false_ne_true]
     rcases hms with h | h
     ·
      rw [if_pos h]
      omega
     · split <;> omega
    rw [hni] at hnn
    rw [ed] at hst hnn ⊢
    unfold stepD at hst
    generalize gB (bJ f y).1 p = s at *
    obtain ⟨n2, p2, v2⟩ := s
    dsimp only at hst hnx hmm
    repeat
     (first
      | (apply dP; (iterate 2 rfl); exact hnn; iterate 2 rfl) | (apply aB (hst); rfl; exact ak.refl _ _; exact enA; iterate 2 rfl)
      | (apply iw; rfl; rfl; exact hne; iterate 3 rfl) | (apply au; iterate 3 rfl) | (apply aj; iterate 3 rfl) | (apply aG; iterate 4 rfl)
      | (apply bf; rfl; rfl; rfl; intro _) | (apply aN; rfl; (focus (repeat first | exact .z | apply bC.s | apply aP.s)); iterate 4 rfl) | apply EL.nil
      | ((with_reducible apply EK.ah); apply EK.code) | (apply EC.cond_true; rfl) | (apply EC.cond_false; rfl)
      | (with_reducible first | apply EC.seq | apply EC.region | apply EC.skip | apply EC.block | apply EK.aI))
    refine EK.again ⟨(n2, p2, v2, q), hnx⟩ (by exact hmm) ?_
    exact Le.kp
   ·
    have hrf : (gX (bJ f) y).1 = .hash (bts y) := by
     unfold gX
     rw [hl, if_neg Bool.false_ne_true, if_neg (by omega), if_pos h32]
    obtain rfl := hny.trans hrf
    rw [show (Nd.hash (bts y)).isNil = false from rfl] at hnn
    rw [dN] at hnn ⊢
    cases q with
    | nil =>
     rw [Cb fu hl] at hch
     subst hch
     repeat
      (first
       | (apply dP; (iterate 2 rfl); exact hnn; iterate 2 rfl) | (apply au; iterate 3 rfl) | (apply aj; iterate 3 rfl) | (apply aG; iterate 4 rfl)
       | (apply eX; iterate 4 rfl) | (apply bf; rfl; rfl; rfl; intro _)
       | (apply aN; rfl; (focus (repeat first | exact .z | apply bC.s | apply aP.s)); iterate 4 rfl) | apply EL.nil | ((with_reducible apply EK.ah); apply EK.code)
       | (apply EC.cond_true; rfl) | (with_reducible first | apply EC.seq | apply EC.region | apply EC.skip | apply EC.block))
     refine EC.draw 10 (by kernel_rfl) ?_
     simp only [List.take_succ_cons, List.take_zero, List.drop_succ_cons, List.drop_zero]
     repeat
      (first
       | (apply tH; iterate 2 rfl) | (apply aY; iterate 3 rfl) | (apply jS (b := true); (iterate 2 rfl); exact aO; iterate 2 rfl)
       | (apply gV; iterate 4 rfl) | ((with_reducible apply EH.nil); rfl))
     repeat
      (first
       | (apply fG; iterate 2 rfl) | (apply aj; iterate 3 rfl) | (apply aU; iterate 4 rfl) | apply EL.nil | ((with_reducible apply EK.ah); apply EK.code)
       | (apply EC.cond_true; rfl) | (with_reducible first | apply EC.seq | apply EC.region | apply EC.ret | apply EK.dR | apply EK.aH))
     exact EK.iK [] rfl rfl rfl rfl RL.a RL.a RL.a (List.nil_sublist _) ⟨rfl, rfl⟩
    | cons b q =>
     rw [vO fu hl] at hch
     have hK := uJ b
     have hb := (qE (hash b) (bts y)).2
     have hce : dI .eql (((b :: q).map D.bs).length : Int) 0 = some false := by
      have : ((b :: q).map D.bs).length = q.length + 1 := by simp
      simp only [dI, Option.some.injEq, beq_eq_false_iff_ne]
      omega
     have hat : ((b :: q).map D.bs)[0]? = some (.bs b) := rfl
     have hdr : ((b :: q).map D.bs).drop 1 = q.map D.bs := rfl
     by_cases he : hash b = bts y
     ·
      rw [if_pos he] at hch
      rw [show (hash b != bts y) = false by simp [he]] at hb
      have hR := Kr b
      have hgx := Dj b
      by_cases hok : rdE b = 0 ∧ isN 40 (rdX b) = true
      ·
       rw [if_pos hok] at hch
       have hrd : Ap b = ((bJ 40 (rdX b)).1, true) := by
        unfold Ap
        rw [if_pos hok, ← hok.2, ← kL 40 (rdX b) hgx]
       rw [hrd] at hR
       unfold jv at hR
       obtain ⟨hnx, hms⟩ := rE hgx hok.2 hp (by omega) hch
       have hst := vN (bJ 40 (rdX b)).1 p hp
       have hmm : msN (gB (bJ 40 (rdX b)).1 p).1 (gB (bJ 40 (rdX b)).1 p).2.1 < msN (.hash (bts y)) p := by
        unfold msN
        rw [show (Nd.hash (bts y)).isNil = false from rfl, if_neg Bool.false_ne_true]
        rcases hms with h | h
        ·
         rw [if_pos h]
         omega
        · split <;> omega
       dsimp only at hR
       unfold stepD at hst
       generalize gB (bJ 40 (rdX b)).1 p = s at *
       generalize (bJ 40 (rdX b)).1 = nd at *
       obtain ⟨n2, p2, v2⟩ := s
       dsimp only at hst hnx hmm
       repeat
        (first
         | (apply dP; (iterate 2 rfl); exact hnn; iterate 2 rfl) | (apply au; iterate 3 rfl) | (apply aj; iterate 3 rfl) | (apply aG; iterate 4 rfl)
         | (apply eX; iterate 4 rfl) | (apply bf; rfl; rfl; rfl; intro _)
         | (apply aN; rfl; (focus (repeat first | exact .z | apply bC.s | apply aP.s)); iterate 4 rfl) | apply EL.nil | ((with_reducible apply EK.ah); apply EK.code)
         | (apply EC.cond_true; rfl) | (with_reducible first | apply EC.seq | apply EC.region | apply EC.skip | apply EC.block))
       refine EC.draw 10 (by kernel_rfl) ?_
       simp only [List.take_succ_cons, List.take_zero, List.drop_succ_cons, List.drop_zero]
       repeat
        (first
         | (apply eF (hK); rfl; exact ak.refl _ _; exact enA; iterate 2 rfl) | (apply jS (b := false); (iterate 2 rfl); exact hce; iterate 2 rfl)
         | (apply aY; iterate 3 rfl) | (apply bH; iterate 5 rfl) | (apply dJ; rfl; exact I.a; iterate 4 rfl) | (apply gV; iterate 4 rfl)
         | (apply dw; (iterate 4 rfl); (focus (first | exact ⟨by decide, rfl⟩ | (refine ⟨by omega, ?_⟩; rw [Int.toNat_natCast]; assumption))); iterate 2 rfl)
         | (apply kZ; iterate 9 rfl) | ((with_reducible apply EH.nil); rfl))
       repeat
        (first
         | (apply dP; (iterate 2 rfl); exact hb; iterate 2 rfl) | (apply aB (hR); rfl; exact ak.refl _ _; exact enA; iterate 2 rfl)
         | (apply bI; (iterate 4 rfl); exact ⟨by decide, hat⟩; iterate 2 rfl) | (apply au; iterate 3 rfl) | (apply aj; iterate 3 rfl)
         | (apply aG; iterate 4 rfl) | (apply aJ; iterate 5 rfl) | (apply aU; iterate 4 rfl) | (apply dS; iterate 3 rfl) | apply EL.nil
         | ((with_reducible apply EK.ah); apply EK.code) | (apply EC.cond_false; rfl) | (with_reducible first | apply EC.seq | apply EC.region | apply EC.skip))
       refine EC.draw 4 (by kernel_rfl) ?_
       simp only [List.take_succ_cons, List.take_zero, List.drop_succ_cons, List.drop_zero]
       repeat
        (first
         | (apply He; (iterate 3 rfl); exact ⟨by decide, (by simp)⟩; iterate 2 rfl) | (apply aY; iterate 3 rfl) | (apply gy; iterate 3 rfl)
         | ((with_reducible apply EH.nil); rfl))
       repeat
        (first
         | (apply aB (hst); rfl; exact ak.refl _ _; exact enA; iterate 2 rfl) | (apply au; iterate 3 rfl) | (apply aj; iterate 3 rfl)
         | (apply aG; iterate 4 rfl) | apply EL.nil | ((with_reducible apply EK.ah); apply EK.code) | (with_reducible first | apply EC.region | apply EK.aI))
       refine EK.again ⟨(n2, p2, v2, q), hnx⟩ (by exact hmm) ?_
       exact Le.kp
      ·
       rw [if_neg hok] at hch
       subst hch
       have hrd : Ap b = (.nil, false) := by
        unfold Ap
        rw [if_neg hok]
       rw [hrd] at hR
       unfold jv at hR
       dsimp only at hR
       repeat
        (first
         | (apply dP; (iterate 2 rfl); exact hnn; iterate 2 rfl) | (apply au; iterate 3 rfl) | (apply aj; iterate 3 rfl) | (apply aG; iterate 4 rfl)
         | (apply eX; iterate 4 rfl) | (apply bf; rfl; rfl; rfl; intro _)
         | (apply aN; rfl; (focus (repeat first | exact .z | apply bC.s | apply aP.s)); iterate 4 rfl) | apply EL.nil | ((with_reducible apply EK.ah); apply EK.code)
         | (apply EC.cond_true; rfl) | (with_reducible first | apply EC.seq | apply EC.region | apply EC.skip | apply EC.block))
       refine EC.draw 10 (by kernel_rfl) ?_
       simp only [List.take_succ_cons, List.take_zero, List.drop_succ_cons, List.drop_zero]
       repeat
        (first
         | (apply eF (hK); rfl; exact ak.refl _ _; exact enA; iterate 2 rfl) | (apply jS (b := false); (iterate 2 rfl); exact hce; iterate 2 rfl)
         | (apply aY; iterate 3 rfl) | (apply bH; iterate 5 rfl) | (apply dJ; rfl; exact I.a; iterate 4 rfl) | (apply gV; iterate 4 rfl)
         | (apply dw; (iterate 4 rfl); (focus (first | exact ⟨by decide, rfl⟩ | (refine ⟨by omega, ?_⟩; rw [Int.toNat_natCast]; assumption))); iterate 2 rfl)
         | (apply kZ; iterate 9 rfl) | ((with_reducible apply EH.nil); rfl))
       repeat
        (first
         | (apply dP; (iterate 2 rfl); exact hb; iterate 2 rfl) | (apply aB (hR); rfl; exact ak.refl _ _; exact enA; iterate 2 rfl)
         | (apply bI; (iterate 4 rfl); exact ⟨by decide, hat⟩; iterate 2 rfl) | (apply au; iterate 3 rfl) | (apply aj; iterate 3 rfl)
         | (apply aG; iterate 4 rfl) | (apply aJ; iterate 5 rfl) | (apply aU; iterate 4 rfl) | (apply dS; iterate 3 rfl) | apply EL.nil
         | ((with_reducible apply EK.ah); apply EK.code) | (apply EC.cond_true; rfl) | (apply EC.cond_false; rfl)
         | (with_reducible first | apply EC.seq | apply EC.region | apply EC.skip | apply EC.ret | apply EK.dR | apply EK.aH))
       exact EK.iK [] rfl rfl rfl rfl RL.a RL.a RL.a (List.nil_sublist _) ⟨rfl, rfl⟩
     ·
      rw [if_neg he] at hch
      subst hch
      rw [show (hash b != bts y) = true by simp [he]] at hb
      repeat
       (first
        | (apply dP; (iterate 2 rfl); exact hnn; iterate 2 rfl) | (apply au; iterate 3 rfl) | (apply aj; iterate 3 rfl) | (apply aG; iterate 4 rfl)
        | (apply eX; iterate 4 rfl) | (apply bf; rfl; rfl; rfl; intro _)
        | (apply aN; rfl; (focus (repeat first | exact .z | apply bC.s | apply aP.s)); iterate 4 rfl) | apply EL.nil | ((with_reducible apply EK.ah); apply EK.code)
        | (apply EC.cond_true; rfl) | (with_reducible first | apply EC.seq | apply EC.region | apply EC.skip | apply EC.block))
      refine EC.draw 10 (by kernel_rfl) ?_
      simp only [List.take_succ_cons, List.take_zero, List.drop_succ_cons, List.drop_zero]
      repeat
       (first
        | (apply eF (hK); rfl; exact ak.refl _ _; exact enA; iterate 2 rfl) | (apply jS (b := false); (iterate 2 rfl); exact hce; iterate 2 rfl)
        | (apply aY; iterate 3 rfl) | (apply bH; iterate 5 rfl) | (apply dJ; rfl; exact I.a; iterate 4 rfl) | (apply gV; iterate 4 rfl)
        | (apply dw; (iterate 4 rfl); (focus (first | exact ⟨by decide, rfl⟩ | (refine ⟨by omega, ?_⟩; rw [Int.toNat_natCast]; assumption))); iterate 2 rfl)
        | (apply kZ; iterate 9 rfl) | ((with_reducible apply EH.nil); rfl))
      repeat
       (first
        | (apply dP; (iterate 2 rfl); exact hb; iterate 2 rfl) | (apply aj; iterate 3 rfl) | (apply aU; iterate 4 rfl) | apply EL.nil
        | ((with_reducible apply EK.ah); apply EK.code) | (apply EC.cond_true; rfl) | (with_reducible first | apply EC.seq | apply EC.region | apply EC.ret | apply EK.dR | apply EK.aH))
      exact EK.iK [] rfl rfl rfl rfl RL.a RL.a RL.a (List.nil_sublist _) ⟨rfl, rfl⟩
 ·
  rw [if_neg h0] at hI
  rw [show (root == lC) = false by simp [h0]] at hw
  repeat
   (first
    | (apply gU; rfl; rfl; rfl; intro g; refine EL.le (Le.pin (p := 3) (pre := []) rfl rfl) ?_; simp only [List.nil_append]) | (apply aj; iterate 3 rfl)
    | (apply aJ; iterate 5 rfl) | (apply fU; iterate 4 rfl) | apply EL.nil | ((with_reducible apply EK.ah); apply EK.code)
    | (with_reducible first | apply EC.seq | apply EC.region))
  refine EC.draw 2 (by kernel_rfl) ?_
  simp only [List.take_succ_cons, List.take_zero, List.drop_succ_cons, List.drop_zero]
  repeat
   (first
    | (apply eF (hE); rfl; exact ak.refl _ _; exact enA; iterate 2 rfl) | (apply bH; iterate 5 rfl) | ((with_reducible apply EH.nil); rfl))
  repeat
   (first
    | (apply dP; (iterate 2 rfl); exact hw; iterate 2 rfl) | (apply aB (hS); rfl; exact ak.refl _ _; exact enA; iterate 2 rfl) | (apply au; iterate 3 rfl)
    | (apply aj; iterate 3 rfl) | apply EL.nil | ((with_reducible apply EK.ah); apply EK.code) | (apply EC.cond_false; rfl)
    | (with_reducible first | apply EC.seq | apply EC.region | apply EC.skip | apply EC.block))
  refine EC.le (Le.refine (t := 10) (d' := .bs []) rfl Rf.bs0) ?_
  refine EC.loop (ι := {x : Nd × List UInt8 × List UInt8 × List (List UInt8) // TM tot x.1 x.2.1 x.2.2.1 x.2.2.2})
   (fun x => ⟨[(9, .val (dN x.1.1)), (11, .val (.bs x.1.2.1)), (10, .val (.bs x.1.2.2.1)), (2, .val (.sl 1 (x.1.2.2.2.map D.bs)))], [], []⟩)
   (fun x => msN x.1.1 x.1.2.1) ⟨(.hash root, p0, [], q), hI⟩ ?_ ?_
  ·
   dsimp only
   rw [dN]
   exact Le.kp
  rintro ⟨⟨n, p, v, q⟩, hc⟩
  dsimp only at hc ⊢
  have hml : (q.map D.bs).length = q.length := List.length_map _
  have hnn := kN n
  rcases hc with ⟨rfl, ht, hvl⟩ | ⟨f, y, fu, ⟨hg, hyy⟩, hny, hch, hpf, hp⟩
  ·
   rw [show Nd.nil.isNil = true from rfl] at hnn
   rw [dN] at hnn ⊢
   by_cases hz : q.length = 0
   ·
    rw [if_pos hz] at ht
    subst ht
    obtain rfl : q = [] := List.eq_nil_of_length_eq_zero hz
    have hCl := Ku v (by omega)
    dsimp only
    by_cases hv : 0 < v.length
    ·
     rw [show decide (0 < v.length) = true by simp [hv]]
     have hc0 : dI .gtr (v.length : Int) 0 = some true := by
      simp only [dI, Option.some.injEq, decide_eq_true_eq]
      omega
     repeat
      (first
       | (apply dP; (iterate 2 rfl); exact hnn; iterate 2 rfl) | (apply aB (hCl); rfl; exact ak.refl _ _; exact enA; iterate 2 rfl)
       | (apply aC (b := true); (iterate 2 rfl); exact hc0; iterate 2 rfl) | (apply au; iterate 3 rfl) | (apply aj; iterate 3 rfl)
       | (apply aC (b := false); (iterate 2 rfl); exact aO; iterate 2 rfl) | (apply aS; iterate 4 rfl) | (apply aK; iterate 4 rfl) | apply EL.nil
       | ((with_reducible apply EK.ah); apply EK.code) | (apply EC.cond_false; rfl)
       | (with_reducible first | apply EC.seq | apply EC.region | apply EC.skip | apply EC.exit | apply EC.ret | apply EK.bG | apply EK.aQ))
     exact EK.iK [] rfl rfl rfl rfl RL.a RL.a RL.a (List.nil_sublist _) ⟨rfl, rfl⟩
    ·
     rw [show decide (0 < v.length) = false by simp [hv]]
     have hc0 : dI .gtr (v.length : Int) 0 = some false := by
      simp only [dI, Option.some.injEq, decide_eq_false_iff_not]
      omega
     repeat
      (first
       | (apply dP; (iterate 2 rfl); exact hnn; iterate 2 rfl) | (apply aB (hCl); rfl; exact ak.refl _ _; exact enA; iterate 2 rfl)
       | (apply aC (b := false); (iterate 2 rfl); exact hc0; iterate 2 rfl) | (apply au; iterate 3 rfl) | (apply aj; iterate 3 rfl)
       | (apply aC (b := false); (iterate 2 rfl); exact aO; iterate 2 rfl) | (apply aS; iterate 4 rfl) | (apply aK; iterate 4 rfl) | apply EL.nil
       | ((with_reducible apply EK.ah); apply EK.code) | (apply EC.cond_false; rfl)
       | (with_reducible first | apply EC.seq | apply EC.region | apply EC.skip | apply EC.exit | apply EC.ret | apply EK.bG | apply EK.aQ))
     exact EK.iK [] rfl rfl rfl rfl RL.a RL.a RL.a (List.nil_sublist _) ⟨rfl, rfl⟩
   ·
    rw [if_neg hz] at ht
    subst ht
    have hc0 : dI .gtr ((q.map D.bs).length : Int) 0 = some true := by
     simp only [dI, Option.some.injEq, decide_eq_true_eq]
     omega
    repeat
     (first
      | (apply dP; (iterate 2 rfl); exact hnn; iterate 2 rfl) | (apply aC (b := true); (iterate 2 rfl); exact hc0; iterate 2 rfl) | (apply au; iterate 3 rfl)
      | (apply aj; iterate 3 rfl) | (apply aK; iterate 4 rfl) | apply EL.nil | ((with_reducible apply EK.ah); apply EK.code) | (apply EC.cond_true; rfl)
      | (apply EC.cond_false; rfl) | (with_reducible first | apply EC.seq | apply EC.region | apply EC.exit | apply EC.ret | apply EK.bG | apply EK.aH | apply EK.aQ))
    exact EK.iK [] rfl rfl rfl rfl RL.a RL.a RL.a (List.nil_sublist _) ⟨rfl, rfl⟩
  ·
   obtain ⟨fu, rfl⟩ : ∃ n, fu = n + 1 := ⟨fu - 1, by omega⟩
   rcases hyy with ⟨hl, hn, h32⟩ | ⟨hl, h32⟩
   ·
    have hrf : (gX (bJ f) y).1 = (bJ f y).1 := by rw [qV hg hl, if_pos h32]
    obtain rfl := hny.trans hrf
    rw [GI fu hl] at hch
    have hok : (bJ f y).2 = true := by rw [kL f y hg, hn]
    have hni := sN f y hok
    have hst := vN (bJ f y).1 p hp
    obtain ⟨hnx, hms⟩ := rE hg hn hp (by omega) hch
    obtain ⟨T, d, ed, hne⟩ := QA hni (um f y)
    have hmm : msN (gB (bJ f y).1 p).1 (gB (bJ f y).1 p).2.1 < msN (bJ f y).1 p := by
     unfold msN
     rw [hni, if_neg Bool.false_ne_true]
     rcases hms with h | h
     ·
      rw [if_pos h]
      omega
     · split <;> omega
    rw [hni] at hnn
    rw [ed] at hst hnn ⊢
    unfold stepD at hst
    generalize gB (bJ f y).1 p = s at *
    obtain ⟨n2, p2, v2⟩ := s
    dsimp only at hst hnx hmm
    repeat
     (first
      | (apply dP; (iterate 2 rfl); exact hnn; iterate 2 rfl) | (apply aB (hst); rfl; exact ak.refl _ _; exact enA; iterate 2 rfl)
      | (apply iw; rfl; rfl; exact hne; iterate 3 rfl) | (apply au; iterate 3 rfl) | (apply aj; iterate 3 rfl) | (apply aG; iterate 4 rfl)
      | (apply bf; rfl; rfl; rfl; intro _) | (apply aN; rfl; (focus (repeat first | exact .z | apply bC.s | apply aP.s)); iterate 4 rfl) | apply EL.nil
      | ((with_reducible apply EK.ah); apply EK.code) | (apply EC.cond_true; rfl) | (apply EC.cond_false; rfl)
      | (with_reducible first | apply EC.seq | apply EC.region | apply EC.skip | apply EC.block | apply EK.aI))
    refine EK.again ⟨(n2, p2, v2, q), hnx⟩ (by exact hmm) ?_
    exact Le.kp
   ·
    have hrf : (gX (bJ f) y).1 = .hash (bts y) := by
     unfold gX
     rw [hl, if_neg Bool.false_ne_true, if_neg (by omega), if_pos h32]
    obtain rfl := hny.trans hrf
    rw [show (Nd.hash (bts y)).isNil = false from rfl] at hnn
    rw [dN] at hnn ⊢
    cases q with
    | nil =>
     rw [Cb fu hl] at hch
     subst hch
     repeat
      (first
       | (apply dP; (iterate 2 rfl); exact hnn; iterate 2 rfl) | (apply au; iterate 3 rfl) | (apply aj; iterate 3 rfl) | (apply aG; iterate 4 rfl)
       | (apply eX; iterate 4 rfl) | (apply bf; rfl; rfl; rfl; intro _)
       | (apply aN; rfl; (focus (repeat first | exact .z | apply bC.s | apply aP.s)); iterate 4 rfl) | apply EL.nil | ((with_reducible apply EK.ah); apply EK.code)
       | (apply EC.cond_true; rfl) | (with_reducible first | apply EC.seq | apply EC.region | apply EC.skip | apply EC.block))
     refine EC.draw 10 (by kernel_rfl) ?_
     simp only [List.take_succ_cons, List.take_zero, List.drop_succ_cons, List.drop_zero]
     repeat
      (first
       | (apply tH; iterate 2 rfl) | (apply aY; iterate 3 rfl) | (apply jS (b := true); (iterate 2 rfl); exact aO; iterate 2 rfl)
       | (apply gV; iterate 4 rfl) | ((with_reducible apply EH.nil); rfl))
     repeat
      (first
       | (apply fG; iterate 2 rfl) | (apply aj; iterate 3 rfl) | (apply aU; iterate 4 rfl) | apply EL.nil | ((with_reducible apply EK.ah); apply EK.code)
       | (apply EC.cond_true; rfl) | (with_reducible first | apply EC.seq | apply EC.region | apply EC.ret | apply EK.dR | apply EK.aH))
     exact EK.iK [] rfl rfl rfl rfl RL.a RL.a RL.a (List.nil_sublist _) ⟨rfl, rfl⟩
    | cons b q =>
     rw [vO fu hl] at hch
     have hK := uJ b
     have hb := (qE (hash b) (bts y)).2
     have hce : dI .eql (((b :: q).map D.bs).length : Int) 0 = some false := by
      have : ((b :: q).map D.bs).length = q.length + 1 := by simp
      simp only [dI, Option.some.injEq, beq_eq_false_iff_ne]
      omega
     have hat : ((b :: q).map D.bs)[0]? = some (.bs b) := rfl
     have hdr : ((b :: q).map D.bs).drop 1 = q.map D.bs := rfl
     by_cases he : hash b = bts y
     ·
      rw [if_pos he] at hch
      rw [show (hash b != bts y) = false by simp [he]] at hb
      have hR := Kr b
      have hgx := Dj b
      by_cases hok : rdE b = 0 ∧ isN 40 (rdX b) = true
      ·
       rw [if_pos hok] at hch
       have hrd : Ap b = ((bJ 40 (rdX b)).1, true) := by
        unfold Ap
        rw [if_pos hok, ← hok.2, ← kL 40 (rdX b) hgx]
       rw [hrd] at hR
       unfold jv at hR
       obtain ⟨hnx, hms⟩ := rE hgx hok.2 hp (by omega) hch
       have hst := vN (bJ 40 (rdX b)).1 p hp
       have hmm : msN (gB (bJ 40 (rdX b)).1 p).1 (gB (bJ 40 (rdX b)).1 p).2.1 < msN (.hash (bts y)) p := by
        unfold msN
        rw [show (Nd.hash (bts y)).isNil = false from rfl, if_neg Bool.false_ne_true]
        rcases hms with h | h
        ·
         rw [if_pos h]
         omega
        · split <;> omega
       dsimp only at hR
       unfold stepD at hst
       generalize gB (bJ 40 (rdX b)).1 p = s at *
       generalize (bJ 40 (rdX b)).1 = nd at *
       obtain ⟨n2, p2, v2⟩ := s
       dsimp only at hst hnx hmm
       repeat
        (first
         | (apply dP; (iterate 2 rfl); exact hnn; iterate 2 rfl) | (apply au; iterate 3 rfl) | (apply aj; iterate 3 rfl) | (apply aG; iterate 4 rfl)
         | (apply eX; iterate 4 rfl) | (apply bf; rfl; rfl; rfl; intro _)
         | (apply aN; rfl; (focus (repeat first | exact .z | apply bC.s | apply aP.s)); iterate 4 rfl) | apply EL.nil | ((with_reducible apply EK.ah); apply EK.code)
         | (apply EC.cond_true; rfl) | (with_reducible first | apply EC.seq | apply EC.region | apply EC.skip | apply EC.block))
       refine EC.draw 10 (by kernel_rfl) ?_
       simp only [List.take_succ_cons, List.take_zero, List.drop_succ_cons, List.drop_zero]
       repeat
        (first
         | (apply eF (hK); rfl; exact ak.refl _ _; exact enA; iterate 2 rfl) | (apply jS (b := false); (iterate 2 rfl); exact hce; iterate 2 rfl)
         | (apply aY; iterate 3 rfl) | (apply bH; iterate 5 rfl) | (apply dJ; rfl; exact I.a; iterate 4 rfl) | (apply gV; iterate 4 rfl)
         | (apply dw; (iterate 4 rfl); (focus (first | exact ⟨by decide, rfl⟩ | (refine ⟨by omega, ?_⟩; rw [Int.toNat_natCast]; assumption))); iterate 2 rfl)
         | (apply kZ; iterate 9 rfl) | ((with_reducible apply EH.nil); rfl))
       repeat
        (first
         | (apply dP; (iterate 2 rfl); exact hb; iterate 2 rfl) | (apply aB (hR); rfl; exact ak.refl _ _; exact enA; iterate 2 rfl)
         | (apply bI; (iterate 4 rfl); exact ⟨by decide, hat⟩; iterate 2 rfl) | (apply au; iterate 3 rfl) | (apply aj; iterate 3 rfl)
         | (apply aG; iterate 4 rfl) | (apply aJ; iterate 5 rfl) | (apply aU; iterate 4 rfl) | (apply dS; iterate 3 rfl) | apply EL.nil
         | ((with_reducible apply EK.ah); apply EK.code) | (apply EC.cond_false; rfl) | (with_reducible first | apply EC.seq | apply EC.region | apply EC.skip))
       refine EC.draw 4 (by kernel_rfl) ?_
       simp only [List.take_succ_cons, List.take_zero, List.drop_succ_cons, List.drop_zero]
       repeat
        (first
         | (apply He; (iterate 3 rfl); exact ⟨by decide, (by simp)⟩; iterate 2 rfl) | (apply aY; iterate 3 rfl) | (apply gy; iterate 3 rfl)
         | ((with_reducible apply EH.nil); rfl))
       repeat
        (first
         | (apply aB (hst); rfl; exact ak.refl _ _; exact enA; iterate 2 rfl) | (apply au; iterate 3 rfl) | (apply aj; iterate 3 rfl)
         | (apply aG; iterate 4 rfl) | apply EL.nil | ((with_reducible apply EK.ah); apply EK.code) | (with_reducible first | apply EC.region | apply EK.aI))
       refine EK.again ⟨(n2, p2, v2, q), hnx⟩ (by exact hmm) ?_
       exact Le.kp
      ·
       rw [if_neg hok] at hch
       subst hch
       have hrd : Ap b = (.nil, false) := by
        unfold Ap
        rw [if_neg hok]
       rw [hrd] at hR
       unfold jv at hR
       dsimp only at hR
       repeat
        (first
         | (apply dP; (iterate 2 rfl); exact hnn; iterate 2 rfl) | (apply au; iterate 3 rfl) | (apply aj; iterate 3 rfl) | (apply aG; iterate 4 rfl)
         | (apply eX; iterate 4 rfl) | (apply bf; rfl; rfl; rfl; intro _)
         | (apply aN; rfl; (focus (repeat first | exact .z | apply bC.s | apply aP.s)); iterate 4 rfl) | apply EL.nil | ((with_reducible apply EK.ah); apply EK.code)
         | (apply EC.cond_true; rfl) | (with_reducible first | apply EC.seq | apply EC.region | apply EC.skip | apply EC.block))
       refine EC.draw 10 (by kernel_rfl) ?_
       simp only [List.take_succ_cons, List.take_zero, List.drop_succ_cons, List.drop_zero]
       repeat
        (first
         | (apply eF (hK); rfl; exact ak.refl _ _; exact enA; iterate 2 rfl) | (apply jS (b := false); (iterate 2 rfl); exact hce; iterate 2 rfl)
         | (apply aY; iterate 3 rfl) | (apply bH; iterate 5 rfl) | (apply dJ; rfl; exact I.a; iterate 4 rfl) | (apply gV; iterate 4 rfl)
         | (apply dw; (iterate 4 rfl); (focus (first | exact ⟨by decide, rfl⟩ | (refine ⟨by omega, ?_⟩; rw [Int.toNat_natCast]; assumption))); iterate 2 rfl)
         | (apply kZ; iterate 9 rfl) | ((with_reducible apply EH.nil); rfl))
       repeat
        (first
         | (apply dP; (iterate 2 rfl); exact hb; iterate 2 rfl) | (apply aB (hR); rfl; exact ak.refl _ _; exact enA; iterate 2 rfl)
         | (apply bI; (iterate 4 rfl); exact ⟨by decide, hat⟩; iterate 2 rfl) | (apply au; iterate 3 rfl) | (apply aj; iterate 3 rfl)
         | (apply aG; iterate 4 rfl) | (apply aJ; iterate 5 rfl) | (apply aU; iterate 4 rfl) | (apply dS; iterate 3 rfl) | apply EL.nil
         | ((with_reducible apply EK.ah); apply EK.code) | (apply EC.cond_true; rfl) | (apply EC.cond_false; rfl)
         | (with_reducible first | apply EC.seq | apply EC.region | apply EC.skip | apply EC.ret | apply EK.dR | apply EK.aH))
       exact EK.iK [] rfl rfl rfl rfl RL.a RL.a RL.a (List.nil_sublist _) ⟨rfl, rfl⟩
     ·
      rw [if_neg he] at hch
      subst hch
      rw [show (hash b != bts y) = true by simp [he]] at hb
      repeat
       (first
        | (apply dP; (iterate 2 rfl); exact hnn; iterate 2 rfl) | (apply au; iterate 3 rfl) | (apply aj; iterate 3 rfl) | (apply aG; iterate 4 rfl)
        | (apply eX; iterate 4 rfl) | (apply bf; rfl; rfl; rfl; intro _)
        | (apply aN; rfl; (focus (repeat first | exact .z | apply bC.s | apply aP.s)); iterate 4 rfl) | apply EL.nil | ((with_reducible apply EK.ah); apply EK.code)
        | (apply EC.cond_true; rfl) | (with_reducible first | apply EC.seq | apply EC.region | apply EC.skip | apply EC.block))
      refine EC.draw 10 (by kernel_rfl) ?_
      simp only [List.take_succ_cons, List.take_zero, List.drop_succ_cons, List.drop_zero]
      repeat
       (first
        | (apply eF (hK); rfl; exact ak.refl _ _; exact enA; iterate 2 rfl) | (apply jS (b := false); (iterate 2 rfl); exact hce; iterate 2 rfl)
        | (apply aY; iterate 3 rfl) | (apply bH; iterate 5 rfl) | (apply dJ; rfl; exact I.a; iterate 4 rfl) | (apply gV; iterate 4 rfl)
        | (apply dw; (iterate 4 rfl); (focus (first | exact ⟨by decide, rfl⟩ | (refine ⟨by omega, ?_⟩; rw [Int.toNat_natCast]; assumption))); iterate 2 rfl)
        | (apply kZ; iterate 9 rfl) | ((with_reducible apply EH.nil); rfl))
      repeat
       (first
        | (apply dP; (iterate 2 rfl); exact hb; iterate 2 rfl) | (apply aj; iterate 3 rfl) | (apply aU; iterate 4 rfl) | apply EL.nil
        | ((with_reducible apply EK.ah); apply EK.code) | (apply EC.cond_true; rfl) | (with_reducible first | apply EC.seq | apply EC.region | apply EC.ret | apply EK.dR | apply EK.aH))
      exact EK.iK [] rfl rfl rfl rfl RL.a RL.a RL.a (List.nil_sublist _) ⟨rfl, rfl⟩
theorem uq (x : UInt8) : (x >>> 4).toNat = x.toNat / 16 := by rw [UInt8.toNat_shiftRight]; simp [Nat.shiftRight_eq_div_pow]
theorem uo (x : UInt8) : (x &&& 15).toNat = x.toNat % 16 := by rw [UInt8.toNat_and]; exact Nat.and_two_pow_sub_one_eq_mod _ 4
theorem iU (l : List UInt8) : ∀ x ∈ split l, x.toNat ≤ 15 := by
 intro x hx
 obtain ⟨y, _, hy⟩ := List.mem_flatMap.1 hx
 simp only [List.mem_cons, List.not_mem_nil, or_false] at hy
 rcases hy with rfl | rfl
 · rw [uq]; have := y.toNat_lt; omega
 · rw [uo]; omega
theorem WM : ∀ (f : Nat) (l : List Pr) (at_ : Nat), (∀ x ∈ l, x.1.length ≤ 536870912) → (bdF f l at_).ok := by
 intro f
 induction f with
 | zero => intro l at_ h; exact trivial
 | succ f ih =>
  intro l at_ h
  match l with
  | [] => exact trivial
  | [x] =>
   show (x.1.drop at_).length ≤ 536870912
   have := h x (by simp)
   rw [List.length_drop]
   omega
  | x :: y :: r =>
   have hx := h x (by simp)
   rw [bdF]
   split
   ·
    refine ⟨?_, ih _ _ h⟩
    rw [List.length_take, List.length_drop]
    omega
   ·
    split
    · exact fun i => ih _ _ fun z hz => h z (List.mem_cons_of_mem _ ((List.mem_filter.1 hz).1))
    · exact fun i => ih _ _ fun z hz => h z ((List.mem_filter.1 hz).1)
def fQ (l : List Pr) : Nat := if 100000 < l.length ∨ l.any lg = true then 3 else if l.any (·.2.isEmpty) = true then 1 else if ((l.map sp).map (·.1)).Nodup then 0 else 1
def jM (l : List Pr) : Tn := bdF 200 (srt (l.map sp)) 0
theorem lN {l : List Pr} (h : fQ l = 0) : vk l = .tpl [.sl 2 ((srt (l.map sp)).map dPr), .v (.int .i64 0)] ∧ l.any lg = false ∧ ((l.map sp).map (·.1)).Nodup := by
 unfold fQ at h
 unfold vk
 split at h
 · cases h
 ·
  rename_i h1
  rw [if_neg h1]
  split at h
  · cases h
  ·
   rename_i h2
   rw [if_neg h2]
   split at h
   ·
    rename_i h3
    rw [if_pos h3]
    exact ⟨rfl, by simpa using fun e => h1 (.inr e), h3⟩
   · cases h
theorem IC {l : List Pr} (h : fQ l ≠ 0) : vk l = .tpl [.v (.slice none 0 0), .v (.int .i64 (fQ l : Int))] := by
 unfold fQ at h ⊢
 unfold vk
 split
 · rfl
 ·
  rename_i h1
  rw [if_neg h1] at h
  split
  · rfl
  ·
   rename_i h2
   rw [if_neg h2] at h
   split
   ·
    rename_i h3
    rw [if_pos h3] at h
    exact absurd rfl h
   · rfl
theorem yE {l : List Pr} (hn : ((l.map sp).map (·.1)).Nodup) : kC 0 (srt (l.map sp)) := by
 refine ⟨?_, fun x _ => Nat.zero_le _, fun x _ y _ => rfl, fun x hx b hb => ?_⟩
 ·
  have h1 := yh (l.map sp)
  have h2 : ((srt (l.map sp)).map (·.1)).Nodup := ((fV (l.map sp)).map (·.1)).nodup_iff.2 hn
  unfold List.Nodup at h2
  rw [List.pairwise_map] at h2
  refine (h1.and h2).imp fun h => ?_
  exact Classical.byContradiction fun hn => h.2 (List.le_antisymm h.1 (List.not_lt.1 hn))
 ·
  obtain ⟨y, _, rfl⟩ := List.mem_map.1 ((fV (l.map sp)).mem_iff.1 hx)
  have := iU y.1 b hb
  omega
theorem Jg (l : List Pr) : Fn 69 [.sl 2 (l.map dPr)] (· = .tpl [if fQ l = 0 then dT (jM l) else .v .nilIface, .v (.int .i64 (fQ l : Int))]) := by
 have h1 := SV l
 refine Fn.walk 16 Tryz.func69 rfl Tryz.ntmps69 (by simp) fun X => ?_
 by_cases he : fQ l = 0
 ·
  obtain ⟨e1, e2, e3⟩ := lN he
  rw [e1] at h1
  rw [if_pos he, he]
  have hlen : ∀ x ∈ srt (l.map sp), x.1.length ≤ 128 := fun x hx => by
   obtain ⟨y, hy, rfl⟩ := List.mem_map.1 ((fV (l.map sp)).mem_iff.1 hx)
   have := iL e2 hy
   show (split y.1).length ≤ 128
   rw [dH]
   omega
  have h2 := S9 200 (srt (l.map sp)) 0 (yE e3) (fun x hx => by have := hlen x hx; omega) (fun x hx => by have := hlen x hx; omega)
  repeat
   (first
    | (apply aB (h1); rfl; exact ak.refl _ _; exact enA; iterate 2 rfl) | (apply aB (h2); rfl; exact ak.refl _ _; exact enA; iterate 2 rfl)
    | (apply au; iterate 3 rfl) | (apply aj; iterate 3 rfl) | (apply aG; iterate 4 rfl)
    | (apply aC (b := false); (iterate 2 rfl); exact aO; iterate 2 rfl) | apply EL.nil | ((with_reducible apply EK.ah); apply EK.code) | (apply EC.cond_false; rfl)
    | (with_reducible first | apply EC.seq | apply EC.region | apply EC.skip | apply EC.ret))
  exact EK.H7 rfl rfl rfl rfl
 ·
  rw [IC he] at h1
  rw [if_neg he]
  have hne : (fQ l : Int) ≠ 0 := by omega
  repeat
   (first
    | (apply aB (h1); rfl; exact ak.refl _ _; exact enA; iterate 2 rfl) | (apply au; iterate 3 rfl) | (apply aj; iterate 3 rfl)
    | (apply aG; iterate 4 rfl) | (apply aC (b := true); (iterate 2 rfl); exact aO; iterate 2 rfl) | apply EL.nil | ((with_reducible apply EK.ah); apply EK.code)
    | (apply EC.cond_true; rfl) | (with_reducible first | apply EC.seq | apply EC.region | apply EC.ret | apply EK.aH))
  exact EK.H7 rfl rfl rfl rfl
theorem CQ {l : List Pr} (h : fQ l = 0) : (jM l).ok := WM _ _ _ fun x hx => by
 obtain ⟨y, hy, rfl⟩ := List.mem_map.1 ((fV (l.map sp)).mem_iff.1 hx)
 have := iL (lN h).2.1 hy
 show (split y.1).length ≤ _
 rw [dH]
 omega
def iJ (l : List Pr) : List UInt8 := if fQ l = 0 then sumT (jM l) else zero32
theorem Vd (l : List Pr) : Fn 26 [.sl 2 (l.map dPr)] (· = .tpl [.arr 32 (iJ l), .v (.int .i64 (fQ l : Int))]) := by
 have h1 := Jg l
 unfold iJ
 refine Fn.walk 17 Tryz.func26 rfl Tryz.ntmps26 (by simp) fun X => ?_
 by_cases he : fQ l = 0
 ·
  have h2 := WH (jM l) (CQ he)
  rw [if_pos he, he] at h1 ⊢
  repeat
   (first
    | (apply aB (h1); rfl; exact ak.refl _ _; exact enA; iterate 2 rfl) | (apply aB (h2); rfl; exact ak.refl _ _; exact enA; iterate 2 rfl)
    | (apply au; iterate 3 rfl) | (apply aj; iterate 3 rfl) | (apply aG; iterate 4 rfl)
    | (apply aC (b := false); (iterate 2 rfl); exact aO; iterate 2 rfl) | (apply bf; rfl; rfl; rfl; intro _)
    | (apply aN; rfl; (focus (repeat first | exact .z | apply bC.s | apply aP.s)); iterate 4 rfl) | apply EL.nil | ((with_reducible apply EK.ah); apply EK.code)
    | (apply EC.cond_false; rfl) | (with_reducible first | apply EC.seq | apply EC.region | apply EC.skip | apply EC.ret))
  refine EK.O1 0 rfl rfl rfl rfl rfl ?_ rfl
  (exact RL.a)
 ·
  rw [if_neg he] at h1 ⊢
  have hne : (fQ l : Int) ≠ 0 := by omega
  repeat
   (first
    | (apply aB (h1); rfl; exact ak.refl _ _; exact enA; iterate 2 rfl) | (apply au; iterate 3 rfl) | (apply aj; iterate 3 rfl)
    | (apply aG; iterate 4 rfl) | (apply aC (b := true); (iterate 2 rfl); exact aO; iterate 2 rfl) | (apply G8; iterate 5 rfl)
    | (apply bf; rfl; rfl; rfl; intro _) | (apply aN; rfl; (focus (repeat first | exact .z | apply bC.s | apply aP.s)); iterate 4 rfl) | apply EL.nil
    | ((with_reducible apply EK.ah); apply EK.code) | (apply EC.cond_true; rfl) | (with_reducible first | apply EC.seq | apply EC.region | apply EC.ret | apply EK.aH))
  refine EK.O1 0 rfl rfl rfl rfl rfl ?_ rfl
  (exact RL.a)
end E
end Go.Proofs.YtiledgojbpmoiaaGreat
namespace Go.Proofs.YtiledgojbpmoiaaGreat.Kec
def ofN (n : Nat) : St := fun k => BitVec.ofNat 64 (n >>> (64 * k))
theorem chain (S : List Nat) (h : ∀ i, i < 24 → ∀ k, k < 25 → round (ofN (S.getD i 0)) (rc i) k = ofN (S.getD (i + 1) 0) k) : Same (perm (ofN (S.getD 0 0)) 24) (ofN (S.getD 24 0)) := by
 have : ∀ i, i ≤ 24 → Same (perm (ofN (S.getD 0 0)) i) (ofN (S.getD i 0)) := by
  intro i
  induction i with
  | zero => exact fun _ => Same.refl _
  | succ i ih => exact fun hi => (su (ih (by omega)) (rc i)).trans (h i (by omega))
 exact this 24 (by omega)
theorem sH {a b : St} (h : Same a b) : ∀ k, Same (perm a k) (perm b k)
 | 0 => h
 | k + 1 => su (sH h k) (rc k)
end Go.Proofs.YtiledgojbpmoiaaGreat.Kec
