/-
 Merged: lemmas of this claim.
 Conditions: none.
-/
import Derived.Test.YtelbhdobjdnglaaGreatZC31
import Derived.Test.YtelbhdobjdnglaaGreatZC26
import Derived.Test.YtelbhdobjdnglaaGreatZC13
import Derived.Test.YtelbhdobjdnglaaGreatZC19
import Derived.Test.YtelbhdobjdnglaaGreatZC0
namespace Go.Proofs.YtelbhdobjdnglaaGreat
set_option linter.unusedVariables false
set_option maxRecDepth 20000
set_option maxHeartbeats 16000000
open Go.RowKit Mono Rlp
namespace E
abbrev bO (g : Nat) (ns : List Pr) : Obj := .var g 149 (.tup [.sl 33 (ns.map dNd), .v (.pointer none), .v (.bool false)])
theorem Qu (g : Nat) (ns : List Pr) (x : List UInt8) (hl : ns.length ≤ 1000000000) (hx : x.length ≤ 1099511627776) : FnM 72 [.v (ptr g), .bs x] [bO g ns] (fun r os' => r = .val (.arr 32 (hash x)) ∧ os' = [bO g (nH (hash x, x) ns)]) := by
 have hK := Gu x hx
 have hP := Ny ns (hash x, x) hl
 have hnl := (Ku (T := 78) (by kernel_rfl) none).2
 refine FnM.walk 38 Tryz.func72 rfl Tryz.ntmps72 (by simp) fun X => ?_
 repeat
  (first
   | (apply aC (hK); rfl; exact aj.refl _ _; exact enA; iterate 2 rfl) | (apply ak; iterate 3 rfl) | (apply aT; rfl; rfl; rfl; intro _)
   | (apply aO; rfl; exact saA; iterate 4 rfl) | apply EL.nil
   | (with_reducible first | apply EK.nc | apply EC.seq | apply EC.r0))
 refine EC.draw 15 (by kernel_rfl) ?_
 simp only [WH, WO, WG, WM]
 repeat
  (first
   | (apply tZ; iterate 2 rfl) | (apply kV; (iterate 2 rfl); exact hnl; iterate 2 rfl) | (apply bV; iterate 3 rfl) | (apply dJ; iterate 6 rfl)
   | (apply jr; iterate 4 rfl) | (apply dP; rfl; exact I.a; iterate 4 rfl) | (apply gQ; iterate 3 rfl) | ((with_reducible apply EH.nil); rfl))
 repeat
  (first
   | apply EL.nil | (apply EC.f0; rfl) | (with_reducible first | apply EK.nc | apply EC.seq | apply EC.k0))
 refine EC.le (Le.pick [2, 0, 1] [_, _, _] rfl (by decide) rfl) ?_
 refine EC.uO 12 [0, 1, 2, 3, 5, 6, 7, 9, 10] [4, 8, 11] [_] _ (by kernel_rfl) (by kernel_rfl) rfl ?_
 simp only [aZ, WU, WW, WQ, WR]
 repeat
  (first
   | (apply bV; iterate 3 rfl) | (apply dJ; iterate 6 rfl) | (apply dP; rfl; exact I.a; iterate 4 rfl) | (apply rU; iterate 7 rfl)
   | (apply gQ; iterate 3 rfl))
 refine EM.nil ?_
 repeat (first | rw [WL] | rw [WJ])
 refine CH.cut 2 ?_
 simp only [WH, WO, WG, WM]
 repeat
  (first
   | (apply jv (hP); rfl; exact aj.refl _ _; exact enA; iterate 2 rfl) | (apply dP; rfl; exact I.a; iterate 4 rfl))
 refine EM.nil ?_
 repeat (first | rw [WL] | rw [WJ])
 refine CH.mut (os := [_]) (rest := []) rfl rfl (kR (rF rfl rfl rfl rfl rfl)) ?_
 rintro _ _ ⟨rfl, rfl⟩
 try simp only [St.put]
 repeat (first | rw [WL] | rw [WJ])
 refine CH.nil ?_
 try simp only [WG, WM]
 repeat
  (first
   | (apply aI; rfl; exact I.a; iterate 4 rfl) | (apply aO; rfl; exact saA; iterate 4 rfl) | apply EL.nil
   | (with_reducible first | apply EK.nc | apply EC.seq | apply EC.r0 | apply EC.ret))
 refine EK.JD 2 [bO g (nH (hash x, x) ns)] rfl rfl rfl rfl ?_ (by (repeat first | exact WI _ | apply List.Sublist.cons_cons | apply List.Sublist.cons)) ⟨rfl, rfl⟩
 (exact RL.a)
def D9 : List Pr → List Pr → Nat → Nat
 | _, [], e => e
 | pre, x :: r, e => if lg x = true then 3 else D9 (pre ++ [x]) r (if pre.any (fun y => y.1 == x.1) = true then 1 else if x.2.isEmpty = true then 1 else e)
theorem yu : ∀ a b : List UInt8, split a = split b → a = b
 | [], [], _ => rfl
 | [], y :: b, h => by simp [split] at h
 | x :: a, [], h => by simp [split] at h
 | x :: a, y :: b, h => by
  have hs : ∀ (z : UInt8) (l : List UInt8), split (z :: l) = (z >>> 4) :: (z &&& 15) :: split l := fun _ _ => rfl
  rw [hs, hs] at h
  simp only [Zn] at h
  obtain ⟨h1, h2, h3⟩ := h
  have e1 := congrArg UInt8.toNat h1
  have e2 := congrArg UInt8.toNat h2
  rw [DI, DI] at e1
  rw [DF, DF] at e2
  have : x = y := XR.1 (by omega)
  rw [this, yu a b h3]
theorem Ko : ∀ (l pre : List Pr) (e : Nat), e ≤ 1 → D9 pre l e = if l.any lg = true then 3 else if e = 1 ∨ l.any (·.2.isEmpty) = true ∨ ¬ (l.map (·.1)).Nodup ∨ (∃ x ∈ l, ∃ y ∈ pre, y.1 = x.1) then 1 else 0
 | [], pre, e, he => by
  rw [D9]
  simp
  split <;> omega
 | x :: l, pre, e, he => by
  rw [D9, YN, YN]
  cases hg : lg x with
  | true => simp
  | false =>
   rw [if_neg (by decide), YM, Ko l (pre ++ [x]) _ (by split <;> (try split) <;> omega)]
   split
   · rfl
   ·
    congr 1
    apply propext
    have hany : (pre.any (fun y => y.1 == x.1) = true) ↔ ∃ y ∈ pre, y.1 = x.1 := by simp
    constructor
    ·
     rintro (h | h | h | ⟨z, hz, y, hy, h⟩)
     ·
      split at h
      ·
       rename_i h2
       exact .inr (.inr (.inr ⟨x, WT, hany.1 h2⟩))
      ·
       split at h
       ·
        rename_i h3
        exact .inr (.inl (by simp [h3]))
       · exact .inl h
     · exact .inr (.inl (by simp [h]))
     · exact .inr (.inr (.inl fun hn => h (XV.1 hn).2))
     ·
      rcases Xq.1 hy with hy | hy
      · exact .inr (.inr (.inr ⟨z, WZ _ hz, y, hy, h⟩))
      ·
       obtain rfl := XQ.1 hy
       exact .inr (.inr (.inl fun hn => (XV.1 hn).1 (Xg.2 ⟨z, hz, h.symm⟩)))
    ·
     intro h
     by_cases h2 : pre.any (fun y => y.1 == x.1) = true
     · exact .inl (if_pos h2)
     ·
      rw [if_neg h2]
      by_cases h3 : x.2.isEmpty = true
      · exact .inl (if_pos h3)
      ·
       rw [if_neg h3]
       rcases h with h | h | h | ⟨z, hz, y, hy, h⟩
       · exact .inl h
       ·
        rw [Y5.2 h3, YM] at h
        exact .inr (.inl h)
       ·
        by_cases hm : x.1 ∈ l.map (·.1)
        ·
         obtain ⟨z, hz, hzx⟩ := Xg.1 hm
         exact .inr (.inr (.inr ⟨z, hz, x, by simp, hzx.symm⟩))
        · exact .inr (.inr (.inl fun hn => h (XV.2 ⟨hm, hn⟩)))
       ·
        rcases Xb.1 hz with rfl | hz
        · exact absurd (hany.2 ⟨y, hy, h⟩) h2
        · exact .inr (.inr (.inr ⟨z, hz, y, XC _ hy, h⟩))
theorem Nz (l : List Pr) (h : ¬ 100000 < l.length) : D9 [] l 0 = qO l := by
 rw [Ko l [] 0 (by decide)]
 unfold qO
 have hnd : ((l.map sp).map (·.1)).Nodup ↔ (l.map (·.1)).Nodup := by
  have : (l.map sp).map (·.1) = (l.map (·.1)).map split := by rw [XU, XU]; rfl
  rw [this]
  constructor
  ·
   intro hn
   exact List.Pairwise.imp (fun h e => h (by rw [e])) (YR.1 hn)
  ·
   intro hn
   exact YR.2 (hn.imp fun h e => h (yu _ _ e))
 by_cases h1 : l.any lg = true
 · rw [if_pos h1, if_pos (.inr h1)]
 ·
  rw [if_neg h1, if_neg (show ¬ (100000 < l.length ∨ l.any lg = true) from fun hh => hh.elim h h1)]
  by_cases h2 : l.any (·.2.isEmpty) = true
  · rw [if_pos (show (0 = 1 ∨ l.any (·.2.isEmpty) = true ∨ ¬ (l.map (·.1)).Nodup ∨ (∃ x ∈ l, ∃ y ∈ ([] : List Pr), y.1 = x.1)) from .inr (.inl h2)), if_pos h2]
  ·
   rw [if_neg (show ¬ (l.any (·.2.isEmpty) = true) from h2)]
   by_cases h3 : (l.map (·.1)).Nodup
   ·
    rw [if_neg (show ¬ (0 = 1 ∨ l.any (·.2.isEmpty) = true ∨ ¬ (l.map (·.1)).Nodup ∨ (∃ x ∈ l, ∃ y ∈ ([] : List Pr), y.1 = x.1)) from fun hh => by
     rcases hh with hh | hh | hh | ⟨x, _, y, hy, _⟩
     · cases hh
     · exact h2 hh
     · exact hh h3
     · cases hy), if_pos (hnd.2 h3)]
   · rw [if_pos (show (0 = 1 ∨ l.any (·.2.isEmpty) = true ∨ ¬ (l.map (·.1)).Nodup ∨ (∃ x ∈ l, ∃ y ∈ ([] : List Pr), y.1 = x.1)) from .inr (.inr (.inl h3))), if_neg (fun hh => h3 (hnd.1 hh))]
theorem Jd (l : List Pr) : Fn 14 [.sl 2 (l.map dPr)] (· = .val (.v (.int .i64 (qO l : Int)))) := by
 have hml : (l.map dPr).length = l.length := WY _
 refine Fn.walk 57 Tryz.func14 rfl Tryz.ntmps14 (by simp) fun X => ?_
 by_cases hbig : 100000 < l.length
 ·
  have he : qO l = 3 := by unfold qO; rw [if_pos (.inl hbig)]
  rw [he]
  repeat
   (first
    | (apply ak; iterate 3 rfl) | (apply ah; iterate 3 rfl) | (apply aF (b := true); (iterate 2 rfl); exact aQ; iterate 2 rfl)
    | (apply bC; iterate 4 rfl) | apply EL.nil | (apply EC.t0; rfl)
    | (with_reducible first | apply EK.nc | apply EC.seq | apply EC.r0 | apply EC.ret | apply EK.aB))
  exact EK.Ak rfl rfl rfl
 rw [← Nz l hbig]
 generalize hres : D9 [] l 0 = res
 repeat
  (first
   | (apply ak; iterate 3 rfl) | (apply ah; iterate 3 rfl) | (apply aF (b := false); (iterate 2 rfl); exact aQ; iterate 2 rfl)
   | (apply bC; iterate 4 rfl) | apply EL.nil | (apply EC.f0; rfl)
   | (with_reducible first | apply EK.nc | apply EC.seq | apply EC.r0 | apply EC.k0 | apply EC.b0))
 refine EC.loop (ι := {p : Nat × Nat // p.1 ≤ l.length ∧ res = D9 (l.take p.1) (l.drop p.1) p.2})
  (fun p => ⟨[(4, .val (.v (.int .i64 (p.1.1 : Int)))), (3, .val (.v (.int .i64 (p.1.2 : Int)))), (0, .val (.sl 2 (l.map dPr)))], [], []⟩)
  (fun p => l.length - p.1.1) ⟨(0, 0), Xo _, hres.symm⟩ ?_ ?_
 · exact Le.kp
 rintro ⟨⟨i, e⟩, hi, hI⟩
 dsimp only at hi hI ⊢
 by_cases hlt : i < l.length
 ·
  have hd : (l.map dPr)[i]? = some (.tup [.bs l[i].1, .bs l[i].2]) := by rw [Xl, List.getElem?_eq_getElem hlt]; rfl
  have htk : l.take (i + 1) = l.take i ++ [l[i]] := Xa hlt
  rw [Xn hlt, D9, ← htk] at hI
  unfold lg at hI
  by_cases hg1 : 64 < l[i].1.length
  ·
   rw [decide_eq_true hg1, Y7, if_pos rfl] at hI
   subst hI
   repeat
    (first
     | (apply dO; iterate 2 rfl) | (apply ak; iterate 3 rfl) | (apply ah; iterate 3 rfl) | (apply aP; iterate 7 rfl)
     | (apply aG; iterate 5 rfl) | (apply aK; iterate 4 rfl) | (apply aF (b := true); (iterate 2 rfl); exact aQ; iterate 2 rfl)
     | (apply aV; iterate 4 rfl) | (apply bC; iterate 4 rfl)
     | (apply bH; (iterate 4 rfl); exact ixA; iterate 2 rfl) | apply EL.nil
     | (apply EC.t0; rfl)
     | (with_reducible first | apply EK.nc | apply EC.seq | apply EC.r0 | apply EC.k0 | apply EC.b0 | apply EC.ret | apply EK.bK | apply EK.aB))
   exact EK.Ak rfl rfl rfl
  ·
   by_cases hg2 : 1048576 < l[i].2.length
   ·
    rw [decide_eq_true hg2, Bool.or_true, if_pos rfl] at hI
    subst hI
    repeat
     (first
      | (apply ak; iterate 3 rfl) | (apply ah; iterate 3 rfl) | (apply aP; iterate 7 rfl) | (apply aG; iterate 5 rfl)
      | (apply aK; iterate 4 rfl) | (apply aF (b := true); (iterate 2 rfl); exact aQ; iterate 2 rfl)
      | (apply aF (b := false); (iterate 2 rfl); exact aQ; iterate 2 rfl) | (apply aV; iterate 4 rfl) | (apply bC; iterate 4 rfl)
      | (apply bH; (iterate 4 rfl); exact ixA; iterate 2 rfl) | apply EL.nil
      | (apply EC.t0; rfl)
      | (with_reducible first | apply EK.nc | apply EC.seq | apply EC.r0 | apply EC.k0 | apply EC.b0 | apply EC.ret | apply EK.bK | apply EK.aB))
    exact EK.Ak rfl rfl rfl
   ·
    rw [decide_eq_false hg1, decide_eq_false hg2, if_neg (by decide)] at hI
    cases hv : l[i].2 with
    | nil =>
     rw [hv] at hd
     rw [hv, if_pos (show ([] : List UInt8).isEmpty = true from rfl)] at hI
     repeat
      (first
       | (apply ak; iterate 3 rfl) | (apply ah; iterate 3 rfl) | (apply aP; iterate 7 rfl) | (apply aG; iterate 5 rfl)
       | (apply aK; iterate 4 rfl) | (apply aF (b := true); (iterate 2 rfl); exact aQ; iterate 2 rfl)
       | (apply aF (b := false); (iterate 2 rfl); exact aQ; iterate 2 rfl) | (apply aV; iterate 4 rfl) | (apply bC; iterate 4 rfl)
       | (apply bH; (iterate 4 rfl); exact ixA; iterate 2 rfl) | apply EL.nil
       | (apply EC.t0; rfl) | (apply EC.f0; rfl)
       | (with_reducible first | apply EK.nc | apply EC.seq | apply EC.r0 | apply EC.k0 | apply EC.b0))
     refine EC.loop (ι := {k : Nat // k ≤ i})
      (fun k => ⟨[(5, .val (.v (.int .i64 (k.1 : Int)))), (4, .val (.v (.int .i64 (i : Int)))), (3, .val (.v (.int .i64 ((if (l.take k.1).any (fun y => y.1 == l[i].1) = true then 1 else 1 : Nat) : Int)))), (0, .val (.sl 2 (l.map dPr)))], [], []⟩)
      (fun k => i - k.1) ⟨0, Xo _⟩ ?_ ?_
     · exact Le.kp
     rintro ⟨k, hk⟩
     dsimp only at hk ⊢
     by_cases hki : k < i
     ·
      have hkl : k < l.length := by omega
      have hdk : (l.map dPr)[k]? = some (.tup [.bs l[k].1, .bs l[k].2]) := by rw [Xl, List.getElem?_eq_getElem hkl]; rfl
      have hbs := (zT l[k].1 l[i].1).1
      have hany : (l.take (k + 1)).any (fun y => y.1 == l[i].1) = ((l.take k).any (fun y => y.1 == l[i].1) || (l[k].1 == l[i].1)) := by
       rw [Xa hkl, List.any_append]
       simp
      cases hq : (l[k].1 == l[i].1) with
      | true =>
       rw [hq] at hbs
       rw [hq, Bool.or_true] at hany
       repeat
        (first
         | (apply ak; iterate 3 rfl) | (apply aF (b := true); (iterate 2 rfl); exact aQ; iterate 2 rfl) | apply EL.nil
         | (apply EC.t0; rfl) | (with_reducible first | apply EK.nc | apply EC.seq | apply EC.r0 | apply EC.k0 | apply EC.b0))
       refine EC.draw 13 (by kernel_rfl) ?_
       simp only [WH, WO, WG, WM]
       repeat
        (first
         | (apply kV; (iterate 2 rfl); exact hbs; iterate 2 rfl) | (apply bV; iterate 3 rfl) | (apply gG; iterate 7 rfl) | (apply fA; iterate 5 rfl)
         | (apply gU; (iterate 4 rfl); exact ixA; iterate 2 rfl)
         | (apply KF; iterate 3 rfl) | ((with_reducible apply EH.nil); rfl))
       repeat
        (first
         | (apply ak; iterate 3 rfl) | (apply ah; iterate 3 rfl) | (apply jM; (iterate 3 rfl); (focus omega); (focus omega); iterate 2 rfl) | apply EL.nil
         | (apply EC.t0; rfl) | (with_reducible first | apply EK.nc | apply EC.r0 | apply EK.n0))
       refine EK.again ⟨k + 1, hki⟩ (by dsimp only; omega) ?_
       dsimp only
       rw [hany, if_pos rfl]
       simp only [XA]
       exact Le.kp
      | false =>
       rw [hq] at hbs
       rw [hq, Bool.or_false] at hany
       repeat
        (first
         | (apply ak; iterate 3 rfl) | (apply aF (b := true); (iterate 2 rfl); exact aQ; iterate 2 rfl) | apply EL.nil
         | (apply EC.t0; rfl) | (with_reducible first | apply EK.nc | apply EC.seq | apply EC.r0 | apply EC.k0 | apply EC.b0))
       refine EC.draw 13 (by kernel_rfl) ?_
       simp only [WH, WO, WG, WM]
       repeat
        (first
         | (apply kV; (iterate 2 rfl); exact hbs; iterate 2 rfl) | (apply bV; iterate 3 rfl) | (apply gG; iterate 7 rfl) | (apply fA; iterate 5 rfl)
         | (apply gU; (iterate 4 rfl); exact ixA; iterate 2 rfl)
         | (apply KF; iterate 3 rfl) | ((with_reducible apply EH.nil); rfl))
       repeat
        (first
         | (apply ak; iterate 3 rfl) | (apply ah; iterate 3 rfl) | (apply jM; (iterate 3 rfl); (focus omega); (focus omega); iterate 2 rfl) | apply EL.nil
         | (apply EC.f0; rfl) | (with_reducible first | apply EK.nc | apply EC.r0 | apply EC.k0 | apply EK.n0))
       refine EK.again ⟨k + 1, hki⟩ (by dsimp only; omega) ?_
       dsimp only
       rw [hany]
       simp only [XA]
       exact Le.kp
     ·
      obtain rfl : k = i := by omega
      repeat
       (first
        | (apply ak; iterate 3 rfl) | (apply ah; iterate 3 rfl) | (apply aF (b := false); (iterate 2 rfl); exact aQ; iterate 2 rfl)
        | (apply jM; (iterate 3 rfl); (focus omega); (focus omega); iterate 2 rfl) | apply EL.nil | (apply EC.f0; rfl)
        | (with_reducible first | apply EK.nc | apply EC.seq | apply EC.r0 | apply EC.x0 | apply EK.n0 | apply EK.s0 | apply EK.aJ))
      refine EK.again ⟨(k + 1, _), hlt, hI⟩ (by dsimp only; omega) ?_
      dsimp only
      simp only [XA]
      exact Le.kp
    | cons c v =>
     rw [hv] at hd hg2
     have hg3 : ¬ 1048576 < v.length + 1 := hg2
     rw [hv, if_neg (show ¬ ((c :: v).isEmpty = true) from Bool.false_ne_true)] at hI
     repeat
      (first
       | (apply ak; iterate 3 rfl) | (apply ah; iterate 3 rfl) | (apply aP; iterate 7 rfl) | (apply aG; iterate 5 rfl)
       | (apply aK; iterate 4 rfl) | (apply aF (b := true); (iterate 2 rfl); exact aQ; iterate 2 rfl)
       | (apply aF (b := false); (iterate 2 rfl); exact aQ; iterate 2 rfl) | (apply aV; iterate 4 rfl) | (apply bC; iterate 4 rfl)
       | (apply bH; (iterate 4 rfl); exact ixA; iterate 2 rfl) | apply EL.nil
       | (apply EC.t0; rfl) | (apply EC.f0; rfl)
       | (with_reducible first | apply EK.nc | apply EC.seq | apply EC.r0 | apply EC.k0 | apply EC.b0))
     refine EC.loop (ι := {k : Nat // k ≤ i})
      (fun k => ⟨[(5, .val (.v (.int .i64 (k.1 : Int)))), (4, .val (.v (.int .i64 (i : Int)))), (3, .val (.v (.int .i64 ((if (l.take k.1).any (fun y => y.1 == l[i].1) = true then 1 else e : Nat) : Int)))), (0, .val (.sl 2 (l.map dPr)))], [], []⟩)
      (fun k => i - k.1) ⟨0, Xo _⟩ ?_ ?_
     · exact Le.kp
     rintro ⟨k, hk⟩
     dsimp only at hk ⊢
     by_cases hki : k < i
     ·
      have hkl : k < l.length := by omega
      have hdk : (l.map dPr)[k]? = some (.tup [.bs l[k].1, .bs l[k].2]) := by rw [Xl, List.getElem?_eq_getElem hkl]; rfl
      have hbs := (zT l[k].1 l[i].1).1
      have hany : (l.take (k + 1)).any (fun y => y.1 == l[i].1) = ((l.take k).any (fun y => y.1 == l[i].1) || (l[k].1 == l[i].1)) := by
       rw [Xa hkl, List.any_append]
       simp
      cases hq : (l[k].1 == l[i].1) with
      | true =>
       rw [hq] at hbs
       rw [hq, Bool.or_true] at hany
       repeat
        (first
         | (apply ak; iterate 3 rfl) | (apply aF (b := true); (iterate 2 rfl); exact aQ; iterate 2 rfl) | apply EL.nil
         | (apply EC.t0; rfl) | (with_reducible first | apply EK.nc | apply EC.seq | apply EC.r0 | apply EC.k0 | apply EC.b0))
       refine EC.draw 13 (by kernel_rfl) ?_
       simp only [WH, WO, WG, WM]
       repeat
        (first
         | (apply kV; (iterate 2 rfl); exact hbs; iterate 2 rfl) | (apply bV; iterate 3 rfl) | (apply gG; iterate 7 rfl) | (apply fA; iterate 5 rfl)
         | (apply gU; (iterate 4 rfl); exact ixA; iterate 2 rfl)
         | (apply KF; iterate 3 rfl) | ((with_reducible apply EH.nil); rfl))
       repeat
        (first
         | (apply ak; iterate 3 rfl) | (apply ah; iterate 3 rfl) | (apply jM; (iterate 3 rfl); (focus omega); (focus omega); iterate 2 rfl) | apply EL.nil
         | (apply EC.t0; rfl) | (with_reducible first | apply EK.nc | apply EC.r0 | apply EK.n0))
       refine EK.again ⟨k + 1, hki⟩ (by dsimp only; omega) ?_
       dsimp only
       rw [hany, if_pos rfl]
       simp only [XA]
       exact Le.kp
      | false =>
       rw [hq] at hbs
       rw [hq, Bool.or_false] at hany
       repeat
        (first
         | (apply ak; iterate 3 rfl) | (apply aF (b := true); (iterate 2 rfl); exact aQ; iterate 2 rfl) | apply EL.nil
         | (apply EC.t0; rfl) | (with_reducible first | apply EK.nc | apply EC.seq | apply EC.r0 | apply EC.k0 | apply EC.b0))
       refine EC.draw 13 (by kernel_rfl) ?_
       simp only [WH, WO, WG, WM]
       repeat
        (first
         | (apply kV; (iterate 2 rfl); exact hbs; iterate 2 rfl) | (apply bV; iterate 3 rfl) | (apply gG; iterate 7 rfl) | (apply fA; iterate 5 rfl)
         | (apply gU; (iterate 4 rfl); exact ixA; iterate 2 rfl)
         | (apply KF; iterate 3 rfl) | ((with_reducible apply EH.nil); rfl))
       repeat
        (first
         | (apply ak; iterate 3 rfl) | (apply ah; iterate 3 rfl) | (apply jM; (iterate 3 rfl); (focus omega); (focus omega); iterate 2 rfl) | apply EL.nil
         | (apply EC.f0; rfl) | (with_reducible first | apply EK.nc | apply EC.r0 | apply EC.k0 | apply EK.n0))
       refine EK.again ⟨k + 1, hki⟩ (by dsimp only; omega) ?_
       dsimp only
       rw [hany]
       simp only [XA]
       exact Le.kp
     ·
      obtain rfl : k = i := by omega
      repeat
       (first
        | (apply ak; iterate 3 rfl) | (apply ah; iterate 3 rfl) | (apply aF (b := false); (iterate 2 rfl); exact aQ; iterate 2 rfl)
        | (apply jM; (iterate 3 rfl); (focus omega); (focus omega); iterate 2 rfl) | apply EL.nil | (apply EC.f0; rfl)
        | (with_reducible first | apply EK.nc | apply EC.seq | apply EC.r0 | apply EC.x0 | apply EK.n0 | apply EK.s0 | apply EK.aJ))
      refine EK.again ⟨(k + 1, _), hlt, hI⟩ (by dsimp only; omega) ?_
      dsimp only
      simp only [XA]
      exact Le.kp
 ·
  have hie : i = l.length := by omega
  rw [Xt (by omega), D9] at hI
  subst hI
  repeat
   (first
    | (apply ak; iterate 3 rfl) | (apply ah; iterate 3 rfl) | (apply aF (b := false); (iterate 2 rfl); exact aQ; iterate 2 rfl)
    | (apply bC; iterate 4 rfl) | apply EL.nil | (apply EC.f0; rfl)
    | (with_reducible first | apply EK.nc | apply EC.seq | apply EC.r0 | apply EC.x0 | apply EC.ret | apply EK.s0 | apply EK.aJ))
  exact EK.Ak rfl rfl rfl
def EU (l : List Pr) : List UInt8 := if qO l ≠ 0 then zero32 else if l.isEmpty then iY else hash (pkB (iH 200 (l.map sp)))

theorem EK.Du {N : Nat} {X : Cx N} {S : St} {fn : Func} {Φ : R → List Obj → Prop} {p u q : Tmp} {g ty : Nat} {t : TypeId} {d d' e e' k k' : D} (i : Nat) (os' : List Obj) (hres : fn.results = #[.cell p ty, .tmp u, .tmp q]) (hl : look S.regs p = some (.val (.v (.pointer (some ⟨g, 0, none⟩))))) (hi : S.objs[i]? = some (.var g t d)) (hT : assoc tyL ty = some (d.size, d.agg)) (hu : look S.regs u = some (.val e)) (hq : look S.regs q = some (.val k)) (hR : aj S.facts [d] [d']) (hR2 : aj S.facts [e] [e']) (hR3 : aj S.facts [k] [k']) (ho : os'.Sublist S.objs) (hΦ : Φ (.tpl [d', e', k']) os') : EK X (bodyPost Tryz.prog fn (Au X Φ) .ret) S := by
 constructor
 intro a w ha
 obtain ⟨x, h1, h2⟩ := uh ha.mem hi (tyI hT)
 have hp := (aY.1 (ha.regs p _ hl)).2
 have hp' : a.tmps[p]?.getD undef = .pointer (some ⟨g, 0, none⟩) := by simpa using hp
 have h3 : bU (X.ok S.objs w) w (.tpl [d', e', k']) (.tuple #[x, a.tmps.getD u undef, a.tmps.getD q undef]) := ⟨[x, a.tmps.getD u undef, a.tmps.getD q undef], rfl, _, _, rfl, Refine1.kP ha.mem.fact hR h2, _, _, rfl, Refine1.kP ha.mem.fact hR2 (ha.regs u _ hu), _, _, rfl, Refine1.kP ha.mem.fact hR3 (ha.regs q _ hq), rfl⟩
 refine bodyPost_ret (v := .tuple #[x, a.tmps.getD u undef, a.tmps.getD q undef]) ?_ ha.defers ⟨_, _, os', rfl, hΦ, ha.mem.less ho (fun f hf => by cases hf), h3.mono (fun b hb => rG ho hb) fun _ _ => rfl⟩
 simp [results, hres, hp', asAddr, h1]

theorem yU (x : Pr) : ∀ S : List Pr, ∃ y ∈ nH x S, y.1 = x.1
 | [] => ⟨x, by simp [nH], rfl⟩
 | z :: S => by
  rw [nH]
  split
  ·
   obtain ⟨y, h1, h2⟩ := yU x S
   exact ⟨y, WZ _ h1, h2⟩
  ·
   split
   ·
    rename_i h
    exact ⟨z, WT, by simpa using h⟩
   · exact ⟨x, WT, rfl⟩
def RlT (U : List (List UInt8)) (C : Nat) (s t : List Pr) : Prop := t.length ≤ s.length + C ∧ (∀ y ∈ t, y ∈ s ∨ ∃ u ∈ U, y = (hash u, u)) ∧ (∀ y ∈ s, y ∈ t) ∧ ∀ u ∈ U, ∃ y ∈ t, y.1 = hash u
def Wy (g : Nat) : Bld g where
 σ := List Pr
 os ns := [bO g ns]
 sz ns := ns.length
 Rl U C s t := RlT U C s t
 none s := ⟨Nat.le_refl _, fun y h => .inl h, fun y h => h, fun u h => (by cases h)⟩
 app h1 h2 := ⟨by have := h1.1; have := h2.1; omega, fun y hy => by
  rcases h2.2.1 y hy with h | ⟨u, hu, e⟩
  ·
   rcases h1.2.1 y h with h | ⟨u, hu, e⟩
   · exact .inl h
   · exact .inr ⟨u, Xq.2 (.inl hu), e⟩
  · exact .inr ⟨u, Xq.2 (.inr hu), e⟩, fun y hy => h2.2.2.1 y (h1.2.2.1 y hy), fun u hu => by
  rcases Xq.1 hu with hu | hu
  ·
   obtain ⟨y, hy, e⟩ := h1.2.2.2 u hu
   exact ⟨y, h2.2.2.1 y hy, e⟩
  · exact h2.2.2.2 u hu⟩
 more h1 h2 := ⟨by have := h1.1; omega, h1.2⟩
 size h := h.1
 put s x h1 h2 := (Qu g s x h1 h2).mono fun r os' ⟨hr, ho⟩ => ⟨_, ⟨yT _ _, fun y hy => by
  rcases yS _ _ y hy with h | h
  · exact .inr ⟨x, by simp, h⟩
  · exact .inl h, fun y hy => yR _ _ _ hy, fun u hu => by
  obtain rfl : u = x := by simpa using hu
  exact yU (hash u, u) s⟩, hr, ho⟩
def QH (l : List Pr) (ns : List Pr) : Prop := ns.length ≤ 200 * l.length + 1 ∧ (∀ y ∈ ns, ∃ u ∈ ug 200 (l.map sp) ++ [pkB (iH 200 (l.map sp))], y = (hash u, u)) ∧ (l ≠ [] → ∀ u ∈ ug 200 (l.map sp) ++ [pkB (iH 200 (l.map sp))], ∃ y ∈ ns, y.1 = hash u)
theorem OT : QH [] [] := ⟨by simp, (fun y hy => by cases hy), fun h => absurd rfl h⟩
theorem Fv {l ns : List Pr} {b : List UInt8} (hne : (l.map sp).isEmpty = false) (h : RlT (ug 200 (l.map sp)) (200 * (l.map sp).length) [] ns) (hb : pkB (iH 200 (l.map sp)) = b) : QH l (nH (hash b, b) ns) := by
 subst hb
 refine ⟨?_, fun y hy => ?_, fun _ u hu => ?_⟩
 ·
  have h1 := h.1
  have h2 := yT (hash (pkB (iH 200 (l.map sp))), pkB (iH 200 (l.map sp))) ns
  rw [WY] at h1
  simp only [XP, Xj] at h1
  omega
 ·
  rcases yS _ _ y hy with e | hy
  · exact ⟨_, by simp, e⟩
  ·
   rcases h.2.1 y hy with h1 | ⟨u, hu, e⟩
   · cases h1
   · exact ⟨u, Xq.2 (.inl hu), e⟩
 ·
  rcases Xq.1 hu with hu | hu
  ·
   obtain ⟨y, hy, e⟩ := h.2.2.2 u hu
   exact ⟨y, yR _ _ _ hy, e⟩
  ·
   obtain rfl : u = _ := by simpa using hu
   exact yU (hash _, _) ns
theorem Nu (l : List Pr) (hNd : qO l = 0 → l ≠ [] → ∀ gb, FnM 71 [.v (ptr gb), .sl 2 ((l.map sp).map dPr)] [bO gb []] (fun r os' => ∃ t : List Pr, RlT (ug 200 (l.map sp)) (200 * (l.map sp).length) [] t ∧ r = .val (aX (iH 200 (l.map sp))) ∧ os' = [bO gb t])) : Fn 29 [.sl 2 (l.map dPr)] (fun r => ∃ ns : List Pr, (qO l = 0 → QH l ns) ∧ r = .tpl [.arr 32 (EU l), .sl 33 (ns.map dNd), .v (.int .i64 (qO l : Int))]) := by
 have hml : (l.map dPr).length = l.length := WY _
 have hM := Jd l
 have hE := Gn
 unfold EU
 refine FnM.toFn ?_
 refine FnM.walk 60 Tryz.func29 rfl Tryz.ntmps29 (by simp) fun X => ?_
 by_cases he : qO l = 0
 ·
  rw [he] at hM ⊢
  rw [if_neg (by decide)]
  have hlen := (show l.length ≤ 100000 from by
   unfold qO at he
   split at he
   · cases he
   ·
    rename_i h1
    have : ¬ 100000 < l.length := fun e => h1 (.inl e)
    omega)
  have hlg : l.any lg = false := (BF he).2.1
  by_cases hnil : l = []
  ·
   subst hnil
   rw [if_pos (show ([] : List Pr).isEmpty = true from rfl)]
   repeat
    (first
     | (apply aC (hM); rfl; exact aj.refl _ _; exact enA; iterate 2 rfl) | (apply aC (hE); rfl; exact aj.refl _ _; exact enA; iterate 2 rfl)
     | (apply ak; iterate 3 rfl) | (apply ah; iterate 3 rfl) | (apply aF (b := true); (iterate 2 rfl); exact aQ; iterate 2 rfl)
     | (apply aF (b := false); (iterate 2 rfl); exact aQ; iterate 2 rfl) | (apply bC; iterate 4 rfl) | (apply aT; rfl; rfl; rfl; intro _)
     | (apply aO; rfl; exact saA; iterate 4 rfl) | apply EL.nil
     | (apply EC.t0; rfl) | (apply EC.f0; rfl) | (with_reducible first | apply EK.nc | apply EC.seq | apply EC.r0 | apply EC.k0 | apply EC.ret | apply EK.aB))
   refine EK.Du 0 [] rfl rfl rfl rfl rfl rfl ?_ ?_ ?_ (WI _) ⟨⟨[], fun _ => OT, rfl⟩, rfl⟩
   · (exact RL.a)
   · exact RL.cons Rf.sl0 RL.nil
   · (exact RL.a)
  ·
   obtain ⟨y, l', rfl⟩ : ∃ y l', l = y :: l' := by
    cases l with
    | nil => exact absurd rfl hnil
    | cons y l' => exact ⟨y, l', rfl⟩
   rw [if_neg (show ¬ ((y :: l').isEmpty = true) from Bool.false_ne_true)]
   have hne : ((y :: l').map sp).isEmpty = false := rfl
   have hlen2 : ((y :: l').map dPr).length = l'.length + 1 := by simp
   have hL2 : (y :: l').length = l'.length + 1 := rfl
   repeat
    (first
     | (apply aC (hM); rfl; exact aj.refl _ _; exact enA; iterate 2 rfl) | (apply ak; iterate 3 rfl) | (apply ah; iterate 3 rfl)
     | (apply aF (b := false); (iterate 2 rfl); exact aQ; iterate 2 rfl) | (apply bC; iterate 4 rfl) | (apply aT; rfl; rfl; rfl; intro _) | apply EL.nil
     | (apply EC.f0; rfl) | (with_reducible first | apply EK.nc | apply EC.seq | apply EC.r0 | apply EC.k0 | apply EC.b0))
   rename_i g2
   generalize hL : y :: l' = l at *
   clear hnil
   refine EC.le (Le.row 146 2) ?_
   refine EC.loop (ι := {x : Nat × Value // x.1 ≤ l.length})
    (fun x => ⟨[(7, .val (.v (.int .i64 (x.1.1 : Int)))), (6, .val (.v x.1.2)), (0, .val (.sl 2 (l.map dPr))), (2, .val (.v (.pointer (some ⟨g2, 0, none⟩))))], [.row x.1.2 146 2 (((l.take x.1.1).map sp).map dPr), .var g2 29 (.arr 32 zero32)], []⟩)
    (fun x => l.length - x.1.1) ⟨(0, .slice none 0 0), Xo _⟩ ?_ ?_
   · exact Le.kp
   rintro ⟨⟨i, v⟩, hi⟩
   dsimp only at hi ⊢
   by_cases hlt : i < l.length
   ·
    have hd : (l.map dPr)[i]? = some (.tup [.bs l[i].1, .bs l[i].2]) := by rw [Xl, List.getElem?_eq_getElem hlt]; rfl
    have hsz := Fz hlg (XH hlt)
    have hS := Gl l[i].1 (by omega)
    have hl3 : (((l.take i).map sp).map dPr).length = i := by rw [WY, WY, Xi]; omega
    have htk : ((l.take (i + 1)).map sp).map dPr = ((l.take i).map sp).map dPr ++ [.tup [.bs (split l[i].1), .bs l[i].2]] := by
     rw [Xa hlt, XK, XK]
     rfl
    repeat
     (first
      | (apply ak; iterate 3 rfl) | (apply aF (b := true); (iterate 2 rfl); exact aQ; iterate 2 rfl) | (apply bC; iterate 4 rfl) | apply EL.nil
      | (apply EC.t0; rfl) | (with_reducible first | apply EK.nc | apply EC.seq | apply EC.r0 | apply EC.k0 | apply EC.b0))
    refine EC.uO 15 [0, 1, 2, 3, 4, 5, 6, 7, 8, 9, 10, 11, 12, 13] [14] [_] _ (by kernel_rfl) (by kernel_rfl) rfl ?_
    simp only [aZ, WU, WW, WQ, WR]
    repeat
     (first
      | (apply jv (hS); rfl; exact aj.refl _ _; exact enA; iterate 2 rfl) | (apply bV; iterate 3 rfl) | (apply gG; iterate 7 rfl)
      | (apply fA; iterate 5 rfl)
      | (apply gU; (iterate 4 rfl); exact ixA; iterate 2 rfl)
      | (apply rU; iterate 7 rfl) | (apply G6; iterate 9 rfl))
    refine EM.nil ?_
    repeat (first | rw [WL] | rw [WJ])
    refine CH.mut (os := [_]) (rest := []) rfl rfl (kS rfl rfl rfl rfl rfl ?_) ?_
    ·
     rw [hl3]
     constructor <;> (simp; omega)
    rintro _ _ ⟨v', rfl, rfl⟩
    try simp only [St.put]
    repeat (first | rw [WL] | rw [WJ])
    refine CH.nil ?_
    try simp only [WG, WM]
    repeat
     (first
      | (apply ak; iterate 3 rfl) | (apply ah; iterate 3 rfl) | (apply jM; (iterate 3 rfl); (focus omega); (focus omega); iterate 2 rfl) | apply EL.nil
      | (with_reducible first | apply EK.nc | apply EC.r0 | apply EK.n0))
    refine EK.again ⟨(i + 1, v'), hlt⟩ (by dsimp only; omega) ?_
    dsimp only
    rw [htk]
    simp only [XA]
    exact Le.kp
   ·
    have hie : i = l.length := by omega
    rw [show l.take i = l by rw [hie, Yb]]
    refine EC.le (Le.freeze (pre := []) rfl) ?_
    refine EC.le (Le.refine (t := 6) (d' := .sl 2 ((l.map sp).map dPr)) rfl (Rf.fact WT rfl)) ?_
    simp only [WJ]
    have hNd := hNd he (by rw [← hL]; exact List.cons_ne_nil _ _)
    have h2 := J8 (iH 200 (l.map sp))
    repeat
     (first
      | (apply cZ; rfl; rfl; rfl; intro gb; refine EL.le (Le.Wp (d' := .tup [.sl 33 (([] : List Pr).map dNd), .v (.pointer none), .v (.bool false)]) (by apply Rf.tup; exact RL.cons Rf.sl0 RL.a)) ?_)
      | (apply ak; iterate 3 rfl) | (apply ah; iterate 3 rfl) | (apply aF (b := false); (iterate 2 rfl); exact aQ; iterate 2 rfl)
      | (apply bC; iterate 4 rfl) | (apply dX; iterate 7 rfl) | apply EL.nil | (apply EC.f0; rfl)
      | (with_reducible first | apply EK.nc | apply EC.seq | apply EC.r0 | apply EC.x0 | apply EK.s0 | apply EK.aJ))
    refine Ad (hNd gb) [] [_] rfl rfl (aj.refl _ _) (by intro _ _; simp [go_sem]) rfl rfl ?_
    rintro _ _ ⟨ns1, hn1, rfl, rfl⟩
    simp only [WL, WJ]
    have hn2 := hn1
    have hn1 := hn1.1
    rw [WY] at hn1
    simp only [XP, Xj] at hn1
    have hpb : packed (iH 200 (l.map sp)) = none ∨ packed (iH 200 (l.map sp)) = some (pkB (iH 200 (l.map sp))) := by
     unfold pkB
     cases h : packed (iH 200 (l.map sp)) with
     | none => exact .inl rfl
     | some b => exact .inr rfl
    rcases hpb with hp | hp
    ·
     have h0 : pkB (iH 200 (l.map sp)) = [] := by unfold pkB; rw [hp]; rfl
     rw [hp] at h2
     rw [h0]
     unfold qG at h2
     dsimp only at h2
     repeat
      (first
       | (apply aC (h2); rfl; exact aj.refl _ _; exact enA; iterate 2 rfl) | (apply ak; iterate 3 rfl) | (apply ah; iterate 3 rfl)
       | (apply aA; iterate 4 rfl) | apply EL.nil | (with_reducible first | apply EK.nc | apply EC.seq | apply EC.r0))
     have hle := JI (iH 200 (l.map sp))
     refine Ad (Qu gb ns1 [] (by omega) (by simp)) [] [_] rfl rfl RL.a (by intro _ _; simp [go_sem]) rfl rfl ?_
     rintro _ _ ⟨rfl, rfl⟩
     simp only [WL, WJ]
     repeat
      (first
       | (apply aT; rfl; rfl; rfl; intro _) | (apply aO; rfl; exact saA; iterate 4 rfl) | apply EL.nil
       | ((with_reducible apply EK.h0); apply EK.code) | (with_reducible apply EC.seq))
     refine EC.le (Le.pick [2, 0, 1] [_, _, _] rfl (by decide) rfl) ?_
     refine EC.uO 8 [0, 1, 2, 3, 4, 6, 7] [5] [_] _ (by kernel_rfl) (by kernel_rfl) rfl ?_
     simp only [aZ, WU, WW, WQ, WR]
     repeat
      (first
       | (apply bV; iterate 3 rfl) | (apply fV; iterate 3 rfl) | (apply dJ; iterate 6 rfl) | (apply dP; rfl; exact I.a; iterate 4 rfl)
       | (apply gQ; iterate 3 rfl))
     refine EM.nil ?_
     repeat (first | rw [WL] | rw [WJ])
     refine CH.mut (os := [_]) (rest := []) rfl rfl (kR (rF rfl rfl rfl rfl rfl)) ?_
     rintro _ _ ⟨rfl, rfl⟩
     try simp only [St.put]
     repeat (first | rw [WL] | rw [WJ])
     refine CH.nil ?_
     try simp only [WG, WM]
     repeat
      (first
       | apply EL.nil | ((with_reducible apply EK.h0); apply EK.code) | (with_reducible apply EC.ret))
     refine EK.Du 0 [] rfl rfl rfl rfl rfl rfl (aj.refl _ _) (aj.refl _ _) (aj.refl _ _) (WI _) ⟨⟨_, fun _ => Fv hne hn2 h0, rfl⟩, rfl⟩
    ·
     rw [hp] at h2
     unfold qG at h2
     dsimp only at h2
     repeat
      (first
       | (apply aC (h2); rfl; exact aj.refl _ _; exact enA; iterate 2 rfl) | (apply ak; iterate 3 rfl) | (apply ah; iterate 3 rfl)
       | (apply aA; iterate 4 rfl) | apply EL.nil | (with_reducible first | apply EK.nc | apply EC.seq | apply EC.r0))
     have hle := JI (iH 200 (l.map sp))
     refine Ad (Qu gb ns1 (pkB (iH 200 (l.map sp))) (by omega) (by exact hle)) [] [_] rfl rfl RL.a (by intro _ _; simp [go_sem]) rfl rfl ?_
     rintro _ _ ⟨rfl, rfl⟩
     simp only [WL, WJ]
     repeat
      (first
       | (apply aT; rfl; rfl; rfl; intro _) | (apply aO; rfl; exact saA; iterate 4 rfl) | apply EL.nil
       | ((with_reducible apply EK.h0); apply EK.code) | (with_reducible apply EC.seq))
     refine EC.le (Le.pick [2, 0, 1] [_, _, _] rfl (by decide) rfl) ?_
     refine EC.uO 8 [0, 1, 2, 3, 4, 6, 7] [5] [_] _ (by kernel_rfl) (by kernel_rfl) rfl ?_
     simp only [aZ, WU, WW, WQ, WR]
     repeat
      (first
       | (apply bV; iterate 3 rfl) | (apply fV; iterate 3 rfl) | (apply dJ; iterate 6 rfl) | (apply dP; rfl; exact I.a; iterate 4 rfl)
       | (apply gQ; iterate 3 rfl))
     refine EM.nil ?_
     repeat (first | rw [WL] | rw [WJ])
     refine CH.mut (os := [_]) (rest := []) rfl rfl (kR (rF rfl rfl rfl rfl rfl)) ?_
     rintro _ _ ⟨rfl, rfl⟩
     try simp only [St.put]
     repeat (first | rw [WL] | rw [WJ])
     refine CH.nil ?_
     try simp only [WG, WM]
     repeat
      (first
       | apply EL.nil | ((with_reducible apply EK.h0); apply EK.code) | (with_reducible apply EC.ret))
     refine EK.Du 0 [] rfl rfl rfl rfl rfl rfl (aj.refl _ _) (aj.refl _ _) (aj.refl _ _) (WI _) ⟨⟨_, fun _ => Fv hne hn2 rfl, rfl⟩, rfl⟩
 ·
  rw [if_pos he]
  have hne : (qO l : Int) ≠ 0 := by omega
  repeat
   (first
    | (apply aC (hM); rfl; exact aj.refl _ _; exact enA; iterate 2 rfl) | (apply ak; iterate 3 rfl) | (apply ah; iterate 3 rfl)
    | (apply aF (b := true); (iterate 2 rfl); exact aQ; iterate 2 rfl) | (apply qY; iterate 5 rfl) | (apply aT; rfl; rfl; rfl; intro _)
    | (apply aO; rfl; exact saA; iterate 4 rfl) | apply EL.nil
    | (apply EC.t0; rfl) | (with_reducible first | apply EK.nc | apply EC.seq | apply EC.r0 | apply EC.ret | apply EK.aB))
  refine EK.Du 0 [] rfl rfl rfl rfl rfl rfl ?_ ?_ ?_ (WI _) ⟨⟨[], fun h => absurd h he, rfl⟩, rfl⟩
  · (exact RL.a)
  · exact RL.cons Rf.sl0 RL.nil
  · (exact RL.a)
end E
end Go.Proofs.YtelbhdobjdnglaaGreat
