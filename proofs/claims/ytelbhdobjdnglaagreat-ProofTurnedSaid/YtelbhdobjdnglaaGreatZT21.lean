/-
 Merged: lemmas of this claim.
 Conditions: none.
-/
import Derived.Test.YtelbhdobjdnglaaGreatZT20
import Derived.Test.YtelbhdobjdnglaaGreatZT18
import Derived.Test.YtelbhdobjdnglaaGreatZT12
import Derived.Test.YtelbhdobjdnglaaGreatZT11
import Derived.Test.YtelbhdobjdnglaaGreatZT17
import Derived.Test.YtelbhdobjdnglaaGreatZT0
namespace Go.Proofs.YtelbhdobjdnglaaGreat
set_option linter.unusedVariables false
set_option maxRecDepth 20000
set_option maxHeartbeats 16000000
open Go.RowKit Mono Rlp
namespace E
def DU : List Pr → List Pr → Nat → Nat
 | _, [], e => e
 | pre, x :: r, e => if lg x = true then 3 else DU (pre ++ [x]) r (if pre.any (fun y => y.1 == x.1) = true then 1 else if x.2.isEmpty = true then 1 else e)
theorem oU : ∀ a b : List UInt8, split a = split b → a = b
 | [], [], _ => rfl
 | [], y :: b, h => by simp [split] at h
 | x :: a, [], h => by simp [split] at h
 | x :: a, y :: b, h => by
  have hs : ∀ (z : UInt8) (l : List UInt8), split (z :: l) = (z >>> 4) :: (z &&& 15) :: split l := fun _ _ => rfl
  rw [hs, hs] at h
  simp only [Zl] at h
  obtain ⟨h1, h2, h3⟩ := h
  have e1 := congrArg UInt8.toNat h1
  have e2 := congrArg UInt8.toNat h2
  rw [Dt, Dt] at e1
  rw [Dq, Dq] at e2
  have : x = y := Yt.1 (by omega)
  rw [this, oU a b h3]
theorem Kq : ∀ (l pre : List Pr) (e : Nat), e ≤ 1 → DU pre l e = if l.any lg = true then 3 else if e = 1 ∨ l.any (·.2.isEmpty) = true ∨ ¬ (l.map (·.1)).Nodup ∨ (∃ x ∈ l, ∃ y ∈ pre, y.1 = x.1) then 1 else 0
 | [], pre, e, he => by
  rw [DU]
  simp
  split <;> omega
 | x :: l, pre, e, he => by
  rw [DU, List.any_cons, List.any_cons]
  cases hg : lg x with
  | true => simp
  | false =>
   rw [if_neg (by decide), Bool.false_or, Kq l (pre ++ [x]) _ (by split <;> (try split) <;> omega)]
   split
   · rfl
   ·
    congr 1
    apply propext
    have hany : (pre.any (fun y => y.1 == x.1) = true) ↔ ∃ y ∈ pre, y.1 = x.1 := by simp
    constructor
    ·
     rintro (h | h | h | ⟨z, hz, y, hy, h⟩)
     ·
      split at h
      ·
       rename_i h2
       exact .inr (.inr (.inr ⟨x, List.mem_cons_self, hany.1 h2⟩))
      ·
       split at h
       ·
        rename_i h3
        exact .inr (.inl (by simp [h3]))
       · exact .inl h
     · exact .inr (.inl (by simp [h]))
     · exact .inr (.inr (.inl fun hn => h (Yy.1 hn).2))
     ·
      rcases XJ.1 hy with hy | hy
      · exact .inr (.inr (.inr ⟨z, Xw _ hz, y, hy, h⟩))
      ·
       obtain rfl := YF.1 hy
       exact .inr (.inr (.inl fun hn => (Yy.1 hn).1 (XA.2 ⟨z, hz, h.symm⟩)))
    ·
     intro h
     by_cases h2 : pre.any (fun y => y.1 == x.1) = true
     · exact .inl (if_pos h2)
     ·
      rw [if_neg h2]
      by_cases h3 : x.2.isEmpty = true
      · exact .inl (if_pos h3)
      ·
       rw [if_neg h3]
       rcases h with h | h | h | ⟨z, hz, y, hy, h⟩
       · exact .inl h
       ·
        rw [Bool.eq_false_iff.2 h3, Bool.false_or] at h
        exact .inr (.inl h)
       ·
        by_cases hm : x.1 ∈ l.map (·.1)
        ·
         obtain ⟨z, hz, hzx⟩ := XA.1 hm
         exact .inr (.inr (.inr ⟨z, hz, x, by simp, hzx.symm⟩))
        · exact .inr (.inr (.inl fun hn => h (Yy.2 ⟨hm, hn⟩)))
       ·
        rcases XB.1 hz with rfl | hz
        · exact absurd (hany.2 ⟨y, hy, h⟩) h2
        · exact .inr (.inr (.inr ⟨z, hz, y, Yf _ hy, h⟩))
theorem NH (l : List Pr) (h : ¬ 100000 < l.length) : DU [] l 0 = ji l := by
 rw [Kq l [] 0 (by decide)]
 unfold ji
 have hnd : ((l.map sp).map (·.1)).Nodup ↔ (l.map (·.1)).Nodup := by
  have : (l.map sp).map (·.1) = (l.map (·.1)).map split := by rw [YJ, YJ]; rfl
  rw [this]
  constructor
  ·
   intro hn
   exact List.Pairwise.imp (fun h e => h (by rw [e])) (Zg.1 hn)
  ·
   intro hn
   exact Zg.2 (hn.imp fun h e => h (oU _ _ e))
 by_cases h1 : l.any lg = true
 · rw [if_pos h1, if_pos (.inr h1)]
 ·
  rw [if_neg h1, if_neg (show ¬ (100000 < l.length ∨ l.any lg = true) from fun hh => hh.elim h h1)]
  by_cases h2 : l.any (·.2.isEmpty) = true
  · rw [if_pos (show (0 = 1 ∨ l.any (·.2.isEmpty) = true ∨ ¬ (l.map (·.1)).Nodup ∨ (∃ x ∈ l, ∃ y ∈ ([] : List Pr), y.1 = x.1)) from .inr (.inl h2)), if_pos h2]
  ·
   rw [if_neg (show ¬ (l.any (·.2.isEmpty) = true) from h2)]
   by_cases h3 : (l.map (·.1)).Nodup
   ·
    rw [if_neg (show ¬ (0 = 1 ∨ l.any (·.2.isEmpty) = true ∨ ¬ (l.map (·.1)).Nodup ∨ (∃ x ∈ l, ∃ y ∈ ([] : List Pr), y.1 = x.1)) from fun hh => by
     rcases hh with hh | hh | hh | ⟨x, _, y, hy, _⟩
     · cases hh
     · exact h2 hh
     · exact hh h3
     · cases hy), if_pos (hnd.2 h3)]
   · rw [if_pos (show (0 = 1 ∨ l.any (·.2.isEmpty) = true ∨ ¬ (l.map (·.1)).Nodup ∨ (∃ x ∈ l, ∃ y ∈ ([] : List Pr), y.1 = x.1)) from .inr (.inr (.inl h3))), if_neg (fun hh => h3 (hnd.1 hh))]
theorem zK (l : List Pr) : Fn 14 [.sl 2 (l.map dPr)] (· = .val (.v (.int .i64 (ji l : Int)))) := by
 have hml : (l.map dPr).length = l.length := List.length_map _
 refine Fn.walk 57 Tryz.func14 rfl Tryz.ntmps14 (by simp) fun X => ?_
 by_cases hbig : 100000 < l.length
 ·
  have he : ji l = 3 := by unfold ji; rw [if_pos (.inl hbig)]
  rw [he]
  repeat
   (first
    | (apply ak; iterate 3 rfl) | (apply ah; iterate 3 rfl) | (apply aC (b := true); (iterate 2 rfl); exact aK; iterate 2 rfl)
    | (apply aJ; iterate 4 rfl) | apply EL.nil | (apply EC.t0; rfl)
    | (with_reducible first | apply EK.nc | apply EC.seq | apply EC.r0 | apply EC.ret | apply EK.aG))
  exact EK.lZ rfl rfl rfl
 rw [← NH l hbig]
 generalize hres : DU [] l 0 = res
 repeat
  (first
   | (apply ak; iterate 3 rfl) | (apply ah; iterate 3 rfl) | (apply aC (b := false); (iterate 2 rfl); exact aK; iterate 2 rfl)
   | (apply aJ; iterate 4 rfl) | apply EL.nil | (apply EC.f0; rfl)
   | (with_reducible first | apply EK.nc | apply EC.seq | apply EC.r0 | apply EC.k0 | apply EC.b0))
 refine EC.loop (ι := {p : Nat × Nat // p.1 ≤ l.length ∧ res = DU (l.take p.1) (l.drop p.1) p.2})
  (fun p => ⟨[(4, .val (.v (.int .i64 (p.1.1 : Int)))), (3, .val (.v (.int .i64 (p.1.2 : Int)))), (0, .val (.sl 2 (l.map dPr)))], [], []⟩)
  (fun p => l.length - p.1.1) ⟨(0, 0), XQ _, hres.symm⟩ ?_ ?_
 · exact Le.kp
 rintro ⟨⟨i, e⟩, hi, hI⟩
 dsimp only at hi hI ⊢
 by_cases hlt : i < l.length
 ·
  have hd : (l.map dPr)[i]? = some (.tup [.bs l[i].1, .bs l[i].2]) := by rw [XK, List.getElem?_eq_getElem hlt]; rfl
  have htk : l.take (i + 1) = l.take i ++ [l[i]] := XE hlt
  rw [XI hlt, DU, ← htk] at hI
  unfold lg at hI
  by_cases hg1 : 64 < l[i].1.length
  ·
   rw [decide_eq_true hg1, Bool.true_or, if_pos rfl] at hI
   subst hI
   repeat
    (first
     | (apply eX; iterate 2 rfl) | (apply ak; iterate 3 rfl) | (apply ah; iterate 3 rfl) | (apply bC; iterate 7 rfl)
     | (apply aH; iterate 5 rfl) | (apply aS; iterate 4 rfl) | (apply aC (b := true); (iterate 2 rfl); exact aK; iterate 2 rfl)
     | (apply aP; iterate 4 rfl) | (apply aJ; iterate 4 rfl)
     | (apply bT; (iterate 4 rfl); exact ixA; iterate 2 rfl) | apply EL.nil
     | (apply EC.t0; rfl)
     | (with_reducible first | apply EK.nc | apply EC.seq | apply EC.r0 | apply EC.k0 | apply EC.b0 | apply EC.ret | apply EK.dK | apply EK.aG))
   exact EK.lZ rfl rfl rfl
  ·
   by_cases hg2 : 1048576 < l[i].2.length
   ·
    rw [decide_eq_true hg2, Bool.or_true, if_pos rfl] at hI
    subst hI
    repeat
     (first
      | (apply ak; iterate 3 rfl) | (apply ah; iterate 3 rfl) | (apply bC; iterate 7 rfl) | (apply aH; iterate 5 rfl)
      | (apply aS; iterate 4 rfl) | (apply aC (b := true); (iterate 2 rfl); exact aK; iterate 2 rfl)
      | (apply aC (b := false); (iterate 2 rfl); exact aK; iterate 2 rfl) | (apply aP; iterate 4 rfl) | (apply aJ; iterate 4 rfl)
      | (apply bT; (iterate 4 rfl); exact ixA; iterate 2 rfl) | apply EL.nil
      | (apply EC.t0; rfl)
      | (with_reducible first | apply EK.nc | apply EC.seq | apply EC.r0 | apply EC.k0 | apply EC.b0 | apply EC.ret | apply EK.dK | apply EK.aG))
    exact EK.lZ rfl rfl rfl
   ·
    rw [decide_eq_false hg1, decide_eq_false hg2, if_neg (by decide)] at hI
    cases hv : l[i].2 with
    | nil =>
     rw [hv] at hd
     rw [hv, if_pos (show ([] : List UInt8).isEmpty = true from rfl)] at hI
     repeat
      (first
       | (apply ak; iterate 3 rfl) | (apply ah; iterate 3 rfl) | (apply bC; iterate 7 rfl) | (apply aH; iterate 5 rfl)
       | (apply aS; iterate 4 rfl) | (apply aC (b := true); (iterate 2 rfl); exact aK; iterate 2 rfl)
       | (apply aC (b := false); (iterate 2 rfl); exact aK; iterate 2 rfl) | (apply aP; iterate 4 rfl) | (apply aJ; iterate 4 rfl)
       | (apply bT; (iterate 4 rfl); exact ixA; iterate 2 rfl) | apply EL.nil
       | (apply EC.t0; rfl) | (apply EC.f0; rfl)
       | (with_reducible first | apply EK.nc | apply EC.seq | apply EC.r0 | apply EC.k0 | apply EC.b0))
     refine EC.loop (ι := {k : Nat // k ≤ i})
      (fun k => ⟨[(5, .val (.v (.int .i64 (k.1 : Int)))), (4, .val (.v (.int .i64 (i : Int)))), (3, .val (.v (.int .i64 ((if (l.take k.1).any (fun y => y.1 == l[i].1) = true then 1 else 1 : Nat) : Int)))), (0, .val (.sl 2 (l.map dPr)))], [], []⟩)
      (fun k => i - k.1) ⟨0, XQ _⟩ ?_ ?_
     · exact Le.kp
     rintro ⟨k, hk⟩
     dsimp only at hk ⊢
     by_cases hki : k < i
     ·
      have hkl : k < l.length := by omega
      have hdk : (l.map dPr)[k]? = some (.tup [.bs l[k].1, .bs l[k].2]) := by rw [XK, List.getElem?_eq_getElem hkl]; rfl
      have hbs := (jT l[k].1 l[i].1).1
      have hany : (l.take (k + 1)).any (fun y => y.1 == l[i].1) = ((l.take k).any (fun y => y.1 == l[i].1) || (l[k].1 == l[i].1)) := by
       rw [XE hkl, List.any_append]
       simp
      cases hq : (l[k].1 == l[i].1) with
      | true =>
       rw [hq] at hbs
       rw [hq, Bool.or_true] at hany
       repeat
        (first
         | (apply ak; iterate 3 rfl) | (apply aC (b := true); (iterate 2 rfl); exact aK; iterate 2 rfl) | apply EL.nil
         | (apply EC.t0; rfl) | (with_reducible first | apply EK.nc | apply EC.seq | apply EC.r0 | apply EC.k0 | apply EC.b0))
       refine EC.draw 13 (by kernel_rfl) ?_
       simp only [Xp, Xu, mP, Xq]
       repeat
        (first
         | (apply lH; (iterate 2 rfl); exact hbs; iterate 2 rfl) | (apply aX; iterate 3 rfl) | (apply dA; iterate 7 rfl) | (apply bD; iterate 5 rfl)
         | (apply dJ; (iterate 4 rfl); exact ixA; iterate 2 rfl)
         | (apply Ak; iterate 3 rfl) | ((with_reducible apply EH.nil); rfl))
       repeat
        (first
         | (apply ak; iterate 3 rfl) | (apply ah; iterate 3 rfl) | (apply jh; (iterate 3 rfl); (focus omega); (focus omega); iterate 2 rfl) | apply EL.nil
         | (apply EC.t0; rfl) | (with_reducible first | apply EK.nc | apply EC.r0 | apply EK.n0))
       refine EK.again ⟨k + 1, hki⟩ (by dsimp only; omega) ?_
       dsimp only
       rw [hany, if_pos rfl]
       simp only [XV]
       exact Le.kp
      | false =>
       rw [hq] at hbs
       rw [hq, Bool.or_false] at hany
       repeat
        (first
         | (apply ak; iterate 3 rfl) | (apply aC (b := true); (iterate 2 rfl); exact aK; iterate 2 rfl) | apply EL.nil
         | (apply EC.t0; rfl) | (with_reducible first | apply EK.nc | apply EC.seq | apply EC.r0 | apply EC.k0 | apply EC.b0))
       refine EC.draw 13 (by kernel_rfl) ?_
       simp only [Xp, Xu, mP, Xq]
       repeat
        (first
         | (apply lH; (iterate 2 rfl); exact hbs; iterate 2 rfl) | (apply aX; iterate 3 rfl) | (apply dA; iterate 7 rfl) | (apply bD; iterate 5 rfl)
         | (apply dJ; (iterate 4 rfl); exact ixA; iterate 2 rfl)
         | (apply Ak; iterate 3 rfl) | ((with_reducible apply EH.nil); rfl))
       repeat
        (first
         | (apply ak; iterate 3 rfl) | (apply ah; iterate 3 rfl) | (apply jh; (iterate 3 rfl); (focus omega); (focus omega); iterate 2 rfl) | apply EL.nil
         | (apply EC.f0; rfl) | (with_reducible first | apply EK.nc | apply EC.r0 | apply EC.k0 | apply EK.n0))
       refine EK.again ⟨k + 1, hki⟩ (by dsimp only; omega) ?_
       dsimp only
       rw [hany]
       simp only [XV]
       exact Le.kp
     ·
      obtain rfl : k = i := by omega
      repeat
       (first
        | (apply ak; iterate 3 rfl) | (apply ah; iterate 3 rfl) | (apply aC (b := false); (iterate 2 rfl); exact aK; iterate 2 rfl)
        | (apply jh; (iterate 3 rfl); (focus omega); (focus omega); iterate 2 rfl) | apply EL.nil | (apply EC.f0; rfl)
        | (with_reducible first | apply EK.nc | apply EC.seq | apply EC.r0 | apply EC.x0 | apply EK.n0 | apply EK.s0 | apply EK.aY))
      refine EK.again ⟨(k + 1, _), hlt, hI⟩ (by dsimp only; omega) ?_
      dsimp only
      simp only [XV]
      exact Le.kp
    | cons c v =>
     rw [hv] at hd hg2
     have hg3 : ¬ 1048576 < v.length + 1 := hg2
     rw [hv, if_neg (show ¬ ((c :: v).isEmpty = true) from Xv)] at hI
     repeat
      (first
       | (apply ak; iterate 3 rfl) | (apply ah; iterate 3 rfl) | (apply bC; iterate 7 rfl) | (apply aH; iterate 5 rfl)
       | (apply aS; iterate 4 rfl) | (apply aC (b := true); (iterate 2 rfl); exact aK; iterate 2 rfl)
       | (apply aC (b := false); (iterate 2 rfl); exact aK; iterate 2 rfl) | (apply aP; iterate 4 rfl) | (apply aJ; iterate 4 rfl)
       | (apply bT; (iterate 4 rfl); exact ixA; iterate 2 rfl) | apply EL.nil
       | (apply EC.t0; rfl) | (apply EC.f0; rfl)
       | (with_reducible first | apply EK.nc | apply EC.seq | apply EC.r0 | apply EC.k0 | apply EC.b0))
     refine EC.loop (ι := {k : Nat // k ≤ i})
      (fun k => ⟨[(5, .val (.v (.int .i64 (k.1 : Int)))), (4, .val (.v (.int .i64 (i : Int)))), (3, .val (.v (.int .i64 ((if (l.take k.1).any (fun y => y.1 == l[i].1) = true then 1 else e : Nat) : Int)))), (0, .val (.sl 2 (l.map dPr)))], [], []⟩)
      (fun k => i - k.1) ⟨0, XQ _⟩ ?_ ?_
     · exact Le.kp
     rintro ⟨k, hk⟩
     dsimp only at hk ⊢
     by_cases hki : k < i
     ·
      have hkl : k < l.length := by omega
      have hdk : (l.map dPr)[k]? = some (.tup [.bs l[k].1, .bs l[k].2]) := by rw [XK, List.getElem?_eq_getElem hkl]; rfl
      have hbs := (jT l[k].1 l[i].1).1
      have hany : (l.take (k + 1)).any (fun y => y.1 == l[i].1) = ((l.take k).any (fun y => y.1 == l[i].1) || (l[k].1 == l[i].1)) := by
       rw [XE hkl, List.any_append]
       simp
      cases hq : (l[k].1 == l[i].1) with
      | true =>
       rw [hq] at hbs
       rw [hq, Bool.or_true] at hany
       repeat
        (first
         | (apply ak; iterate 3 rfl) | (apply aC (b := true); (iterate 2 rfl); exact aK; iterate 2 rfl) | apply EL.nil
         | (apply EC.t0; rfl) | (with_reducible first | apply EK.nc | apply EC.seq | apply EC.r0 | apply EC.k0 | apply EC.b0))
       refine EC.draw 13 (by kernel_rfl) ?_
       simp only [Xp, Xu, mP, Xq]
       repeat
        (first
         | (apply lH; (iterate 2 rfl); exact hbs; iterate 2 rfl) | (apply aX; iterate 3 rfl) | (apply dA; iterate 7 rfl) | (apply bD; iterate 5 rfl)
         | (apply dJ; (iterate 4 rfl); exact ixA; iterate 2 rfl)
         | (apply Ak; iterate 3 rfl) | ((with_reducible apply EH.nil); rfl))
       repeat
        (first
         | (apply ak; iterate 3 rfl) | (apply ah; iterate 3 rfl) | (apply jh; (iterate 3 rfl); (focus omega); (focus omega); iterate 2 rfl) | apply EL.nil
         | (apply EC.t0; rfl) | (with_reducible first | apply EK.nc | apply EC.r0 | apply EK.n0))
       refine EK.again ⟨k + 1, hki⟩ (by dsimp only; omega) ?_
       dsimp only
       rw [hany, if_pos rfl]
       simp only [XV]
       exact Le.kp
      | false =>
       rw [hq] at hbs
       rw [hq, Bool.or_false] at hany
       repeat
        (first
         | (apply ak; iterate 3 rfl) | (apply aC (b := true); (iterate 2 rfl); exact aK; iterate 2 rfl) | apply EL.nil
         | (apply EC.t0; rfl) | (with_reducible first | apply EK.nc | apply EC.seq | apply EC.r0 | apply EC.k0 | apply EC.b0))
       refine EC.draw 13 (by kernel_rfl) ?_
       simp only [Xp, Xu, mP, Xq]
       repeat
        (first
         | (apply lH; (iterate 2 rfl); exact hbs; iterate 2 rfl) | (apply aX; iterate 3 rfl) | (apply dA; iterate 7 rfl) | (apply bD; iterate 5 rfl)
         | (apply dJ; (iterate 4 rfl); exact ixA; iterate 2 rfl)
         | (apply Ak; iterate 3 rfl) | ((with_reducible apply EH.nil); rfl))
       repeat
        (first
         | (apply ak; iterate 3 rfl) | (apply ah; iterate 3 rfl) | (apply jh; (iterate 3 rfl); (focus omega); (focus omega); iterate 2 rfl) | apply EL.nil
         | (apply EC.f0; rfl) | (with_reducible first | apply EK.nc | apply EC.r0 | apply EC.k0 | apply EK.n0))
       refine EK.again ⟨k + 1, hki⟩ (by dsimp only; omega) ?_
       dsimp only
       rw [hany]
       simp only [XV]
       exact Le.kp
     ·
      obtain rfl : k = i := by omega
      repeat
       (first
        | (apply ak; iterate 3 rfl) | (apply ah; iterate 3 rfl) | (apply aC (b := false); (iterate 2 rfl); exact aK; iterate 2 rfl)
        | (apply jh; (iterate 3 rfl); (focus omega); (focus omega); iterate 2 rfl) | apply EL.nil | (apply EC.f0; rfl)
        | (with_reducible first | apply EK.nc | apply EC.seq | apply EC.r0 | apply EC.x0 | apply EK.n0 | apply EK.s0 | apply EK.aY))
      refine EK.again ⟨(k + 1, _), hlt, hI⟩ (by dsimp only; omega) ?_
      dsimp only
      simp only [XV]
      exact Le.kp
 ·
  have hie : i = l.length := by omega
  rw [XP (by omega), DU] at hI
  subst hI
  repeat
   (first
    | (apply ak; iterate 3 rfl) | (apply ah; iterate 3 rfl) | (apply aC (b := false); (iterate 2 rfl); exact aK; iterate 2 rfl)
    | (apply aJ; iterate 4 rfl) | apply EL.nil | (apply EC.f0; rfl)
    | (with_reducible first | apply EK.nc | apply EC.seq | apply EC.r0 | apply EC.x0 | apply EC.ret | apply EK.s0 | apply EK.aY))
  exact EK.lZ rfl rfl rfl
def iH (l : List Pr) : List UInt8 := if ji l ≠ 0 then zero32 else if l.isEmpty then lY else hash (pkB (aB 200 (l.map sp)))
theorem OA (g : Nat) (v : Value) (S : List Pr) (b : List UInt8) (hs : Srt S) (hl : S.length ≤ 1000000000) (hb : b.length ≤ 1099511627776) : FnM 49 [.v (ptr g), .bs b] [sdO g v, sdR v S] (fun r os' => ∃ v', r = .val (.v (.bool (okN (hash b, b) S))) ∧ os' = [sdO g v', sdR v' (gG (hash b, b) S)]) := by
 have hK := vg b hb
 have hA := Oz g v S (hash b) b hs hl (by omega)
 refine FnM.walk 10 Tryz.func49 rfl Tryz.ntmps49 (by simp) fun X => ?_
 repeat
  (first
   | (apply aA (hK); rfl; exact aj.refl _ _; exact enA; iterate 2 rfl) | (apply ak; iterate 3 rfl) | (apply ah; iterate 3 rfl) | apply EL.nil
   | (with_reducible first | apply EK.nc | apply EC.seq | apply EC.r0))
 refine jr hA [] [] rfl rfl (aj.refl _ _) (by intro _ _; simp [go_sem]) rfl rfl ?_
 rintro _ _ ⟨v', rfl, rfl⟩
 simp only [Xr, List.nil_append]
 repeat
  (first
   | (apply ah; iterate 3 rfl) | apply EL.nil | ((with_reducible apply EK.h0); apply EK.code) | (with_reducible apply EC.ret))
 exact EK.iP [sdO g v', sdR v' (gG (hash b, b) S)] rfl rfl (by (repeat first | exact Xt _ | apply List.Sublist.cons_cons | apply List.Sublist.cons)) ⟨v', rfl, rfl⟩
def wO (l : List Pr) : List (List UInt8) := [128] :: (if l.isEmpty then [] else bZ 200 (l.map sp) ++ [pkB (aB 200 (l.map sp))])
def QJ (U : List (List UInt8)) (C : Nat) (S S' : List Pr) (b : Bool) : Prop := Srt S' ∧ S'.length ≤ S.length + C ∧ (∀ y ∈ S, y ∈ S') ∧ (b = true → ∀ x ∈ U, (hash x, x) ∈ S')
theorem Ro (gs : Nat) (v : Value) (S : List Pr) (l : List Pr) (hs : Srt S) (hS : S.length ≤ 900000000) (he : ji l = 0) : FnM 48 [.v (ptr gs), .sl 2 (l.map dPr)] [sdO gs v, sdR v S] (fun r os' => ∃ b v' S', QJ (wO l) (2 + 200 * l.length) S S' b ∧ r = .val (.v (.bool b)) ∧ os' = [sdO gs v', sdR v' S']) := by
 have hml : (l.map dPr).length = l.length := List.length_map _
 have hA := OA gs v S [128] hs (by omega) (by decide)
 have hs1 := uD (hash [128], [128]) S hs
 have hl1 := nV (hash [128], [128]) S
 have hi1 := nU (hash [128], [128]) S
 have hm1 := Dn (hash [128], [128]) S
 generalize gG (hash [128], [128]) S = S1 at hA hs1 hl1 hi1 hm1
 have hlen := (show l.length ≤ 100000 from by
  unfold ji at he
  split at he
  · cases he
  ·
   rename_i h1
   have : ¬ 100000 < l.length := fun e => h1 (.inl e)
   omega)
 have hlg : l.any lg = false := (lQ he).2.1
 refine FnM.walk 56 Tryz.func48 rfl Tryz.ntmps48 (by simp) fun X => ?_
 repeat
  (first
   | (apply jF; (iterate 9 rfl); refine EL.le (Le.slB (t := 11) (l := [128]) rfl) ?_) | (apply ak; iterate 3 rfl) | (apply ah; iterate 3 rfl) | apply EL.nil
   | (with_reducible first | apply EK.nc | apply EC.seq | apply EC.r0))
 refine jr hA [] [] rfl rfl (aj.refl _ _) (by intro _ _; simp [go_sem]) rfl rfl ?_
 rintro _ _ ⟨v1, rfl, rfl⟩
 simp only [Xr, List.nil_append]
 cases hok : okN (hash [128], [128]) S with
 | false =>
  repeat
   (first
    | (apply ah; iterate 3 rfl) | (apply dI; iterate 3 rfl) | apply EL.nil | (apply EC.t0; rfl)
    | (with_reducible first | apply EK.nc | apply EC.seq | apply EC.r0 | apply EC.ret | apply EK.aG))
  exact EK.iP [sdO gs v1, sdR v1 S1] rfl rfl (by (repeat first | exact Xt _ | apply List.Sublist.cons_cons | apply List.Sublist.cons)) ⟨false, v1, S1, ⟨hs1, by omega, hi1, fun h => by cases h⟩, rfl, rfl⟩
 | true =>
  have hm1 := hm1 hok
  by_cases hnil : l = []
  ·
   subst hnil
   repeat
    (first
     | (apply ak; iterate 3 rfl) | (apply ah; iterate 3 rfl) | (apply dI; iterate 3 rfl)
     | (apply aC (b := true); (iterate 2 rfl); exact aK; iterate 2 rfl) | (apply aJ; iterate 4 rfl) | apply EL.nil
     | (apply EC.t0; rfl) | (apply EC.f0; rfl) | (with_reducible first | apply EK.nc | apply EC.seq | apply EC.r0 | apply EC.k0 | apply EC.ret | apply EK.aG))
   exact EK.iP [sdO gs v1, sdR v1 S1] rfl rfl (by (repeat first | exact Xt _ | apply List.Sublist.cons_cons | apply List.Sublist.cons)) ⟨true, v1, S1, ⟨hs1, by omega, hi1, fun _ x hx => by
    obtain rfl : x = [128] := by simpa [wO] using hx
    exact hm1⟩, rfl, rfl⟩
  ·
   obtain ⟨y, l', rfl⟩ : ∃ y l', l = y :: l' := by
    cases l with
    | nil => exact absurd rfl hnil
    | cons y l' => exact ⟨y, l', rfl⟩
   have hne : ((y :: l').map sp).isEmpty = false := rfl
   have htU : wO (y :: l') = [128] :: (bZ 200 ((y :: l').map sp) ++ [pkB (aB 200 ((y :: l').map sp))]) := rfl
   have hlen2 : ((y :: l').map dPr).length = l'.length + 1 := by simp
   have hL2 : (y :: l').length = l'.length + 1 := rfl
   repeat
    (first
     | (apply ak; iterate 3 rfl) | (apply ah; iterate 3 rfl) | (apply dI; iterate 3 rfl)
     | (apply aC (b := false); (iterate 2 rfl); exact aK; iterate 2 rfl) | (apply aJ; iterate 4 rfl) | apply EL.nil
     | (apply EC.f0; rfl) | (with_reducible first | apply EK.nc | apply EC.seq | apply EC.r0 | apply EC.k0 | apply EC.b0))
   generalize hL : y :: l' = l at *
   clear hnil
   refine EC.le (Le.row 146 2) ?_
   refine EC.loop (ι := {x : Nat × Value // x.1 ≤ l.length})
    (fun x => ⟨[(6, .val (.v (.int .i64 (x.1.1 : Int)))), (5, .val (.v x.1.2)), (0, .val (.v (ptr gs))), (1, .val (.sl 2 (l.map dPr)))], [.row x.1.2 146 2 (((l.take x.1.1).map sp).map dPr), sdO gs v1, sdR v1 S1], []⟩)
    (fun x => l.length - x.1.1) ⟨(0, .slice none 0 0), XQ _⟩ ?_ ?_
   · exact Le.kp
   rintro ⟨⟨i, u⟩, hi⟩
   dsimp only at hi ⊢
   by_cases hlt : i < l.length
   ·
    have hd : (l.map dPr)[i]? = some (.tup [.bs l[i].1, .bs l[i].2]) := by rw [XK, List.getElem?_eq_getElem hlt]; rfl
    have hsz := jf hlg (XW hlt)
    have hSp := uV l[i].1 (by omega)
    have hl3 : (((l.take i).map sp).map dPr).length = i := by rw [List.length_map, List.length_map, List.length_take]; omega
    have htk : ((l.take (i + 1)).map sp).map dPr = ((l.take i).map sp).map dPr ++ [.tup [.bs (split l[i].1), .bs l[i].2]] := by
     rw [XE hlt, Yd, Yd]
     rfl
    repeat
     (first
      | (apply ak; iterate 3 rfl) | (apply aC (b := true); (iterate 2 rfl); exact aK; iterate 2 rfl) | (apply aJ; iterate 4 rfl) | apply EL.nil
      | (apply EC.t0; rfl) | (with_reducible first | apply EK.nc | apply EC.seq | apply EC.r0 | apply EC.k0 | apply EC.b0))
    refine EC.iU 15 [0, 1, 2, 3, 4, 5, 6, 7, 8, 9, 10, 11, 12, 13] [14] [_] _ (by kernel_rfl) (by kernel_rfl) rfl ?_
    simp only [bJ, XD, XG, Xz, Xy]
    repeat
     (first
      | (apply fD (hSp); rfl; exact aj.refl _ _; exact enA; iterate 2 rfl) | (apply aX; iterate 3 rfl) | (apply dA; iterate 7 rfl)
      | (apply bD; iterate 5 rfl)
      | (apply dJ; (iterate 4 rfl); exact ixA; iterate 2 rfl)
      | (apply iM; iterate 7 rfl) | (apply kK; iterate 9 rfl))
    refine EM.nil ?_
    repeat (first | rw [Xr] | rw [List.nil_append])
    refine CH.mut (os := [_]) (rest := []) rfl rfl (gq rfl rfl rfl rfl rfl ?_) ?_
    ·
     rw [hl3]
     constructor <;> (simp; omega)
    rintro _ _ ⟨u', rfl, rfl⟩
    try simp only [St.put]
    repeat (first | rw [Xr] | rw [List.nil_append])
    refine CH.nil ?_
    try simp only [mP, Xq]
    repeat
     (first
      | (apply ak; iterate 3 rfl) | (apply ah; iterate 3 rfl) | (apply jh; (iterate 3 rfl); (focus omega); (focus omega); iterate 2 rfl) | apply EL.nil
      | (with_reducible first | apply EK.nc | apply EC.r0 | apply EK.n0))
    refine EK.again ⟨(i + 1, u'), hlt⟩ (by dsimp only; omega) ?_
    dsimp only
    rw [htk]
    simp only [XV]
    exact Le.kp
   ·
    have hie : i = l.length := by omega
    rw [show l.take i = l by rw [hie, Yl]]
    refine EC.le (Le.freeze (pre := []) rfl) ?_
    refine EC.le (Le.refine (t := 5) (d' := .sl 2 ((l.map sp).map dPr)) rfl (Rf.fact List.mem_cons_self rfl)) ?_
    simp only [List.nil_append]
    have hNd : ∀ gb, FnM 71 [.v (ptr gb), .sl 2 ((l.map sp).map dPr)] [oB gb gs [] false, sdO gs v1, sdR v1 S1] (fun r os' => ∃ t : SS, SSR (bZ 200 (l.map sp)) (200 * (l.map sp).length) ⟨[], false, v1, S1, hs1⟩ t ∧ r = .val (aO (aB 200 (l.map sp))) ∧ os' = [oB gb gs t.ns t.c, sdO gs t.v, sdR t.v t.S]) := fun gb => Jh (WS gb gs) 200 (l.map sp) (⟨[], false, v1, S1, hs1⟩ : SS) hne (fun z hz => by
     obtain ⟨w, hw, rfl⟩ := XA.1 hz
     have := jf hlg hw
     show (split w.1).length < 200
     rw [dB]
     omega) (fun z hz => by
     obtain ⟨w, hw, rfl⟩ := XA.1 hz
     have := jf hlg hw
     show (split w.1).length ≤ _
     rw [dB]
     omega) (by rw [List.length_map]; omega) (by rw [List.length_map]; show max 0 S1.length + _ ≤ _; omega)
    have h2 := DN (aB 200 (l.map sp))
    repeat
     (first
      | (apply fU; rfl; rfl; rfl; intro gb; refine EL.le (Le.VN (d' := .tup [.sl 33 (([] : List Pr).map dNd), .v (ptr gs), .v (.bool false)]) (by apply Rf.tup; exact RL.cons Rf.sl0 RL.a)) ?_)
      | (apply ak; iterate 3 rfl) | (apply ah; iterate 3 rfl) | (apply aC (b := false); (iterate 2 rfl); exact aK; iterate 2 rfl)
      | (apply aJ; iterate 4 rfl) | (apply eH; iterate 7 rfl) | apply EL.nil | (apply EC.f0; rfl)
      | (with_reducible first | apply EK.nc | apply EC.seq | apply EC.r0 | apply EC.x0 | apply EK.s0 | apply EK.aY))
    refine jr (hNd gb) [] [] rfl rfl (aj.refl _ _) (by intro _ _; simp [go_sem]) rfl rfl ?_
    rintro _ _ ⟨t, hn1, rfl, rfl⟩
    simp only [Xr, List.nil_append]
    rw [List.length_map] at hn1
    have hle := xY (aB 200 (l.map sp))
    have hpt : FnM 72 [.v (ptr gb), .bs (pkB (aB 200 (l.map sp)))] [oB gb gs t.ns t.c, sdO gs t.v, sdR t.v t.S] (fun r os' => ∃ t' : SS, SSR [pkB (aB 200 (l.map sp))] 1 t t' ∧ r = .val (.arr 32 (hash (pkB (aB 200 (l.map sp))))) ∧ os' = [oB gb gs t'.ns t'.c, sdO gs t'.v, sdR t'.v t'.S]) := (WS gb gs).put t _ (by
     have h1 := hn1.1
     have h2 := hn1.2.1
     dsimp only [List.length_nil] at h1 h2
     show max t.ns.length t.S.length ≤ _
     omega) hle
    have hfin : ∀ t' : SS, SSR [pkB (aB 200 (l.map sp))] 1 t t' → QJ (wO l) (2 + 200 * l.length) S t'.S (!t'.c) := fun t' ht => by
     refine ⟨t'.srt, ?_, fun z hz => ht.2.2.1 _ (hn1.2.2.1 _ (hi1 z hz)), fun hc => ?_⟩
     ·
      have h1 := ht.2.1
      have h2 := hn1.2.1
      dsimp only at h2
      omega
     ·
      obtain ⟨a1, a2⟩ := ht.2.2.2 (by simpa using hc)
      obtain ⟨b1, b2⟩ := hn1.2.2.2 a1
      intro z hz
      rw [htU] at hz
      rcases XB.1 hz with rfl | hz
      · exact ht.2.2.1 _ (hn1.2.2.1 _ hm1)
      ·
       rcases XJ.1 hz with hz | hz
       · exact ht.2.2.1 _ (b2 z hz)
       · exact a2 z hz
    have hpb : packed (aB 200 (l.map sp)) = none ∨ packed (aB 200 (l.map sp)) = some (pkB (aB 200 (l.map sp))) := by
     unfold pkB
     cases h : packed (aB 200 (l.map sp)) with
     | none => exact .inl rfl
     | some b => exact .inr rfl
    clear hn1 hNd
    rcases hpb with hp | hp
    ·
     have h0 : pkB (aB 200 (l.map sp)) = [] := by unfold pkB; rw [hp]; rfl
     rw [hp] at h2
     rw [h0] at hpt hfin
     unfold og at h2
     dsimp only at h2
     repeat
      (first
       | (apply aA (h2); rfl; exact aj.refl _ _; exact enA; iterate 2 rfl) | (apply ak; iterate 3 rfl) | (apply ah; iterate 3 rfl)
       | (apply aF; iterate 4 rfl) | apply EL.nil | (with_reducible first | apply EK.nc | apply EC.seq | apply EC.r0))
     refine jr hpt [] [] rfl rfl RL.a (by intro _ _; simp [go_sem]) rfl rfl ?_
     rintro _ _ ⟨t', ht, rfl, rfl⟩
     simp only [Xr, List.nil_append]
     repeat
      (first
       | (apply ak; iterate 3 rfl) | (apply ah; iterate 3 rfl) | (apply bn; iterate 6 rfl) | (apply dI; iterate 3 rfl)
       | (apply bH; rfl; exact I.a; iterate 4 rfl) | (apply jl; iterate 3 rfl) | apply EL.nil
       | (with_reducible first | apply EK.nc | apply EC.seq | apply EC.r0 | apply EC.ret))
     exact EK.iP [sdO gs t'.v, sdR t'.v t'.S] rfl rfl (by (repeat first | exact Xt _ | apply List.Sublist.cons_cons | apply List.Sublist.cons)) ⟨_, _, _, hfin t' ht, rfl, rfl⟩
    ·
     rw [hp] at h2
     unfold og at h2
     dsimp only at h2
     repeat
      (first
       | (apply aA (h2); rfl; exact aj.refl _ _; exact enA; iterate 2 rfl) | (apply ak; iterate 3 rfl) | (apply ah; iterate 3 rfl)
       | (apply aF; iterate 4 rfl) | apply EL.nil | (with_reducible first | apply EK.nc | apply EC.seq | apply EC.r0))
     refine jr hpt [] [] rfl rfl RL.a (by intro _ _; simp [go_sem]) rfl rfl ?_
     rintro _ _ ⟨t', ht, rfl, rfl⟩
     simp only [Xr, List.nil_append]
     repeat
      (first
       | (apply ak; iterate 3 rfl) | (apply ah; iterate 3 rfl) | (apply bn; iterate 6 rfl) | (apply dI; iterate 3 rfl)
       | (apply bH; rfl; exact I.a; iterate 4 rfl) | (apply jl; iterate 3 rfl) | apply EL.nil
       | (with_reducible first | apply EK.nc | apply EC.seq | apply EC.r0 | apply EC.ret))
     exact EK.iP [sdO gs t'.v, sdR t'.v t'.S] rfl rfl (by (repeat first | exact Xt _ | apply List.Sublist.cons_cons | apply List.Sublist.cons)) ⟨_, _, _, hfin t' ht, rfl, rfl⟩
theorem EK.C9 {N : Nat} {X : Cx N} {S : St} {fn : Func} {Φ : R → List Obj → Prop} {p u q : Tmp} {g ty : Nat} {t : TypeId} {d d' e e' k k' : D} (i : Nat) (os' : List Obj) (hres : fn.results = #[.cell p ty, .tmp u, .tmp q]) (hl : look S.regs p = some (.val (.v (.pointer (some ⟨g, 0, none⟩))))) (hi : S.objs[i]? = some (.var g t d)) (hT : assoc tyL ty = some (d.size, d.agg)) (hu : look S.regs u = some (.val e)) (hq : look S.regs q = some (.val k)) (hR : aj S.facts [d] [d']) (hR2 : aj S.facts [e] [e']) (hR3 : aj S.facts [k] [k']) (ho : os'.Sublist S.objs) (hΦ : Φ (.tpl [d', e', k']) os') : EK X (bodyPost Tryz.prog fn (Ai X Φ) .ret) S := by
 constructor
 intro a w ha
 obtain ⟨x, h1, h2⟩ := qB ha.mem hi (tyI hT)
 have hp := (bg.1 (ha.regs p _ hl)).2
 have hp' : a.tmps[p]?.getD undef = .pointer (some ⟨g, 0, none⟩) := by simpa using hp
 have h3 : cO (X.ok S.objs w) w (.tpl [d', e', k']) (.tuple #[x, a.tmps.getD u undef, a.tmps.getD q undef]) := ⟨[x, a.tmps.getD u undef, a.tmps.getD q undef], rfl, _, _, rfl, Refine1.jk ha.mem.fact hR h2, _, _, rfl, Refine1.jk ha.mem.fact hR2 (ha.regs u _ hu), _, _, rfl, Refine1.jk ha.mem.fact hR3 (ha.regs q _ hq), rfl⟩
 refine bodyPost_ret (v := .tuple #[x, a.tmps.getD u undef, a.tmps.getD q undef]) ?_ ha.defers ⟨_, _, os', rfl, hΦ, ha.mem.less ho (fun f hf => by cases hf), h3.mono (fun b hb => pq ho hb) fun _ _ => rfl⟩
 simp [results, hres, hp', asAddr, h1]
theorem EK.gy {N : Nat} {X : Cx N} {S : St} {fn : Func} {Φ : R → List Obj → Prop} {p u q : Tmp} {d d' e e' k k' : D} (os' : List Obj) (hres : fn.results = #[.tmp p, .tmp u, .tmp q]) (hl : look S.regs p = some (.val d)) (hu : look S.regs u = some (.val e)) (hq : look S.regs q = some (.val k)) (hR : aj S.facts [d] [d']) (hR2 : aj S.facts [e] [e']) (hR3 : aj S.facts [k] [k']) (ho : os'.Sublist S.objs) (hΦ : Φ (.tpl [d', e', k']) os') : EK X (bodyPost Tryz.prog fn (Ai X Φ) .ret) S := by
 constructor
 intro a w ha
 have h3 : cO (X.ok S.objs w) w (.tpl [d', e', k']) (.tuple #[a.tmps.getD p undef, a.tmps.getD u undef, a.tmps.getD q undef]) := ⟨[a.tmps.getD p undef, a.tmps.getD u undef, a.tmps.getD q undef], rfl, _, _, rfl, Refine1.jk ha.mem.fact hR (ha.regs p _ hl), _, _, rfl, Refine1.jk ha.mem.fact hR2 (ha.regs u _ hu), _, _, rfl, Refine1.jk ha.mem.fact hR3 (ha.regs q _ hq), rfl⟩
 refine bodyPost_ret (v := .tuple #[a.tmps.getD p undef, a.tmps.getD u undef, a.tmps.getD q undef]) ?_ ha.defers ⟨_, _, os', rfl, hΦ, ha.mem.less ho (fun f hf => by cases hf), h3.mono (fun b hb => pq ho hb) fun _ _ => rfl⟩
 simp [results, hres]
theorem Qw (a : UInt8) : Bin .rem 5 (.v (bv a)) (.v (.int .u8 2)) (.int .u8 ((a.toNat % 2 : Nat) : Int)) := DZ rfl fun w => by
 have ht : ((a.toNat : Int).tmod 2) = ((a.toNat % 2 : Nat) : Int) := rfl
 show (Op.intDiv .rem .u8 (a.toNat : Int) 2).run Tryz.prog w = _
 simp only [Op.intDiv, ht]
 simp
def rdP : List UInt8 → Option (List UInt8 × Bool)
 | [] => none
 | c :: r => if 3 < (c >>> 4).toNat then none else if (c >>> 4).toNat % 2 = 1 then some ((c &&& 15) :: split r, decide (2 ≤ (c >>> 4).toNat)) else if (c &&& 15).toNat = 0 then some (split r, decide (2 ≤ (c >>> 4).toNat)) else none
def rpD (b : List UInt8) : R := match rdP b with
 | none => .tpl [.bs [], .v (.bool false), .v (.bool false)]
 | some (p, l) => .tpl [.bs p, .v (.bool l), .v (.bool true)]
theorem qw (c : UInt8) (r : List UInt8) : split (c :: r) = (c >>> 4) :: (c &&& 15) :: split r := rfl
theorem Gl (b : List UInt8) (hb : b.length ≤ 536870912) : Fn 116 [.bs b] (· = rpD b) := by
 have hS := uV b (by omega)
 unfold rpD
 refine FnM.toFn ?_
 cases b with
 | nil =>
  rw [show split [] = [] from rfl] at hS
  rw [rdP]
  refine FnM.walk 49 Tryz.func116 rfl Tryz.ntmps116 (by simp) fun X => ?_
  repeat
   (first
    | (apply eX; iterate 2 rfl) | (apply aA (hS); rfl; exact aj.refl _ _; exact enA; iterate 2 rfl) | (apply ak; iterate 3 rfl)
    | (apply ah; iterate 3 rfl) | (apply aS; iterate 4 rfl) | (apply aC (b := true); (iterate 2 rfl); exact aK; iterate 2 rfl)
    | (apply aP; iterate 4 rfl) | apply EL.nil | (apply EC.t0; rfl)
    | (with_reducible first | apply EK.nc | apply EC.seq | apply EC.r0 | apply EC.ret | apply EK.aG))
  exact EK.gy [] rfl rfl rfl rfl RL.a RL.a RL.a (Xt _) ⟨rfl, rfl⟩
 | cons c r =>
  have hsl := dB r
  rw [List.length_cons] at hb
  rw [qw] at hS
  rw [rdP]
  generalize c >>> 4 = x at hS ⊢
  generalize c &&& 15 = y at hS ⊢
  generalize split r = s at hS hsl ⊢
  have hl2 : (x :: y :: s).length = s.length + 2 := rfl
  have hrem := Qw x
  refine FnM.walk 49 Tryz.func116 rfl Tryz.ntmps116 (by simp) fun X => ?_
  by_cases h3 : 3 < x.toNat
  ·
   rw [if_pos h3]
   repeat
    (first
     | (apply eX; iterate 2 rfl) | (apply aA (hS); rfl; exact aj.refl _ _; exact enA; iterate 2 rfl) | (apply ak; iterate 3 rfl)
     | (apply ah; iterate 3 rfl) | (apply aH; iterate 5 rfl) | (apply aS; iterate 4 rfl)
     | (apply aC (b := true); (iterate 2 rfl); exact aK; iterate 2 rfl) | (apply aC (b := false); (iterate 2 rfl); exact aK; iterate 2 rfl)
     | (apply aP; iterate 4 rfl)
     | (apply gB; (iterate 3 rfl); exact ixA; iterate 2 rfl) | apply EL.nil
     | (apply EC.t0; rfl) | (with_reducible first | apply EK.nc | apply EC.seq | apply EC.r0 | apply EC.ret | apply EK.aG))
   exact EK.gy [] rfl rfl rfl rfl RL.a RL.a RL.a (Xt _) ⟨rfl, rfl⟩
  ·
   rw [if_neg h3]
   by_cases h1 : x.toNat % 2 = 1
   ·
    rw [if_pos h1]
    rw [h1] at hrem
    by_cases h2 : 2 ≤ x.toNat
    ·
     rw [show decide (2 ≤ x.toNat) = true by simp [h2]]
     repeat
      (first
       | (apply eX; iterate 2 rfl) | (apply aA (hS); rfl; exact aj.refl _ _; exact enA; iterate 2 rfl)
       | (apply dW; (iterate 2 rfl); exact hrem; iterate 2 rfl) | (apply ak; iterate 3 rfl) | (apply ah; iterate 3 rfl) | (apply aH; iterate 5 rfl)
       | (apply aS; iterate 4 rfl) | (apply aC (b := true); (iterate 2 rfl); exact aK; iterate 2 rfl)
       | (apply aC (b := false); (iterate 2 rfl); exact aK; iterate 2 rfl) | (apply aP; iterate 4 rfl)
       | (apply gB; (iterate 3 rfl); exact ixA; iterate 2 rfl) | apply EL.nil
       | (apply EC.t0; rfl) | (apply EC.f0; rfl) | (with_reducible first | apply EK.nc | apply EC.seq | apply EC.r0 | apply EC.k0))
     refine EC.draw 10 (by kernel_rfl) ?_
     simp only [Xp, Xu, mP, Xq]
     repeat
      (first
       | (apply jQ; (iterate 3 rfl); exact ⟨by decide, by rw [hl2]; show 1 ≤ _; omega⟩; iterate 2 rfl) | (apply EH.grow (lK rfl rfl (by simp; omega)); rfl; rfl; rfl)
       | (apply aX; iterate 3 rfl) | (apply fA; iterate 3 rfl) | (apply bD; iterate 5 rfl)
       | (apply jm (b := true); (iterate 2 rfl); exact aK; iterate 2 rfl)
       | (apply lW; (iterate 3 rfl); exact ixA; iterate 2 rfl)
       | ((with_reducible apply EH.nil); rfl))
     repeat
      (first
       | apply EL.nil | (with_reducible first | apply EK.nc | apply EC.ret | apply EK.aG))
     exact EK.gy [] rfl rfl rfl rfl RL.a RL.a RL.a (Xt _) ⟨rfl, rfl⟩
    ·
     rw [show decide (2 ≤ x.toNat) = false by simp [h2]]
     repeat
      (first
       | (apply eX; iterate 2 rfl) | (apply aA (hS); rfl; exact aj.refl _ _; exact enA; iterate 2 rfl)
       | (apply dW; (iterate 2 rfl); exact hrem; iterate 2 rfl) | (apply ak; iterate 3 rfl) | (apply ah; iterate 3 rfl) | (apply aH; iterate 5 rfl)
       | (apply aS; iterate 4 rfl) | (apply aC (b := true); (iterate 2 rfl); exact aK; iterate 2 rfl)
       | (apply aC (b := false); (iterate 2 rfl); exact aK; iterate 2 rfl) | (apply aP; iterate 4 rfl)
       | (apply gB; (iterate 3 rfl); exact ixA; iterate 2 rfl) | apply EL.nil
       | (apply EC.t0; rfl) | (apply EC.f0; rfl) | (with_reducible first | apply EK.nc | apply EC.seq | apply EC.r0 | apply EC.k0))
     refine EC.draw 10 (by kernel_rfl) ?_
     simp only [Xp, Xu, mP, Xq]
     repeat
      (first
       | (apply jQ; (iterate 3 rfl); exact ⟨by decide, by rw [hl2]; show 1 ≤ _; omega⟩; iterate 2 rfl) | (apply EH.grow (lK rfl rfl (by simp; omega)); rfl; rfl; rfl)
       | (apply aX; iterate 3 rfl) | (apply fA; iterate 3 rfl) | (apply bD; iterate 5 rfl)
       | (apply jm (b := false); (iterate 2 rfl); exact aK; iterate 2 rfl)
       | (apply lW; (iterate 3 rfl); exact ixA; iterate 2 rfl)
       | ((with_reducible apply EH.nil); rfl))
     repeat
      (first
       | apply EL.nil | (with_reducible first | apply EK.nc | apply EC.ret | apply EK.aG))
     exact EK.gy [] rfl rfl rfl rfl RL.a RL.a RL.a (Xt _) ⟨rfl, rfl⟩
   ·
    have h0 : x.toNat % 2 = 0 := by omega
    rw [if_neg h1]
    rw [h0] at hrem
    by_cases hy : y.toNat = 0
    ·
     rw [if_pos hy]
     by_cases h2 : 2 ≤ x.toNat
     ·
      rw [show decide (2 ≤ x.toNat) = true by simp [h2]]
      repeat
       (first
        | (apply aA (hS); rfl; exact aj.refl _ _; exact enA; iterate 2 rfl) | (apply dW; (iterate 2 rfl); exact hrem; iterate 2 rfl)
        | (apply ak; iterate 3 rfl) | (apply ah; iterate 3 rfl) | (apply aH; iterate 5 rfl) | (apply aS; iterate 4 rfl)
        | (apply aC (b := true); (iterate 2 rfl); exact aK; iterate 2 rfl) | (apply aC (b := false); (iterate 2 rfl); exact aK; iterate 2 rfl)
        | (apply aP; iterate 4 rfl)
        | (apply gB; (iterate 3 rfl); exact ixA; iterate 2 rfl) | apply EL.nil
        | (apply EC.f0; rfl) | (with_reducible first | apply EK.nc | apply EC.seq | apply EC.r0 | apply EC.k0))
      refine EC.draw 10 (by kernel_rfl) ?_
      simp only [Xp, Xu, mP, Xq]
      repeat
       (first
        | (apply jQ; (iterate 3 rfl); exact ⟨by decide, by rw [hl2]; show 2 ≤ _; omega⟩; iterate 2 rfl) | (apply EH.grow (lK rfl rfl (by simp; omega)); rfl; rfl; rfl)
        | (apply aX; iterate 3 rfl) | (apply fA; iterate 3 rfl) | (apply bD; iterate 5 rfl)
        | (apply jm (b := true); (iterate 2 rfl); exact aK; iterate 2 rfl)
        | (apply lW; (iterate 3 rfl); exact ixA; iterate 2 rfl)
        | ((with_reducible apply EH.nil); rfl))
      repeat
       (first
        | apply EL.nil | ((with_reducible apply EK.h0); apply EK.code) | (with_reducible apply EC.ret))
      exact EK.gy [] rfl rfl rfl rfl RL.a RL.a RL.a (Xt _) ⟨rfl, rfl⟩
     ·
      rw [show decide (2 ≤ x.toNat) = false by simp [h2]]
      repeat
       (first
        | (apply aA (hS); rfl; exact aj.refl _ _; exact enA; iterate 2 rfl) | (apply dW; (iterate 2 rfl); exact hrem; iterate 2 rfl)
        | (apply ak; iterate 3 rfl) | (apply ah; iterate 3 rfl) | (apply aH; iterate 5 rfl) | (apply aS; iterate 4 rfl)
        | (apply aC (b := true); (iterate 2 rfl); exact aK; iterate 2 rfl) | (apply aC (b := false); (iterate 2 rfl); exact aK; iterate 2 rfl)
        | (apply aP; iterate 4 rfl)
        | (apply gB; (iterate 3 rfl); exact ixA; iterate 2 rfl) | apply EL.nil
        | (apply EC.f0; rfl) | (with_reducible first | apply EK.nc | apply EC.seq | apply EC.r0 | apply EC.k0))
      refine EC.draw 10 (by kernel_rfl) ?_
      simp only [Xp, Xu, mP, Xq]
      repeat
       (first
        | (apply jQ; (iterate 3 rfl); exact ⟨by decide, by rw [hl2]; show 2 ≤ _; omega⟩; iterate 2 rfl) | (apply EH.grow (lK rfl rfl (by simp; omega)); rfl; rfl; rfl)
        | (apply aX; iterate 3 rfl) | (apply fA; iterate 3 rfl) | (apply bD; iterate 5 rfl)
        | (apply jm (b := false); (iterate 2 rfl); exact aK; iterate 2 rfl)
        | (apply lW; (iterate 3 rfl); exact ixA; iterate 2 rfl)
        | ((with_reducible apply EH.nil); rfl))
      repeat
       (first
        | apply EL.nil | ((with_reducible apply EK.h0); apply EK.code) | (with_reducible apply EC.ret))
      exact EK.gy [] rfl rfl rfl rfl RL.a RL.a RL.a (Xt _) ⟨rfl, rfl⟩
    ·
     rw [if_neg hy]
     repeat
      (first
       | (apply aA (hS); rfl; exact aj.refl _ _; exact enA; iterate 2 rfl) | (apply dW; (iterate 2 rfl); exact hrem; iterate 2 rfl)
       | (apply ak; iterate 3 rfl) | (apply ah; iterate 3 rfl) | (apply aH; iterate 5 rfl) | (apply aS; iterate 4 rfl)
       | (apply aC (b := true); (iterate 2 rfl); exact aK; iterate 2 rfl) | (apply aC (b := false); (iterate 2 rfl); exact aK; iterate 2 rfl)
       | (apply aP; iterate 4 rfl)
       | (apply gB; (iterate 3 rfl); exact ixA; iterate 2 rfl) | apply EL.nil
       | (apply EC.t0; rfl) | (with_reducible first | apply EK.nc | apply EC.seq | apply EC.r0 | apply EC.ret | apply EK.aG))
     exact EK.gy [] rfl rfl rfl rfl RL.a RL.a RL.a (Xt _) ⟨rfl, rfl⟩
def lG : List Pr → List UInt8 → Option (List UInt8)
 | [], _ => none
 | x :: l, h => if x.1 == h then some x.2 else lG l h
def Uf (o : Option (List UInt8)) : R := match o with
 | some b => .tpl [.bs b, .v (.bool true)]
 | none => .tpl [.bs [], .v (.bool false)]
theorem SI (ns : List Pr) (hns : ∀ x ∈ ns, x.1.length = 32) (hlen : ns.length ≤ 1099511627776) (h : List UInt8) : Fn 86 [.sl 33 (ns.map dNd), .bs h] (· = Uf (lG ns h)) := by
 have hml : (ns.map dNd).length = ns.length := List.length_map _
 generalize hres : lG ns h = res
 refine Fn.walk 27 Tryz.func86 rfl Tryz.ntmps86 (by simp) fun X => ?_
 repeat
  (first
   | (apply ah; iterate 3 rfl) | apply EL.nil | (with_reducible first | apply EK.nc | apply EC.seq | apply EC.r0 | apply EC.b0))
 refine EC.loop (ι := {i : Nat // i ≤ ns.length ∧ res = lG (ns.drop i) h})
  (fun i => ⟨[(6, .val (.v (.int .i64 (i.1 : Int)))), (0, .val (.sl 33 (ns.map dNd))), (1, .val (.bs h))], [], []⟩)
  (fun i => ns.length - i.1) ⟨0, XQ _, hres.symm⟩ ?_ ?_
 · exact Le.kp
 rintro ⟨i, hi, hI⟩
 dsimp only at hi hI ⊢
 by_cases hlt : i < ns.length
 ·
  have hd : (ns.map dNd)[i]? = some (.tup [.arr 32 ns[i].1, .bs ns[i].2]) := by rw [XK, List.getElem?_eq_getElem hlt]; rfl
  have hb := (jT ns[i].1 h).1
  rw [XI hlt, lG] at hI
  have hw := hns _ (XW hlt)
  cases hq : (ns[i].1 == h) with
  | true =>
   rw [hq] at hb hI
   rw [if_pos rfl] at hI
   generalize ns[i] = x at hd hb hw hI
   repeat
    (first
     | (apply ak; iterate 3 rfl) | (apply aC (b := true); (iterate 2 rfl); exact aK; iterate 2 rfl) | (apply aJ; iterate 4 rfl) | apply EL.nil
     | (apply EC.t0; rfl) | (with_reducible first | apply EK.nc | apply EC.seq | apply EC.r0 | apply EC.k0 | apply EC.b0))
   refine EC.draw 9 (by kernel_rfl) ?_
   simp only [Xp, Xu, mP, Xq]
   repeat
    (first
     | (apply lH; (iterate 2 rfl); exact hb; iterate 2 rfl) | (apply QS rF; iterate 6 rfl) | (apply aX; iterate 3 rfl) | (apply dA; iterate 7 rfl)
     | (apply dJ; (iterate 4 rfl); exact ixA; iterate 2 rfl)
     | (apply Ak; iterate 3 rfl) | ((with_reducible apply EH.nil); rfl))
   repeat
    (first
     | (apply ak; iterate 3 rfl) | (apply ah; iterate 3 rfl) | (apply bC; iterate 7 rfl) | (apply aH; iterate 5 rfl)
     | (apply bT; (iterate 4 rfl); exact ixA; iterate 2 rfl) | apply EL.nil
     | (apply EC.t0; rfl) | (with_reducible first | apply EK.nc | apply EC.seq | apply EC.r0 | apply EC.ret | apply EK.dK | apply EK.aG))
   exact EK.Hy rfl rfl rfl (by rw [hI]; rfl)
  | false =>
   rw [hq] at hb hI
   rw [if_neg (by decide)] at hI
   generalize ns[i] = x at hd hb hw
   repeat
    (first
     | (apply ak; iterate 3 rfl) | (apply aC (b := true); (iterate 2 rfl); exact aK; iterate 2 rfl) | (apply aJ; iterate 4 rfl) | apply EL.nil
     | (apply EC.t0; rfl) | (with_reducible first | apply EK.nc | apply EC.seq | apply EC.r0 | apply EC.k0 | apply EC.b0))
   refine EC.draw 9 (by kernel_rfl) ?_
   simp only [Xp, Xu, mP, Xq]
   repeat
    (first
     | (apply lH; (iterate 2 rfl); exact hb; iterate 2 rfl) | (apply QS rF; iterate 6 rfl) | (apply aX; iterate 3 rfl) | (apply dA; iterate 7 rfl)
     | (apply dJ; (iterate 4 rfl); exact ixA; iterate 2 rfl)
     | (apply Ak; iterate 3 rfl) | ((with_reducible apply EH.nil); rfl))
   repeat
    (first
     | (apply ak; iterate 3 rfl) | (apply ah; iterate 3 rfl) | (apply jh; (iterate 3 rfl); (focus omega); (focus omega); iterate 2 rfl) | apply EL.nil
     | (apply EC.f0; rfl) | (with_reducible first | apply EK.nc | apply EC.r0 | apply EC.k0 | apply EK.n0))
   refine EK.again ⟨i + 1, hlt, hI⟩ (by dsimp only; omega) ?_
   simp only [XV]
   exact Le.kp
 ·
  have hie : i = ns.length := by omega
  subst hie
  rw [List.drop_length, lG] at hI
  repeat
   (first
    | (apply ak; iterate 3 rfl) | (apply ah; iterate 3 rfl) | (apply aC (b := false); (iterate 2 rfl); exact aK; iterate 2 rfl)
    | (apply aJ; iterate 4 rfl) | apply EL.nil | (apply EC.f0; rfl)
    | (with_reducible first | apply EK.nc | apply EC.seq | apply EC.r0 | apply EC.x0 | apply EC.ret | apply EK.s0 | apply EK.aY))
  refine EK.V3 (d' := .bs []) (e' := .v (.bool false)) rfl rfl rfl ?_ (by rw [hI]; rfl)
  (exact RL.a)
end E
end Go.Proofs.YtelbhdobjdnglaaGreat
