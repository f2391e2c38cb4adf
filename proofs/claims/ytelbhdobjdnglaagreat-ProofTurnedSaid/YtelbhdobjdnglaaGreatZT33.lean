/-
 Merged: lemmas of this claim.
 Conditions: none.
-/
import Derived.Test.YtelbhdobjdnglaaGreatZT30
import Derived.Test.YtelbhdobjdnglaaGreatZT32
import Derived.Test.YtelbhdobjdnglaaGreatZT2
import Derived.OpenShut
import Derived.Deep.Slices
import Derived.ChangeSame
import Derived.SizedLaws
import Derived.Test.YtelbhdobjdnglaaGreatZT18
import Derived.Test.YtelbhdobjdnglaaGreatZT10
import Derived.Below
import Derived.Test.YtelbhdobjdnglaaGreatZT0
namespace Go.Proofs.YtelbhdobjdnglaaGreat
set_option linter.unusedVariables false
set_option maxRecDepth 20000
set_option maxHeartbeats 16000000
open Go.RowKit Mono Rlp
namespace E
theorem yQ (ns : List Pr) : ∀ (f : Nat) (x : Raw) (p : List UInt8), (qH ns f x p).length ≤ f
 | 0, x, p => Nat.le_refl _
 | f + 1, x, p => by
  rw [nX]
  split
  ·
   split
   · exact Nat.le_succ_of_le (yQ ns f _ _)
   · exact XQ _
  ·
   split
   · exact XQ _
   ·
    rw [List.length_cons]
    split
    · exact Nat.succ_le_succ (yQ ns f _ _)
    · exact Nat.succ_le_succ (XQ _)
theorem RI {b : List UInt8} (h : NdB b) : b.length ≤ 536870912 := by
 have h1 := h.1
 have hl := (uz b).len
 have h3 : most ≤ 536870912 := by decide
 have hE : Rlp.E (rdX b) = b := by
  unfold rdX rdE at *
  cases hr : gY b with
  | ok x => exact (JF hr).symm
  | error e =>
   rw [hr] at h1
   have := LU hr
   dsimp only at h1
   omega
 rw [hE] at hl
 omega
def tO (p : List (List UInt8)) (pk : List UInt8) (k : Nat) (x : Nat × Value × Option Value) (os : List Obj) : List Obj := match x.2.2 with
 | none => .row x.2.1 38 1 ((p.take x.1).map D.bs) :: os
 | some u => .row x.2.1 38 1 (((p.take x.1).map D.bs).set k (.v u)) :: .row u 5 1 (bvD pk) :: os
theorem Iz (l : List Pr) (key : List UInt8) (at_ inn : Int) (by_ : UInt8) (hat : at_ ≤ 9223372036854775807) (hin : inn ≤ 9223372036854775807) : FnM 9 [.sl 2 (l.map dPr), .bs key, .v (.int .i64 at_), .v (.int .i64 inn), .v (bv by_)] [] (fun r os' => r = .val (.v (.bool true)) ∧ os' = []) := by
 have hB := Vd l
 have hM := zK l
 have hml : (l.map dPr).length = l.length := List.length_map _
 refine FnM.walk 196 Tryz.func9 rfl Tryz.ntmps9 (by simp) fun X => ?_
 cases hb : Tz l with
 | true =>
  rw [hb] at hB
  repeat
   (first
    | (apply eX; iterate 2 rfl) | (apply aA (lu); rfl; exact aj.refl _ _; exact enA; iterate 2 rfl)
    | (apply aA (hB); rfl; exact aj.refl _ _; exact enA; iterate 2 rfl) | (apply ak; iterate 3 rfl) | (apply ah; iterate 3 rfl)
    | (apply aS; iterate 4 rfl) | (apply dI; iterate 3 rfl) | apply EL.nil | (apply EC.t0; rfl)
    | (with_reducible first | apply EK.nc | apply EC.seq | apply EC.r0 | apply EC.ret | apply EK.aG))
  exact EK.iP [] rfl rfl (Xt _) ⟨rfl, rfl⟩
 | false =>
  rw [hb] at hB
  by_cases hl1 : l.length < 1
  ·
   skip
   repeat
    (first
     | (apply eX; iterate 2 rfl) | (apply aA (lu); rfl; exact aj.refl _ _; exact enA; iterate 2 rfl)
     | (apply aA (hB); rfl; exact aj.refl _ _; exact enA; iterate 2 rfl) | (apply ak; iterate 3 rfl) | (apply ah; iterate 3 rfl)
     | (apply aS; iterate 4 rfl) | (apply dI; iterate 3 rfl) | (apply aC (b := true); (iterate 2 rfl); exact aK; iterate 2 rfl)
     | (apply aJ; iterate 4 rfl) | apply EL.nil | (apply EC.t0; rfl)
     | (with_reducible first | apply EK.nc | apply EC.seq | apply EC.r0 | apply EC.ret | apply EK.aG))
   exact EK.iP [] rfl rfl (Xt _) ⟨rfl, rfl⟩
  by_cases hk : 64 < key.length
  ·
   skip
   repeat
    (first
     | (apply eX; iterate 2 rfl) | (apply aA (lu); rfl; exact aj.refl _ _; exact enA; iterate 2 rfl)
     | (apply aA (hB); rfl; exact aj.refl _ _; exact enA; iterate 2 rfl) | (apply ak; iterate 3 rfl) | (apply ah; iterate 3 rfl)
     | (apply aS; iterate 4 rfl) | (apply dI; iterate 3 rfl) | (apply aC (b := true); (iterate 2 rfl); exact aK; iterate 2 rfl)
     | (apply aC (b := false); (iterate 2 rfl); exact aK; iterate 2 rfl) | (apply aP; iterate 4 rfl) | (apply aJ; iterate 4 rfl) | apply EL.nil
     | (apply EC.t0; rfl) | (with_reducible first | apply EK.nc | apply EC.seq | apply EC.r0 | apply EC.ret | apply EK.aG))
   exact EK.iP [] rfl rfl (Xt _) ⟨rfl, rfl⟩
  by_cases ha : at_ < 0
  ·
   skip
   repeat
    (first
     | (apply eX; iterate 2 rfl) | (apply aA (lu); rfl; exact aj.refl _ _; exact enA; iterate 2 rfl)
     | (apply aA (hB); rfl; exact aj.refl _ _; exact enA; iterate 2 rfl) | (apply ak; iterate 3 rfl) | (apply ah; iterate 3 rfl)
     | (apply aS; iterate 4 rfl) | (apply dI; iterate 3 rfl) | (apply aC (b := true); (iterate 2 rfl); exact aK; iterate 2 rfl)
     | (apply aC (b := false); (iterate 2 rfl); exact aK; iterate 2 rfl) | (apply aP; iterate 4 rfl) | (apply aJ; iterate 4 rfl) | apply EL.nil
     | (apply EC.t0; rfl) | (with_reducible first | apply EK.nc | apply EC.seq | apply EC.r0 | apply EC.ret | apply EK.aG))
   exact EK.iP [] rfl rfl (Xt _) ⟨rfl, rfl⟩
  by_cases hi : inn < 0
  ·
   skip
   repeat
    (first
     | (apply eX; iterate 2 rfl) | (apply aA (lu); rfl; exact aj.refl _ _; exact enA; iterate 2 rfl)
     | (apply aA (hB); rfl; exact aj.refl _ _; exact enA; iterate 2 rfl) | (apply ak; iterate 3 rfl) | (apply ah; iterate 3 rfl)
     | (apply aS; iterate 4 rfl) | (apply dI; iterate 3 rfl) | (apply aC (b := true); (iterate 2 rfl); exact aK; iterate 2 rfl)
     | (apply aC (b := false); (iterate 2 rfl); exact aK; iterate 2 rfl) | (apply aP; iterate 4 rfl) | (apply aJ; iterate 4 rfl) | apply EL.nil
     | (apply EC.t0; rfl) | (with_reducible first | apply EK.nc | apply EC.seq | apply EC.r0 | apply EC.ret | apply EK.aG))
   exact EK.iP [] rfl rfl (Xt _) ⟨rfl, rfl⟩
  by_cases hy : by_ = 0
  ·
   subst hy
   repeat
    (first
     | (apply eX; iterate 2 rfl) | (apply aA (lu); rfl; exact aj.refl _ _; exact enA; iterate 2 rfl)
     | (apply aA (hB); rfl; exact aj.refl _ _; exact enA; iterate 2 rfl) | (apply ak; iterate 3 rfl) | (apply ah; iterate 3 rfl)
     | (apply aS; iterate 4 rfl) | (apply dI; iterate 3 rfl) | (apply aC (b := true); (iterate 2 rfl); exact aK; iterate 2 rfl)
     | (apply aC (b := false); (iterate 2 rfl); exact aK; iterate 2 rfl) | (apply aP; iterate 4 rfl) | (apply aJ; iterate 4 rfl) | apply EL.nil
     | (apply EC.t0; rfl) | (with_reducible first | apply EK.nc | apply EC.seq | apply EC.r0 | apply EC.ret | apply EK.aG))
   exact EK.iP [] rfl rfl (Xt _) ⟨rfl, rfl⟩
  have hyc : fM .eql (by_.toNat : Int) 0 = some false := by
   simp only [fM, XT, beq_eq_false_iff_ne]
   intro e
   exact hy (Yt.1 (by simpa using e))
  by_cases he : ji l = 0
  ·
   rw [he] at hM
   have hn : l ≠ [] := fun e => hl1 (by rw [e]; decide)
   have hT := Gj l
   have hP := PZ l key (by omega) he hn
   rw [he] at hT
   repeat
    (first
     | (apply aA (lu); rfl; exact aj.refl _ _; exact enA; iterate 2 rfl) | (apply aA (hB); rfl; exact aj.refl _ _; exact enA; iterate 2 rfl)
     | (apply aA (hM); rfl; exact aj.refl _ _; exact enA; iterate 2 rfl) | (apply aC (b := false); (iterate 2 rfl); exact hyc; iterate 2 rfl)
     | (apply Ea (hT); rfl; exact aj.refl _ _; exact enA; (iterate 2 rfl); rintro _ ⟨ns0, _, rfl⟩)
     | (apply Ea (hP); rfl; exact aj.refl _ _; exact enA; (iterate 2 rfl); rintro _ ⟨ns, hns, rfl⟩) | (apply ak; iterate 3 rfl) | (apply ah; iterate 3 rfl)
     | (apply aF; iterate 4 rfl) | (apply aS; iterate 4 rfl) | (apply dI; iterate 3 rfl)
     | (apply aC (b := false); (iterate 2 rfl); exact aK; iterate 2 rfl) | (apply aP; iterate 4 rfl) | (apply aJ; iterate 4 rfl)
     | (apply aT; rfl; rfl; rfl; intro _) | (apply aI; rfl; exact saA; iterate 4 rfl) | apply EL.nil
     | (apply EC.f0; rfl) | (with_reducible first | apply EK.nc | apply EC.seq | apply EC.r0 | apply EC.k0))
   rename_i g
   have hpne := Rw he hn hns key
   have hpb : ∀ b ∈ qH ns 400 (.mk false (iH l) []) (split key), b ≠ [] := fun b hb => by
    obtain ⟨h, hh⟩ := uG _ _ _ b hb
    exact UM (vY he hn hns _ hh).1
   obtain ⟨p, hp⟩ : ∃ p, qH ns 400 (.mk false (iH l) []) (split key) = p := ⟨_, rfl⟩
   rw [hp] at hpne hpb ⊢
   have hp0 : 0 < p.length := ZI.2 hpne
   have hpm : (p.map D.bs).length = p.length := List.length_map _
   have hrem := GL (n := at_) (m := p.length) (by omega) hp0
   obtain ⟨k, hkp, hke⟩ : ∃ k : Nat, k < p.length ∧ at_.toNat % p.length = k := ⟨_, Nat.mod_lt _ hp0, rfl⟩
   rw [hke, ← hpm] at hrem
   repeat
    (first
     | (apply dW; (iterate 2 rfl); exact hrem; iterate 2 rfl) | (apply ah; iterate 3 rfl) | apply EL.nil | ((with_reducible apply EK.h0); apply EK.code)
     | (with_reducible apply EC.seq))
   have hpl : p.length ≤ 400 := by
    rw [← hp]
    exact yQ ns 400 _ _
   have ht1 : ((k : Int) + 1).toNat = k + 1 := by omega
   have htk : ((p.map D.bs).take k).length = k := by rw [List.length_take, hpm]; omega
   have hdk2 : ((p.map D.bs).drop (k + 1)).length = p.length - (k + 1) := by rw [Xx, hpm]
   have hless : (p.map D.bs).take k ++ (p.map D.bs).drop (k + 1) = (p.take k ++ p.drop (k + 1)).map D.bs := by rw [Yd, List.map_take, List.map_drop]
   refine EC.le (Le.row 38 1) ?_
   refine EC.iU 9 [0, 1, 2, 4, 5, 6, 7] [3, 8] [_] _ (by kernel_rfl) (by kernel_rfl) rfl ?_
   simp only [bJ, XD, XG, Xz, Xy]
   repeat
    (first
     | (apply Jm; (iterate 3 rfl); exact ⟨by omega, by rw [hpm, XL]; omega⟩; iterate 2 rfl)
     | (apply Am; (iterate 3 rfl); exact ⟨by omega, by rw [hpm, ht1]; omega⟩; iterate 2 rfl) | (apply aX; iterate 3 rfl)
     | (apply NV; (iterate 3 rfl); (focus omega); (focus omega); iterate 2 rfl))
   rw [XL, ht1]
   refine EM.nil ?_
   repeat (first | rw [Xr] | rw [List.nil_append])
   refine CH.mut (os := [_]) (rest := []) rfl rfl (gq rfl rfl rfl rfl rfl ?_) ?_
   · constructor <;> (simp; omega)
   rintro _ _ ⟨v1, rfl, rfl⟩
   try simp only [St.put]
   repeat (first | rw [Xr] | rw [List.nil_append])
   refine CH.mut (os := [_]) (rest := []) rfl rfl (gq rfl rfl rfl rfl rfl ?_) ?_
   · constructor <;> (simp; omega)
   rintro _ _ ⟨v2, rfl, rfl⟩
   try simp only [St.put]
   repeat (first | rw [Xr] | rw [List.nil_append])
   refine CH.nil ?_
   try simp only [mP, Xq]
   refine EL.le (Le.freeze (pre := []) rfl) ?_
   simp only [List.nil_append]
   refine EL.le (Le.refine (t := 94) (d' := .sl 1 ((p.take k ++ p.drop (k + 1)).map D.bs)) rfl (Rf.fact (by rw [← hless]; exact List.mem_cons_self) rfl)) ?_
   repeat
    (first
     | (apply ah; iterate 3 rfl) | apply EL.nil | ((with_reducible apply EK.h0); apply EK.code) | (with_reducible apply EC.seq))
   have hdk : (p.map D.bs)[k]? = some (.bs p[k]) := by rw [XK, List.getElem?_eq_getElem hkp]; rfl
   have hmore : p.map D.bs ++ [D.bs p[k]] = (p ++ [p[k]]).map D.bs := by rw [Yd]; rfl
   refine EC.le (Le.row 38 1) ?_
   refine EC.iU 8 [0, 2, 3, 4, 5, 6] [1, 7] [_] _ (by kernel_rfl) (by kernel_rfl) rfl ?_
   simp only [bJ, XD, XG, Xz, Xy]
   repeat
    (first
     | (apply aX; iterate 3 rfl) | (apply bD; iterate 5 rfl)
     | (apply dJ; (iterate 4 rfl); exact ixA; iterate 2 rfl)
     | (apply kK; iterate 9 rfl))
   refine EM.nil ?_
   repeat (first | rw [Xr] | rw [List.nil_append])
   refine CH.mut (os := [_]) (rest := []) rfl rfl (gq rfl rfl rfl rfl rfl ?_) ?_
   · constructor <;> (simp; omega)
   rintro _ _ ⟨v3, rfl, rfl⟩
   try simp only [St.put]
   repeat (first | rw [Xr] | rw [List.nil_append])
   refine CH.mut (os := [_]) (rest := []) rfl rfl (gq rfl rfl rfl rfl rfl ?_) ?_
   · constructor <;> (simp; omega)
   rintro _ _ ⟨v4, rfl, rfl⟩
   try simp only [St.put]
   repeat (first | rw [Xr] | rw [List.nil_append])
   refine CH.nil ?_
   try simp only [mP, Xq]
   refine EL.le (Le.freeze (pre := []) rfl) ?_
   simp only [List.nil_append]
   refine EL.le (Le.refine (t := 102) (d' := .sl 1 ((p ++ [p[k]]).map D.bs)) rfl (Rf.fact (by rw [← hmore]; exact List.mem_cons_self) rfl)) ?_
   repeat
    (first
     | (apply ah; iterate 3 rfl) | apply EL.nil | (with_reducible first | apply EK.nc | apply EC.seq | apply EC.r0 | apply EC.b0))
   have hpL : ∀ b ∈ p, b.length ≤ 536870912 := fun b hb => by
    rw [← hp] at hb
    obtain ⟨h, hh⟩ := uG _ _ _ b hb
    exact RI (vY he hn hns _ hh).1
   have hat2 : ∀ i, (hi : i < p.length) → (p.map D.bs)[i]? = some (.bs p[i]) := fun i hi => by rw [XK, List.getElem?_eq_getElem hi]; rfl
   have htk1 : ∀ i, (hi : i < p.length) → (p.take (i + 1)).map D.bs = (p.take i).map D.bs ++ [.bs p[i]] := fun i hi => by rw [XE hi, Yd]; rfl
   have htl : ∀ i, i ≤ p.length → ((p.take i).map D.bs).length = i := fun i hi => by rw [List.length_map, List.length_take]; omega
   obtain ⟨pk, hpk⟩ : ∃ pk, p[k] = pk := ⟨_, rfl⟩
   have hpkL := hpL p[k] (XW hkp)
   have hpk0 := hpb p[k] (XW hkp)
   rw [hpk] at hpkL hpk0
   refine EC.le (Le.row 38 1) ?_
   refine EC.loop (ι := {x : Nat × Value × Option Value // x.1 ≤ p.length ∧ (x.2.2.isSome = true ↔ k < x.1)})
    (fun x => ⟨[(22, .val (.v (.int .i64 (x.1.1 : Int)))), (21, .val (.v x.1.2.1)), (20, .val (.sl 1 ((p ++ [p[k]]).map D.bs))), (19, .val (.sl 1 ((p.take k ++ p.drop (k + 1)).map D.bs))), (18, .val (.v (.int .i64 (k : Int)))), (16, .val (.sl 1 (p.map D.bs))), (13, .val (.v (.pointer (some ⟨g, 0, none⟩)))), (4, .val (.v (bv by_))), (3, .val (.v (.int .i64 inn))), (1, .val (.bs key)), (0, .val (.sl 2 (l.map dPr)))], tO p pk k x.1 [.var g 29 (.arr 32 (iH l))], []⟩)
    (fun x => p.length - x.1.1) ⟨(0, .slice none 0 0, none), XQ _, by simp⟩ ?_ ?_
   ·
    dsimp only [tO]
    exact Le.kp
   rintro ⟨⟨i, tv, uo⟩, hi, hiu⟩
   dsimp only at hi hiu ⊢
   by_cases hlt : i < p.length
   ·
    have hdi := hat2 i hlt
    have hti := htk1 i hlt
    have hli := htl i hi
    have hpi := hpL p[i] (XW hlt)
    cases uo with
    | none =>
     have hik : ¬ k < i := fun h => by have := hiu.2 h; cases this
     by_cases hek : i = k
     ·
      subst hek
      rw [hpk] at hdi hti
      dsimp only [tO]
      have hset : ∀ u, (p.take i).map D.bs ++ [D.v u] = ((p.take (i + 1)).map D.bs).set i (.v u) := fun u => by
       rw [hti, Zu _ _ (by omega), hli, Nat.sub_self]
       rfl
      repeat
       (first
        | (apply bT (d := .bs pk); (iterate 4 rfl); exact ⟨by omega, by rw [XL]; exact hdi⟩; iterate 2 rfl) | (apply ak; iterate 3 rfl)
        | (apply aH; iterate 5 rfl) | (apply aC (b := true); (iterate 2 rfl); exact aK; iterate 2 rfl) | (apply aJ; iterate 4 rfl) | apply EL.nil
        | (apply EC.t0; rfl) | (with_reducible first | apply EK.nc | apply EC.seq | apply EC.r0 | apply EC.k0 | apply EC.b0))
      refine EL.le (Le.row 5 1) ?_
      repeat
       (first
        | (apply NS; rfl; exact .z; (iterate 4 rfl); (constructor <;> (simp; omega)); intro u) | (apply ak; iterate 3 rfl) | (apply ah; iterate 3 rfl)
        | (apply jh; (iterate 3 rfl); (focus omega); (focus omega); iterate 2 rfl) | (apply jF; iterate 9 rfl)
        | ((apply ig; rfl; exact saA; (iterate 5 rfl); (focus (constructor <;> (first | (simp; done) | (simp; omega))))); intro _)
        | apply EL.nil | (with_reducible first | apply EK.nc | apply EC.r0 | apply EK.n0))
      rename_i v'
      refine EK.le (Le.pick [1, 0, 2] [_, _, _] rfl (by decide) rfl) ?_
      rw [hset u]
      refine EK.again ⟨(i + 1, v', some u), hlt, by simp⟩ (by dsimp only; omega) ?_
      dsimp only [tO]
      simp only [XV]
      exact Le.kp
     ·
      have hki : i + 1 ≤ k := by omega
      dsimp only [tO]
      repeat
       (first
        | (apply bT (d := .bs p[i]); (iterate 4 rfl); exact ⟨by omega, by rw [XL]; exact hdi⟩; iterate 2 rfl)
        | (apply KQ (show p[i].length ≤ 140737488355328 by omega); iterate 3 rfl) | (apply ak; iterate 3 rfl) | (apply ah; iterate 3 rfl)
        | (apply aH; iterate 5 rfl) | (apply aC (b := true); (iterate 2 rfl); exact aK; iterate 2 rfl)
        | (apply jh; (iterate 3 rfl); (focus omega); (focus omega); iterate 2 rfl) | (apply aJ; iterate 4 rfl) | (apply jF; iterate 9 rfl)
        | ((apply ig; rfl; exact saA; (iterate 5 rfl); (focus (constructor <;> (first | (simp; done) | (simp; omega))))); intro _)
        | apply EL.nil | (apply EC.t0; rfl)
        | (with_reducible first | apply EK.nc | apply EC.seq | apply EC.r0 | apply EC.k0 | apply EC.b0 | apply EK.n0))
      rename_i v'
      rw [← hti]
      refine EK.again ⟨(i + 1, v', none), hlt, ⟨fun h => (by cases h), fun h => (by omega)⟩⟩ (by dsimp only; omega) ?_
      dsimp only [tO]
      simp only [XV]
      exact Le.kp
    | some u =>
     have hki : k < i := hiu.1 rfl
     have hsl : (((p.take i).map D.bs).set k (.v u)).length = i := by rw [YH, hli]
     have hset : ((p.take i).map D.bs).set k (.v u) ++ [D.bs p[i]] = ((p.take (i + 1)).map D.bs).set k (.v u) := by rw [hti, List.set_append_left _ _ (by omega)]
     dsimp only [tO]
     repeat
      (first
       | (apply bT (d := .bs p[i]); (iterate 4 rfl); exact ⟨by omega, by rw [XL]; exact hdi⟩; iterate 2 rfl)
       | (apply KQ (show p[i].length ≤ 140737488355328 by omega); iterate 3 rfl) | (apply ak; iterate 3 rfl) | (apply ah; iterate 3 rfl)
       | (apply aH; iterate 5 rfl) | (apply aC (b := true); (iterate 2 rfl); exact aK; iterate 2 rfl)
       | (apply jh; (iterate 3 rfl); (focus omega); (focus omega); iterate 2 rfl) | (apply aJ; iterate 4 rfl) | (apply jF; iterate 9 rfl)
       | ((apply ig; rfl; exact saA; (iterate 5 rfl); (focus (constructor <;> (first | (simp; done) | (simp; omega))))); intro _)
       | apply EL.nil | (apply EC.t0; rfl)
       | (with_reducible first | apply EK.nc | apply EC.seq | apply EC.r0 | apply EC.k0 | apply EC.b0 | apply EK.n0))
     rename_i v'
     rw [hset]
     refine EK.again ⟨(i + 1, v', some u), hlt, ⟨fun h => (by omega), fun h => rfl⟩⟩ (by dsimp only; omega) ?_
     dsimp only [tO]
     simp only [XV]
     exact Le.kp
   ·
    obtain rfl : i = p.length := by omega
    obtain ⟨u, rfl⟩ : ∃ u, uo = some u := Option.isSome_iff_exists.1 (hiu.2 hkp)
    dsimp only [tO]
    rw [Yl]
    repeat
     (first
      | (apply ak; iterate 3 rfl) | (apply aC (b := false); (iterate 2 rfl); exact aK; iterate 2 rfl) | (apply aJ; iterate 4 rfl) | apply EL.nil
      | (apply EC.f0; rfl)
      | (with_reducible first | apply EK.nc | apply EC.seq | apply EC.r0 | apply EC.x0 | apply EK.s0 | apply EK.aY))
    have hpk1 : 0 < pk.length := ZI.2 hpk0
    have hbl : (bvD pk).length = pk.length := List.length_map _
    have hrem2 := GL (n := inn) (m := pk.length) (by omega) hpk1
    obtain ⟨j, hj, hje⟩ : ∃ j : Nat, j < pk.length ∧ inn.toNat % pk.length = j := ⟨_, Nat.mod_lt _ hpk1, rfl⟩
    rw [hje, ← hbl] at hrem2
    obtain ⟨b, hb1⟩ : ∃ b, pk[j] = b := ⟨_, rfl⟩
    have hbj : (bvD pk)[j]? = some (.v (bv b)) := by
     show (pk.map _)[j]? = _
     rw [XK, List.getElem?_eq_getElem hj, hb1]
     rfl
    have hx8 := Vw b by_
    have hsl : ((p.map D.bs).set k (.v u)).length = p.length := by rw [YH, List.length_map]
    have hsk : ((p.map D.bs).set k (.v u))[k]? = some (.v u) := List.getElem?_set_self (by rw [List.length_map]; exact hkp)
    obtain ⟨L, hL⟩ : ∃ L, (p.map D.bs).set k (.v u) = L := ⟨_, rfl⟩
    rw [hL] at hsl hsk ⊢
    refine EC.draw 26 (by kernel_rfl) ?_
    simp only [Xp, Xu, mP, Xq]
    repeat
     (first
      | (apply jw; rfl; exact I0; rfl; rfl; exact ⟨by omega, by rw [XL, hsl]; exact hkp⟩; iterate 2 rfl)
      | (apply kV (k := k) (off := 0) (d := .v u); rfl; exact I0; exact ⟨by simp, hsk⟩; iterate 4 rfl) | (apply vI; rfl; exact I1; iterate 3 rfl)
      | (apply lH; (iterate 2 rfl); exact hrem2; iterate 2 rfl)
      | (apply jw; rfl; exact I1; rfl; rfl; exact ⟨by omega, by rw [XL, hbl]; exact hj⟩; iterate 2 rfl)
      | (apply kV (k := j) (off := 0) (d := .v (bv b)); rfl; exact I1; exact ⟨by simp, hbj⟩; iterate 4 rfl) | (apply lH; (iterate 2 rfl); exact hx8; iterate 2 rfl)
      | (apply aX; iterate 3 rfl) | ((with_reducible apply EH.nil); rfl))
    obtain ⟨pk', hpk'⟩ : ∃ pk', pk.set j (b ^^^ by_) = pk' := ⟨_, rfl⟩
    have hsb : (bvD pk).set j (.v (bv (b ^^^ by_))) = bvD pk' := by
     rw [← hpk']
     show (pk.map _).set j _ = (pk.set j _).map _
     rw [List.map_set]
    have hsp : L.set k (.bs pk') = (p.set k pk').map D.bs := by rw [← hL, List.set_set, List.map_set]
    repeat
     (first
      | (apply QL; rfl; exact I1; rfl; rfl; exact ⟨by omega, by rw [XL, hbl]; exact hj⟩; iterate 2 rfl)
      | (apply Jk (k := j) (off := 0) (d := .v (bv b)) (d'' := .v (bv (b ^^^ by_))); rfl; exact .s .z; exact ⟨by simp, hbj⟩; (iterate 4 rfl); rw [hsb]; refine EL.le (Le.pick [1, 0, 2] [_, _, _] rfl (by decide) rfl) ?_; refine EL.le (Le.freeze (pre := []) rfl) ?_; simp only [List.nil_append]; refine EL.le Le.WM ?_; refine EL.le (Le.VZ hsk (Rf.fact List.mem_cons_self rfl)) ?_; rw [hsp]; refine EL.le (Le.freeze (pre := []) rfl) ?_; simp only [List.nil_append]; refine EL.le (Le.refine (t := 21) (d' := .sl 1 ((p.set k pk').map D.bs)) rfl (Rf.fact List.mem_cons_self rfl)) ?_; dsimp only)
      | (apply fU; rfl; rfl; rfl; intro gs) | (apply ak; iterate 3 rfl) | (apply ah; iterate 3 rfl) | (apply eH; iterate 7 rfl) | apply EL.nil
      | (with_reducible first | apply EK.nc | apply EC.seq | apply EC.r0))
    refine EL.le (Le.row 40 33) ?_
    dsimp only
    have hl60 : l.length ≤ 60 := by
     unfold Tz at hb
     simp only [Bool.or_eq_false_iff, decide_eq_false_iff_not] at hb
     omega
    refine EL.le (Le.pick [1, 0, 2] [_, _, _] rfl (by decide) rfl) ?_
    refine jr (Ro gs (.slice none 0 0) [] l .nil (by simp) he) [] [.var g 29 (.arr 32 (iH l))] rfl rfl (aj.refl _ _) (by intro _ _; simp [go_sem]) rfl rfl ?_
    rintro _ _ ⟨b2, vs, S, hsn, rfl, rfl⟩
    simp only [Xr, List.nil_append]
    cases b2 with
    | false =>
     repeat
      (first
       | (apply eX; iterate 2 rfl) | (apply ak; iterate 3 rfl) | (apply ah; iterate 3 rfl) | (apply aS; iterate 4 rfl) | (apply dI; iterate 3 rfl)
       | apply EL.nil | (apply EC.t0; rfl) | (with_reducible first | apply EK.nc | apply EC.seq | apply EC.r0 | apply EC.ret | apply EK.aG))
     exact EK.iP [] rfl rfl (Xt _) ⟨rfl, rfl⟩
    | true =>
     have hpl' : pk'.length = pk.length := by rw [← hpk', YH]
     have hSl := hsn.2.1
     have hA := OA gs vs S pk' hsn.1 (by rw [List.length_nil] at hSl; omega) (by omega)
     have hsk2 : ((p.set k pk').map D.bs)[k]? = some (.bs pk') := by rw [XK, List.getElem?_set_self hkp]; rfl
     have hps : ((p.set k pk').map D.bs).length = p.length := by rw [List.length_map, YH]
     repeat
      (first
       | (apply bT (d := .bs pk'); (iterate 4 rfl); exact ⟨by omega, by rw [XL]; exact hsk2⟩; iterate 2 rfl) | (apply ak; iterate 3 rfl)
       | (apply aH; iterate 5 rfl))
     refine jr hA [] [.var g 29 (.arr 32 (iH l))] rfl rfl (aj.refl _ _) (by intro _ _; simp [go_sem]) rfl rfl ?_
     rintro _ _ ⟨vs2, rfl, rfl⟩
     simp only [Xr, List.nil_append]
     cases hok : okN (hash pk', pk') S with
     | false =>
      repeat
       (first
        | (apply ak; iterate 3 rfl) | (apply ah; iterate 3 rfl) | (apply aS; iterate 4 rfl) | (apply dI; iterate 3 rfl) | apply EL.nil
        | (apply EC.t0; rfl) | (with_reducible first | apply EK.nc | apply EC.seq | apply EC.r0 | apply EC.ret | apply EK.aG))
      exact EK.iP [] rfl rfl (Xt _) ⟨rfl, rfl⟩
     | true =>
      have hS : Sn (gG (hash pk', pk') S) l := ⟨uD _ S hsn.1, he, hn, fun u hu => nU _ S _ (hsn.2.2.2 rfl u hu)⟩
      have htop := OV hS hns (key := key) (by omega)
      rw [hp] at htop
      have c1 := hS.less (key := key) (by omega) (k := k) (by rw [← htop]; exact hkp)
      have c2 := hS.more (key := key) (by omega) p[k]
      have c3 := hS.turn (key := key) (by omega) (k := k) (by rw [← htop]; exact hkp) (b := pk') (Dn _ S hok) (by
       rw [show (fH l key)[k]'(by rw [← htop]; exact hkp) = pk by simp only [← htop]; exact hpk]
       rw [← hpk']
       exact Uz (by rw [List.getElem?_eq_getElem hj, hb1]) (VL hy))
      rw [← htop, ← OB] at c1 c2 c3
      have hrl : (iH l).length = 32 := by
       unfold iH
       rw [if_neg (show ¬ ji l ≠ 0 from fun h => h he)]
       rw [if_neg (show ¬ l.isEmpty = true by cases l with | nil => exact absurd rfl hn | cons _ _ => exact Xv)]
       exact fJ _
      have k1 := uY (iH l) key (p.take k ++ p.drop (k + 1)) hrl (by omega)
      have k2 := uY (iH l) key (p ++ [p[k]]) hrl (by omega)
      have k3 := uY (iH l) key (p.set k pk') hrl (by omega)
      rw [c1] at k1
      rw [c2] at k2
      rw [c3] at k3
      unfold Rx at k1 k2 k3
      dsimp only at k1 k2 k3
      have n5 := I7 ((5 : Nat) : Int)
      have n3 := I7 ((3 : Nat) : Int)
      repeat
       (first
        | (apply aA (k1); rfl; exact aj.refl _ _; exact enA; iterate 2 rfl) | (apply aA (k2); rfl; exact aj.refl _ _; exact enA; iterate 2 rfl)
        | (apply aA (k3); rfl; exact aj.refl _ _; exact enA; iterate 2 rfl) | (apply aA (n5); rfl; exact aj.refl _ _; exact enA; iterate 2 rfl)
        | (apply aA (n3); rfl; exact aj.refl _ _; exact enA; iterate 2 rfl) | (apply ak; iterate 3 rfl) | (apply ah; iterate 3 rfl)
        | (apply aF; iterate 4 rfl) | (apply aS; iterate 4 rfl) | (apply dI; iterate 3 rfl) | (apply bH; rfl; exact I.a; iterate 4 rfl)
        | (apply aC (b := true); (iterate 2 rfl); exact aK; iterate 2 rfl) | apply EL.nil | (apply EC.f0; rfl)
        | (with_reducible first | apply EK.nc | apply EC.seq | apply EC.r0 | apply EC.k0 | apply EC.ret))
      exact EK.iP [] rfl rfl (Xt _) ⟨rfl, rfl⟩
  ·
   have hne : (ji l : Int) ≠ 0 := by omega
   repeat
    (first
     | (apply aA (lu); rfl; exact aj.refl _ _; exact enA; iterate 2 rfl) | (apply aA (hB); rfl; exact aj.refl _ _; exact enA; iterate 2 rfl)
     | (apply aA (hM); rfl; exact aj.refl _ _; exact enA; iterate 2 rfl) | (apply aC (b := false); (iterate 2 rfl); exact hyc; iterate 2 rfl)
     | (apply ak; iterate 3 rfl) | (apply ah; iterate 3 rfl) | (apply aS; iterate 4 rfl) | (apply dI; iterate 3 rfl)
     | (apply aC (b := true); (iterate 2 rfl); exact aK; iterate 2 rfl) | (apply aC (b := false); (iterate 2 rfl); exact aK; iterate 2 rfl)
     | (apply aP; iterate 4 rfl) | (apply aJ; iterate 4 rfl) | apply EL.nil | (apply EC.t0; rfl)
     | (with_reducible first | apply EK.nc | apply EC.seq | apply EC.r0 | apply EC.ret | apply EK.aG))
   exact EK.iP [] rfl rfl (Xt _) ⟨rfl, rfl⟩
end E
end Go.Proofs.YtelbhdobjdnglaaGreat
namespace Go.Proofs.YtelbhdobjdnglaaGreat
open Go.RowKit Mono

end Go.Proofs.YtelbhdobjdnglaaGreat
namespace Go.Proofs.YtelbhdobjdnglaaGreat
set_option linter.unusedVariables false
set_option maxRecDepth 100000
open Go.RowKit Mono Go.ChangeShapes Go.WideShapes Go.Deep
theorem cell_spot {w : World} {p : Addr} {v : Value} (h : w.cell? p = some v) : p.block < w.heap.size ∧ ∃ b o, p = ⟨b, o, none⟩ := by
 obtain ⟨blk, off, spot⟩ := p
 have hspot : spot = none := by
  simp only [World.cell?] at h
  cases spot with
  | none => rfl
  | some s =>
   simp at h
   split at h <;> simp at h
 subst hspot
 refine ⟨?_, blk, off, rfl⟩
 rcases XY blk w.heap.size with hlt | hge
 · exact hlt
 · simp [World.cell?, Array.getElem?_eq_none hge] at h
theorem flat_get {n : Nat} {u : Value} : ∀ (rows : List (List Value)) (j : Nat), (∀ r ∈ rows, r.length = n) → rows.flatten[j]? = some u → ∃ i r row, j = i * n + r ∧ r < n ∧ rows[i]? = some row ∧ row[r]? = some u
 | [], j, _, h => by simp at h
 | row :: rows, j, hn, h => by
  have hr : row.length = n := hn row (by simp)
  rw [X8] at h
  by_cases hj : j < n
  ·
   rw [Yh (by omega)] at h
   exact ⟨0, j, row, by simp, hj, rfl, h⟩
  ·
   rw [Yg (by omega), hr] at h
   obtain ⟨i, r, row', h1, h2, h3, h4⟩ := flat_get rows (j - n) (fun r hr => hn r (by simp [hr])) h
   exact ⟨i + 1, r, row', by rw [YA]; omega, h2, by simpa using h3, h4⟩
section
variable {H : Type} {enc : TypeId × Value → H} {w : World} {spare : Nat → Bool} {held : Bool}
theorem Hu {t e n : TypeId} {fuel : Nat} {v : Value} {x : DataW H × List MemPlace} (ht : Tryz.prog.underlying t = some (.slice e)) (hn : Tryz.prog.cellsOf e = n) (h : DataW.trod enc Tryz.prog w 0 spare held fuel t [v] = some x) :
  ∃ (A : Option Addr) (c f : Nat) (rows : List (List Value)), v = .slice A rows.length c ∧ rows.length ≤ c ∧ c ≤ maxLen ∧ Rd w w.heap.size A rows.flatten ∧ (∀ r ∈ rows, r.length = n) ∧ (A = none → rows = [] ∧ c = 0) ∧ ∀ r ∈ rows, ∃ y, DataW.trod enc Tryz.prog w 0 spare held f e r = some y := by
 rcases open_slice ht h with ⟨hcs, _⟩ | ⟨a, len, cap, m, f, D, Pl, hcs, _, hl, hm, hmm, _, hi⟩
 ·
  simp at hcs
  subst hcs
  exact ⟨none, 0, 0, [], rfl, Nat.le_refl _, by simp [maxLen], Rd.nil, by simp, fun _ => ⟨rfl, rfl⟩, by simp⟩
 ·
  simp at hcs
  subst hcs
  have hlm : len ≤ m := by rw [hmm]; split <;> omega
  rw [hn] at hi
  let row : Nat → List Value := fun i => (w.cells? 0 (a.add (i * n)) n).getD []
  have hrow : ∀ i, i < len → w.cells? 0 (a.add (i * n)) n = some (row i) ∧ ∃ y, DataW.trod enc Tryz.prog w 0 spare held f e (row i) = some y := fun i hil => by
   obtain ⟨cs', h1, h2⟩ := hi i (by omega)
   have : row i = cs' := by simp only [row]; rw [h1]; rfl
   rw [this]
   exact ⟨h1, _, h2⟩
  have hmem : ∀ r ∈ (List.range len).map row, ∃ i, i < len ∧ r = row i := fun r hr => by
   obtain ⟨i, h1, h2⟩ := XA.1 hr
   exact ⟨i, Yu.1 h1, h2.symm⟩
  have hlen : ∀ r ∈ (List.range len).map row, r.length = n := fun r hr => by
   obtain ⟨i, h1, rfl⟩ := hmem r hr
   exact (World.cells?_some (hrow i h1).1).2.1
  refine ⟨some a, cap, f, (List.range len).map row, by simp, by simpa using hl, hm, ?_, hlen, (fun e => by cases e), fun r hr => ?_⟩
  ·
   have hcell : ∀ j u, ((List.range len).map row).flatten[j]? = some u → w.cell? (a.add j) = some u := fun j u hu => by
    obtain ⟨i, r, row', rfl, h2, h3, h4⟩ := flat_get _ j hlen hu
    have hil : i < len := by
     have := (XC.1 h3).1
     simpa using this
    have h5 : row' = row i := by
     rw [XK, YN hil] at h3
     exact (X3 h3).symm
    subst h5
    have h6 := (World.cells?_some (hrow i hil).1).2.2 r h2
    rw [h4, Go.Deep.add_add] at h6
    exact h6
   intro hne
   obtain ⟨u0, rest, he⟩ := ZF hne
   have h0 := hcell 0 u0 (by rw [he]; rfl)
   rw [show a.add 0 = a from if_pos rfl] at h0
   obtain ⟨h1, b, o, rfl⟩ := cell_spot h0
   refine ⟨b, o, rfl, h1, fun j u hu => ?_⟩
   have := hcell j u hu
   rw [eu] at this
   exact this
  ·
   obtain ⟨i, h1, rfl⟩ := hmem r hr
   exact (hrow i h1).2
theorem int_of_trod {t : TypeId} {k : IntKind} {fuel : Nat} {cs : List Value} {x : DataW H × List MemPlace} (ht : Tryz.prog.underlying t = some (.int k)) (h : DataW.trod enc Tryz.prog w 0 spare held fuel t cs = some x) : ∃ n, cs = [.int k n] ∧ (Lit.int k n).wf = true := by
 obtain ⟨n, h1, _, h2⟩ := DataW.trod_int ht h
 exact ⟨n, h1, h2⟩
theorem sV {fuel : Nat} {cs : List Value} {x : DataW H × List MemPlace} (h : DataW.trod enc Tryz.prog w 0 spare held fuel 5 cs = some x) : ∃ b : UInt8, cs = [bv b] := by
 obtain ⟨n, rfl, hw⟩ := int_of_trod Tryz.underlying5 h
 have hb := bounds_u8 hw
 refine ⟨UInt8.ofNat n.toNat, ?_⟩
 unfold bv
 rw [YG]
 have : ((n.toNat % 2 ^ 8 : Nat) : Int) = n := by omega
 rw [this]
theorem sU {rows : List (List Value)} (h : ∀ r ∈ rows, ∃ b : UInt8, r = [bv b]) : ∃ l : List UInt8, l.length = rows.length ∧ rows.flatten = bvs l := by
 induction rows with
 | nil => exact ⟨[], rfl, rfl⟩
 | cons r rows ih =>
  obtain ⟨l, h1, h2⟩ := ih fun r hr => h r (by simp [hr])
  obtain ⟨b, rfl⟩ := h r (by simp)
  exact ⟨b :: l, by simp [h1], by simp [h2, bvs]⟩
theorem AB {fuel : Nat} {v : Value} {x : DataW H × List MemPlace} (h : DataW.trod enc Tryz.prog w 0 spare held fuel 38 [v] = some x) : ∃ l, IsB w v l := by
 obtain ⟨A, c, f, rows, rfl, h1, h2, h3, _, _, h5⟩ := Hu Tryz.underlying38 (by kernel_rfl : Tryz.prog.cellsOf 5 = 1) h
 obtain ⟨l, h6, h7⟩ := sU fun r hr => by
  obtain ⟨y, hy⟩ := h5 r hr
  exact sV hy
 rw [h7] at h3
 exact ⟨l, A, c, by rw [h6], by rw [h6]; exact h1, h2, h3⟩
set_option maxRecDepth 100000
variable {r : Reach} {b0 : Nat} {v : Value} {d : DataW H} {ps : List MemPlace}
theorem TY (hv : Value.okWide Tryz.prog w r b0 3 v) (h : DataW.Trod enc Tryz.prog w 0 spare held 3 v d ps) : ∃ n : Int, v = .int .i64 n ∧ -9223372036854775808 ≤ n ∧ n ≤ 9223372036854775807 := by
 obtain ⟨n, rfl, _, _, hw⟩ := open_int Tryz.underlying3 hv h
 exact ⟨n, rfl, bounds_i64 hw⟩
theorem Xd (hv : Value.okWide Tryz.prog w r b0 5 v) (h : DataW.Trod enc Tryz.prog w 0 spare held 5 v d ps) : ∃ n : Int, v = .int .u8 n ∧ 0 ≤ n ∧ n ≤ 255 := by
 obtain ⟨n, rfl, _, _, hw⟩ := open_int Tryz.underlying5 hv h
 exact ⟨n, rfl, bounds_u8 hw⟩
theorem RG (hv : Value.okWide Tryz.prog w r b0 38 v) (h : DataW.Trod enc Tryz.prog w 0 spare held 38 v d ps) : ∃ l, IsB w v l := by
 obtain ⟨a, n, c, rfl⟩ := okWide_slice Tryz.underlying38 hv
 obtain ⟨fuel, hf⟩ := h
 exact AB hf
end
section
variable {H : Type} {enc : TypeId × Value → H} {w : World} {spare : Nat → Bool} {held : Bool}
theorem Vq (cs : List Value) (h : ∀ u ∈ cs, ∃ b : UInt8, u = bv b) : ∃ l : List UInt8, cs = bvs l := by
 induction cs with
 | nil => exact ⟨[], rfl⟩
 | cons u cs ih =>
  obtain ⟨l, hl⟩ := ih fun u hu => h u (by simp [hu])
  obtain ⟨b, rfl⟩ := h u (by simp)
  exact ⟨b :: l, by rw [hl]; rfl⟩
theorem GR {t : TypeId} {n fuel : Nat} {cs : List Value} {x : DataW H × List MemPlace} (ht : Tryz.prog.underlying t = some (.array n 5)) (hc : Tryz.prog.cellsOf t = n) (h : DataW.trod enc Tryz.prog w 0 spare held fuel t cs = some x) :
  ∃ l : List UInt8, l.length = n ∧ cs = bvs l := by
 obtain ⟨xs, m, _, _, hl, hxl, hg⟩ := DataW.trod_array ht h
 rw [hc] at hl
 obtain ⟨l, rfl⟩ := Vq cs fun u hu => by
  obtain ⟨i, hi, rfl⟩ := YR hu
  have h1 := hg i (by omega)
  rw [(by kernel_rfl : Tryz.prog.cellsOf 5 = 1), ZG, XI hi, Xp, Xu, List.getElem?_eq_getElem (by omega)] at h1
  obtain ⟨b, hb⟩ := sV h1
  exact ⟨b, by simpa using hb⟩
 exact ⟨l, by rw [← hl, bG], rfl⟩
variable {r : Reach} {b0 : Nat} {v : Value} {d : DataW H} {ps : List MemPlace}
end
section
variable {H : Type} {enc : TypeId × Value → H} {w : World} {spare : Nat → Bool} {held : Bool}
theorem wM {P : Program} {e : TypeId} {d : DataW H} {k : Nat} : ∀ {ds : List (DataW H)}, d ∈ ds → k ∈ d.weights P e → k ∈ DataW.weightsAll P e ds
 | [], h, _ => by cases h
 | x :: xs, h, hk => by
  rw [DataW.weightsAll]
  rcases XB.1 h with rfl | h
  · exact Yf _ hk
  · exact Ya _ (wM h hk)
theorem wQ {t e n : TypeId} {fuel : Nat} {v : Value} {x : DataW H × List MemPlace} (ht : Tryz.prog.underlying t = some (.slice e)) (hn : Tryz.prog.cellsOf e = n) (h : DataW.trod enc Tryz.prog w 0 spare held fuel t [v] = some x) :
  ∃ (A : Option Addr) (c f : Nat) (rows : List (List Value)), v = .slice A rows.length c ∧ rows.length ≤ c ∧ c ≤ maxLen ∧ Rd w w.heap.size A rows.flatten ∧ (∀ r ∈ rows, r.length = n) ∧ (A = none → rows = [] ∧ c = 0) ∧ (rows ≠ [] → f < fuel) ∧ (∀ r ∈ rows, ∃ y, DataW.trod enc Tryz.prog w 0 spare held f e r = some y ∧ ∀ k ∈ y.1.weights Tryz.prog e, k ∈ x.1.weights Tryz.prog t) ∧ (rows ≠ [] → ∃ k ∈ x.1.weights Tryz.prog t, rows.length * Tryz.prog.bytesOf e ≤ k) := by
 rcases DataW.trod_slice ht h with ⟨hcs, hx⟩ | ⟨a, len, cap, elems, rest, f, hfu, hcs, hx, _, hl, hm, hel, hi, _⟩
 ·
  simp at hcs
  subst hcs
  exact ⟨none, 0, 0, [], rfl, Nat.le_refl _, by simp [maxLen], Rd.nil, by simp, fun _ => ⟨rfl, rfl⟩, fun hne => absurd rfl hne, by simp, fun hne => absurd rfl hne⟩
 ·
  simp at hcs
  subst hcs
  rw [hn] at hi
  let row : Nat → List Value := fun i => (w.cells? 0 (a.add (i * n)) n).getD []
  have hrow : ∀ i, i < len → w.cells? 0 (a.add (i * n)) n = some (row i) ∧ ∃ y, DataW.trod enc Tryz.prog w 0 spare held f e (row i) = some y ∧ ∀ k ∈ y.1.weights Tryz.prog e, k ∈ x.1.weights Tryz.prog t := fun i hil => by
   have h1 := hi i hil
   rw [List.getElem?_eq_getElem (by omega)] at h1
   cases hc : w.cells? 0 (a.add (i * n)) n with
   | none => rw [hc] at h1; cases h1
   | some cs' =>
    rw [hc] at h1
    have : row i = cs' := by simp only [row]; rw [hc]; rfl
    rw [this]
    refine ⟨rfl, _, h1, fun k hk => ?_⟩
    rw [hx, DataW.weights, ht]
    exact Xw _ (Yf _ (wM (List.mem_map_of_mem (XW (by omega))) hk))
  have hmem : ∀ r ∈ (List.range len).map row, ∃ i, i < len ∧ r = row i := fun r hr => by
   obtain ⟨i, h1, h2⟩ := XA.1 hr
   exact ⟨i, Yu.1 h1, h2.symm⟩
  have hlen : ∀ r ∈ (List.range len).map row, r.length = n := fun r hr => by
   obtain ⟨i, h1, rfl⟩ := hmem r hr
   exact (World.cells?_some (hrow i h1).1).2.1
  refine ⟨some a, cap, f, (List.range len).map row, by simp, by simpa using hl, hm, ?_, hlen, (fun e => by cases e), fun _ => by omega, fun r hr => ?_, fun _ => ⟨(elems.length + rest.length) * Tryz.prog.bytesOf e, ?_, ?_⟩⟩
  ·
   have hcell : ∀ j u, ((List.range len).map row).flatten[j]? = some u → w.cell? (a.add j) = some u := fun j u hu => by
    obtain ⟨i, r, row', rfl, h2, h3, h4⟩ := flat_get _ j hlen hu
    have hil : i < len := by
     have := (XC.1 h3).1
     simpa using this
    have h5 : row' = row i := by
     rw [XK, YN hil] at h3
     exact (X3 h3).symm
    subst h5
    have h6 := (World.cells?_some (hrow i hil).1).2.2 r h2
    rw [h4, Go.Deep.add_add] at h6
    exact h6
   intro hne
   obtain ⟨u0, rest, he⟩ := ZF hne
   have h0 := hcell 0 u0 (by rw [he]; rfl)
   rw [show a.add 0 = a from if_pos rfl] at h0
   obtain ⟨h1, b, o, rfl⟩ := cell_spot h0
   refine ⟨b, o, rfl, h1, fun j u hu => ?_⟩
   have := hcell j u hu
   rw [eu] at this
   exact this
  ·
   obtain ⟨i, h1, rfl⟩ := hmem r hr
   exact (hrow i h1).2
  ·
   rw [hx, DataW.weights, ht]
   simp
  ·
   rw [List.length_map, List.length_range]
   exact ZA _ (by omega)
end
end Go.Proofs.YtelbhdobjdnglaaGreat
namespace Go.Proofs.YtelbhdobjdnglaaGreat
set_option linter.unusedVariables false
set_option maxRecDepth 100000
open Go.RowKit Mono Go.ChangeShapes Go.WideShapes Go.Deep
namespace E
inductive Sh where
 | bool
 | int (k : IntKind)
 | arr (n : Nat)
 | bytes
 | slice (b : Nat) (s : Sh)
 | struct (ss : List Sh)
mutual
def Sh.size : Sh → Nat
 | .arr n => n
 | .struct ss => Sh.sizes ss
 | _ => 1
def Sh.sizes : List Sh → Nat
 | [] => 0
 | s :: ss => s.size + Sh.sizes ss
end
def Sh.agg : Sh → Bool
 | .arr _ => true
 | .struct _ => true
 | _ => false
mutual
def Sh.Is : Sh → TypeId → Prop
 | .bool, t => Tryz.prog.underlying t = some .bool ∧ Tryz.prog.cellsOf t = 1
 | .int k, t => Tryz.prog.underlying t = some (.int k) ∧ Tryz.prog.cellsOf t = 1
 | .arr n, t => Tryz.prog.underlying t = some (.array n 5) ∧ Tryz.prog.cellsOf t = n
 | .bytes, t => Tryz.prog.underlying t = some (.slice 5) ∧ Tryz.prog.cellsOf t = 1
 | .slice b s, t => Tryz.prog.cellsOf t = 1 ∧ ∃ e, Tryz.prog.underlying t = some (.slice e) ∧ Tryz.prog.bytesOf e = b ∧ s.Is e
 | .struct ss, t => ∃ fs : Array Field, Tryz.prog.underlying t = some (.struct fs) ∧ Tryz.prog.cellsOf t = Sh.sizes ss ∧ Sh.IsF ss 0 fs.toList
def Sh.IsF : List Sh → Nat → List Field → Prop
 | [], _, fs => fs = []
 | s :: ss, o, fs => ∃ f rest, fs = f :: rest ∧ f.offset = o ∧ s.Is f.type ∧ Sh.IsF ss (o + s.size) rest
end
mutual
def Sh.Of (N : Nat) : Sh → D → Prop
 | .bool, d => ∃ b, d = .v (.bool b)
 | .int k, d => ∃ n, d = .v (.int k n) ∧ (Lit.int k n).wf = true
 | .arr n, d => ∃ l : List UInt8, l.length = n ∧ d = .arr n l
 | .bytes, d => ∃ l : List UInt8, l.length ≤ N ∧ d = .bs l
 | .slice b s, d => ∃ ds : List D, ds.length * b ≤ N ∧ d = .sl s.size ds ∧ ∀ x ∈ ds, s.Of N x
 | .struct ss, d => ∃ ds, d = .tup ds ∧ Sh.OfL N ss ds
def Sh.OfL (N : Nat) : List Sh → List D → Prop
 | [], ds => ds = []
 | s :: ss, ds => ∃ d rest, ds = d :: rest ∧ s.Of N d ∧ Sh.OfL N ss rest
end
theorem Sh.Is.cells : ∀ {s : Sh} {t : TypeId}, s.Is t → Tryz.prog.cellsOf t = s.size
 | .bool, t, h => by rw [Sh.Is] at h; exact h.2
 | .int k, t, h => by rw [Sh.Is] at h; exact h.2
 | .arr n, t, h => by rw [Sh.Is] at h; exact h.2
 | .bytes, t, h => by rw [Sh.Is] at h; exact h.2
 | .slice b s, t, h => by rw [Sh.Is] at h; exact h.1
 | .struct ss, t, h => by
  rw [Sh.Is] at h
  obtain ⟨fs, _, h2, _⟩ := h
  exact h2
theorem JA {ok : Nat → Prop} {w : World} {z : Nat} {Q : D → Prop} : ∀ {rows : List (List Value)}, (∀ r ∈ rows, r.length = z ∧ ∃ d, Q d ∧ Reads ok w d r) → ∃ ds, ds.length = rows.length ∧ (∀ x ∈ ds, Q x) ∧ au ok w z ds rows
 | [], _ => ⟨[], rfl, by simp, by rw [au]⟩
 | r :: rows, h => by
  obtain ⟨ds, h1, h2, h3⟩ := JA (rows := rows) fun r hr => h r (by simp [hr])
  obtain ⟨hz, d, hd, hr⟩ := h r (by simp)
  refine ⟨d :: ds, by simp [h1], fun x hx => ?_, by rw [au]; exact ⟨r, rows, rfl, hz, hr, h3⟩⟩
  rcases XB.1 hx with rfl | hx
  · exact hd
  · exact h2 x hx
section
variable {H : Type} {enc : TypeId × Value → H} {w : World} {spare : Nat → Bool} {held : Bool} {N : Nat}
mutual
theorem CX : ∀ (s : Sh) (t : TypeId) (fuel : Nat) (cs : List Value) (x : DataW H × List MemPlace), s.Is t → DataW.trod enc Tryz.prog w 0 spare held fuel t cs = some x → (∀ k ∈ x.1.weights Tryz.prog t, k ≤ N) → ∃ d, s.Of N d ∧ Reads (fun b => b < w.heap.size) w d cs
 | .bool, t, fuel, cs, x, hs, h, hN => by
  rw [Sh.Is] at hs
  obtain ⟨b, rfl, _⟩ := DataW.trod_bool hs.1 h
  exact ⟨.v (.bool b), by rw [Sh.Of]; exact ⟨b, rfl⟩, by rw [Reads]; exact ⟨rfl, rfl⟩⟩
 | .int k, t, fuel, cs, x, hs, h, hN => by
  rw [Sh.Is] at hs
  obtain ⟨n, rfl, _, hw⟩ := DataW.trod_int hs.1 h
  exact ⟨.v (.int k n), by rw [Sh.Of]; exact ⟨n, rfl, hw⟩, by rw [Reads]; exact ⟨rfl, rfl⟩⟩
 | .arr n, t, fuel, cs, x, hs, h, hN => by
  rw [Sh.Is] at hs
  obtain ⟨l, hl, rfl⟩ := GR hs.1 hs.2 h
  exact ⟨.arr n l, by rw [Sh.Of]; exact ⟨l, hl, rfl⟩, by rw [Reads]; exact ⟨hl, rfl⟩⟩
 | .bytes, t, fuel, cs, x, hs, h, hN => by
  rw [Sh.Is] at hs
  have hl : ∃ v, cs = [v] := by
   rcases DataW.trod_slice hs.1 h with ⟨hcs, _⟩ | ⟨a, len, cap, elems, rest, f, hfu, hcs, _⟩
   · exact ⟨_, hcs⟩
   · exact ⟨_, hcs⟩
  obtain ⟨v, rfl⟩ := hl
  obtain ⟨A, c, f, rows, rfl, h1, h2, h3, _, _, _, h5, h8⟩ := wQ hs.1 (by kernel_rfl : Tryz.prog.cellsOf 5 = 1) h
  obtain ⟨l, h6, h7⟩ := sU fun r hr => by
   obtain ⟨y, hy, _⟩ := h5 r hr
   exact sV hy
  rw [h7] at h3
  have hl : l.length ≤ N := by
   rw [h6]
   by_cases hr : rows = []
   · rw [hr]; simp
   ·
    obtain ⟨k, hk, hk2⟩ := h8 hr
    rw [(by kernel_rfl : Tryz.prog.bytesOf 5 = 1), ZG] at hk2
    exact Yi hk2 (hN k hk)
  exact ⟨.bs l, by rw [Sh.Of]; exact ⟨l, hl, rfl⟩, by rw [Reads]; exact ⟨_, rfl, A, c, by rw [h6], by rw [h6]; exact h1, h2, h3⟩⟩
 | .slice b s, t, fuel, cs, x, hs, h, hN => by
  rw [Sh.Is] at hs
  obtain ⟨_, e, hu, hb, he⟩ := hs
  have hl : ∃ v, cs = [v] := by
   rcases DataW.trod_slice hu h with ⟨hcs, _⟩ | ⟨a, len, cap, elems, rest, f, hfu, hcs, _⟩
   · exact ⟨_, hcs⟩
   · exact ⟨_, hcs⟩
  obtain ⟨v, rfl⟩ := hl
  obtain ⟨A, c, f, rows, rfl, h1, h2, h3, h4, h5, _, h6, h8⟩ := wQ hu he.cells h
  obtain ⟨ds, g1, g2, g3⟩ := JA (ok := fun b => b < w.heap.size) (w := w) (z := s.size) (Q := s.Of N) fun r hr => by
   obtain ⟨y, hy, hk⟩ := h6 r hr
   exact ⟨h4 r hr, CX s e f r y he hy fun k hk' => hN k (hk k hk')⟩
  have hl : ds.length * b ≤ N := by
   rw [g1, ← hb]
   by_cases hr : rows = []
   · rw [hr]; simp
   ·
    obtain ⟨k, hk, hk2⟩ := h8 hr
    exact Yi hk2 (hN k hk)
  refine ⟨.sl s.size ds, by rw [Sh.Of]; exact ⟨ds, hl, rfl, g2⟩, ?_⟩
  rw [Reads]
  exact ⟨A, c, rows, by rw [g1], by rw [g1]; exact h1, h2, fun e => by rw [g1, (h5 e).1]; exact ⟨rfl, (h5 e).2⟩, h3, g3⟩
 | .struct ss, t, fuel, cs, x, hs, h, hN => by
  rw [Sh.Is] at hs
  obtain ⟨fs, hu, hc, hf⟩ := hs
  obtain ⟨xs, n, _, hx, hl, hxl, hg⟩ := DataW.trod_struct hu h
  obtain ⟨ds, h1, h2⟩ := Eo ss 0 n cs fs.toList hf (by rw [hl, hc, XU]) fun f hm => by
   obtain ⟨i, hi, rfl⟩ := YR hm
   have hi' : i < fs.size := by simpa using hi
   have := hg i fs[i] (by rw [Y0 hi'])
   rw [List.getElem?_eq_getElem (by omega)] at this
   refine ⟨_, this, fun k hk => hN k ?_⟩
   rw [hx]
   simp only [DataW.weights, hu]
   exact DataW.weights_mem_each (j := i) (t := fs[i].type) (d := xs[i].1) (by simp [Array.getElem?_eq_getElem hi']) (by rw [XK, List.getElem?_eq_getElem (by omega)]; rfl) k hk
  exact ⟨.tup ds, by rw [Sh.Of]; exact ⟨ds, rfl, h1⟩, by rw [Reads]; simpa using h2⟩
theorem Eo : ∀ (ss : List Sh) (o n : Nat) (cs : List Value) (fs : List Field), Sh.IsF ss o fs → cs.length = o + Sh.sizes ss → (∀ f ∈ fs, ∃ y, DataW.trod enc Tryz.prog w 0 spare held n f.type ((cs.drop f.offset).take (Tryz.prog.cellsOf f.type)) = some y ∧ ∀ k ∈ y.1.weights Tryz.prog f.type, k ≤ N) →
  ∃ ds, Sh.OfL N ss ds ∧ bU (fun b => b < w.heap.size) w ds (cs.drop o)
 | [], o, n, cs, fs, hf, hl, h => ⟨[], by rw [Sh.OfL], by
  rw [bU]
  rw [Sh.sizes] at hl
  exact XP (by omega)⟩
 | s :: ss, o, n, cs, fs, hf, hl, h => by
  rw [Sh.IsF] at hf
  obtain ⟨f, rest, rfl, rfl, hs, hf⟩ := hf
  rw [Sh.sizes] at hl
  obtain ⟨y, hy, hk⟩ := h f (by simp)
  rw [hs.cells] at hy
  obtain ⟨d, h1, h2⟩ := CX s f.type n _ y hs hy hk
  obtain ⟨ds, h3, h4⟩ := Eo ss (f.offset + s.size) n cs rest hf (by omega) fun g hg => h g (by simp [hg])
  refine ⟨d :: ds, by rw [Sh.OfL]; exact ⟨d, ds, rfl, h1, h3⟩, ?_⟩
  rw [bU]
  refine ⟨_, _, ?_, h2, h4⟩
  rw [← Zt, X7]
end
theorem Uy {s : Sh} {d : D} (h : s.Of N d) : d.agg = s.agg := by
 cases s <;> rw [Sh.Of] at h
 ·
  obtain ⟨_, rfl⟩ := h
  rfl
 ·
  obtain ⟨_, rfl, _⟩ := h
  rfl
 ·
  obtain ⟨_, _, rfl⟩ := h
  rfl
 ·
  obtain ⟨_, _, rfl⟩ := h
  rfl
 ·
  obtain ⟨_, _, rfl, _⟩ := h
  rfl
 ·
  obtain ⟨_, rfl, _⟩ := h
  rfl
variable {r : Reach} {b0 : Nat} {v : Value} {d : DataW H} {ps : List MemPlace}
theorem Ox {s : Sh} {t : TypeId} (hs : s.Is t) (hv : Value.okWide Tryz.prog w r b0 t v) (h : DataW.Trod enc Tryz.prog w 0 spare held t v d ps) : v = if s.agg then .agg v.cells else v.cells.toList.headD undef := by
 cases s <;> rw [Sh.Is] at hs
 ·
  obtain ⟨b, rfl, _⟩ := open_bool hs.1 hv h
  rfl
 ·
  obtain ⟨n, rfl, _⟩ := open_int hs.1 hv h
  rfl
 ·
  simp only [Value.okWide, hs.1] at hv
  obtain ⟨cs, rfl, _⟩ := hv
  rfl
 ·
  obtain ⟨a, n, c, rfl⟩ := okWide_slice hs.1 hv
  rfl
 ·
  obtain ⟨_, e, hu, _, _⟩ := hs
  obtain ⟨a, n, c, rfl⟩ := okWide_slice hu hv
  rfl
 ·
  obtain ⟨fs, hu, _⟩ := hs
  simp only [Value.okWide, hu] at hv
  obtain ⟨cs, rfl, _⟩ := hv
  rfl
theorem Xe {s : Sh} {t : TypeId} (hs : s.Is t) (hv : Value.okWide Tryz.prog w r b0 t v) (h : DataW.Trod enc Tryz.prog w 0 spare held t v d ps) (hN : ∀ k ∈ d.weights Tryz.prog t, k ≤ N) : ∃ D, s.Of N D ∧ bY (fun b => b < w.heap.size) w D v := by
 have h3 := Ox hs hv h
 obtain ⟨fuel, hf⟩ := h
 obtain ⟨D, h1, h2⟩ := CX s t fuel _ _ hs hf hN
 refine ⟨D, h1, _, h2, ?_⟩
 unfold form
 rw [Uy h1]
 simpa using h3
end
end E
end Go.Proofs.YtelbhdobjdnglaaGreat
namespace Go.Proofs.YtelbhdobjdnglaaGreat
set_option linter.unusedVariables false
set_option maxRecDepth 100000
open Go.RowKit Mono Go.ChangeShapes Go.WideShapes Go.Deep
namespace E
def Oy : Sh := .struct [.bytes, .bytes]
theorem Pq : Oy.Is 53 := by
 unfold Oy
 rw [Sh.Is]
 refine ⟨_, Tryz.underlying53, by kernel_rfl, ?_⟩
 simp only [Sh.IsF, Sh.Is]
 exact ⟨_, _, rfl, rfl, ⟨Tryz.underlying38, by kernel_rfl⟩, _, _, rfl, rfl, ⟨Tryz.underlying38, by kernel_rfl⟩, rfl⟩
theorem MZ : (Sh.slice 48 Oy).Is 22 := by
 rw [Sh.Is]
 exact ⟨by kernel_rfl, _, Tryz.underlying22, by kernel_rfl, Pq⟩
theorem Fz {α : Type} {Q : D → Prop} {f : α → D} (h : ∀ d, Q d → ∃ a, d = f a) : ∀ {ds : List D}, (∀ x ∈ ds, Q x) → ∃ rs : List α, ds = rs.map f
 | [], _ => ⟨[], rfl⟩
 | d :: ds, hd => by
  obtain ⟨a, rfl⟩ := h d (hd d (by simp))
  obtain ⟨rs, rfl⟩ := Fz h fun x hx => hd x (Xw _ hx)
  exact ⟨a :: rs, rfl⟩
variable {N : Nat}
theorem O6 {d : D} (h : Oy.Of N d) : ∃ s : Pr, d = dPr s := by
 unfold Oy at h
 simp only [Sh.Of, Sh.OfL] at h
 obtain ⟨_, rfl, _, _, rfl, ⟨k, h1, rfl⟩, _, _, rfl, ⟨v, h2, rfl⟩, rfl⟩ := h
 exact ⟨(k, v), rfl⟩
theorem RQ (l : List Nat) : ∀ k ∈ l, k ≤ l.sum := by
 induction l with
 | nil => intro k hk; cases hk
 | cons a l ih =>
  intro k hk
  rw [List.sum_cons]
  rcases XB.1 hk with rfl | hk
  · omega
  ·
   have := ih k hk
   omega
end E
def yV (w : World) (v : Value) : Prop := ∃ l : List E.Pr, E.bY (fun b => b < w.heap.size) w (.sl 2 (l.map E.dPr)) v
section
variable {H : Type} {enc : TypeId × Value → H} {w : World} {spare : Nat → Bool} {held : Bool} {r : Reach} {b0 : Nat} {v : Value} {d : DataW H} {ps : List MemPlace}
theorem Wh (hv : Value.okWide Tryz.prog w r b0 22 v) (h : DataW.Trod enc Tryz.prog w 0 spare held 22 v d ps) : yV w v := by
 obtain ⟨D, h1, h2⟩ := E.Xe E.MZ hv h (E.RQ _)
 rw [E.Sh.Of] at h1
 obtain ⟨ds, _, rfl, h3⟩ := h1
 obtain ⟨l, rfl⟩ := E.Fz (fun _ => E.O6) h3
 exact ⟨l, h2⟩
end
end Go.Proofs.YtelbhdobjdnglaaGreat
namespace Go.Proofs.YtelbhdobjdnglaaGreat
set_option linter.unusedVariables false
open Go.RowKit Mono
namespace E
theorem MR {f : FuncId} {ds : List D} {xs : List Value} {w : World} (h : FnM f ds [] (fun r os' => r = .val (.v (.bool true)) ∧ os' = [])) (hr : fQ (fun b => b < w.heap.size) w ds xs) : Calls Tryz.prog f xs.toArray w fun e w' => e = .returned (.bool true) ∧ Below w.heap.size w w' :=
 (h.go _ w xs (fun b hb => hb) ⟨fun o ho => by simp at ho, .nil, fun b ⟨o, ho, _⟩ => by simp at ho⟩ hr).mono fun e w' ⟨v, r, os', he, ⟨h1, h2⟩, ht, hv⟩ => by
  subst he h1
  have hg := ht.gr.gr fun b ⟨o, ho, _⟩ => by simp at ho
  exact ⟨by rw [(bg.1 hv).2], hg⟩
end E
end Go.Proofs.YtelbhdobjdnglaaGreat
