/-
 Merged: lemmas of this claim.
 Conditions: none.
-/
import Derived.Test.YtkhjanjlcdhdcaaZK15
import Derived.Test.YtkhjanjlcdhdcaaZK12
import Derived.Test.YtkhjanjlcdhdcaaZK0
namespace Go.Proofs.Ytkhjanjlcdhdcaa
set_option linter.unusedVariables false
set_option maxRecDepth 20000
set_option maxHeartbeats 16000000
open Go.RowKit Mono Rlp Wd Go.Sort
namespace E
theorem yw : ∀ args w, (callFunc 20 args).run Try.prog w = .ok (.enter 20 args) w := enters_of Try.func20 (by kernel_rfl) rfl
theorem yu : ∀ args w, (callFunc 25 args).run Try.prog w = .ok (.enter 25 args) w := enters_of Try.func25 (by kernel_rfl) rfl
theorem lq {l rest p rest2 : List Obj} (h : rest.Perm (p ++ rest2)) : (l ++ rest).Perm (p ++ (l ++ rest2)) := by
 refine (GK l h).trans ?_
 rw [← Ey, ← Ey]
 exact Gx _ Fj
theorem yD {g m c M : Nat} {es : List Ent} {u k : Value} {n : Int} {us ks : List D} {ps : List PA} {A : As} (hi : gZ es ps A M) (hM : M ≤ 1000000) : FnM 8 [.v (ptr g)] (stO g m u k n :: smO m c es :: unO u us :: mkO k ks :: ps.flatMap PA.os) (fun r os' => (∃ L, Canon A L ∧ L.length ≤ M ∧ (∀ x ∈ L, x.sl.length ≤ M) ∧ r = .val (.sl 55 (L.map dX))) ∧ os' = stO g m u k n :: smO m c es :: unO u us :: mkO k ks :: ps.flatMap PA.os) := by
 have hlen := hi.len
 have h1 := xZ m
 have h2 := fun gk => rU 20 zT yw gk m c es (by omega)
 have hKl : (sortL (es.map (·.2.1))).length = es.length := by rw [(fK _).length_eq, Eo]
 have hKm : ∀ a, a ∈ sortL (es.map (·.2.1)) ↔ a ∈ es.map (·.2.1) := fun a => (fK _).mem_iff
 have hKo := rW hi.nod
 have hKc : ∀ a, A a ≠ Ac.zero → a ∈ sortL (es.map (·.2.1)) := fun a ha => (hKm a).2 (G8 fun hn => ha (hi.out a ((gI _ _).2 hn)))
 generalize hrest : ps.flatMap PA.os = rest
 generalize sortL (es.map (·.2.1)) = K at h2 hKl hKm hKo hKc
 have hml : (K.map (D.arr 20)).length = K.length := Eo _
 refine FnM.walk 75 Try.func8 rfl Try.ntmps8 (by simp) fun X => ?_
 repeat
  (first
   | (apply dw (os := []) h1; (iterate 2 rfl); exact ak.refl _ _; (focus (intro _ _; simp [go_sem]; done)); (iterate 2 rfl); rintro _ _ ⟨gk, rfl, rfl⟩)
   | (apply aA; iterate 3 rfl) | (apply ay; iterate 3 rfl) | (apply aC; iterate 6 rfl) | (apply aH; rfl; exact I.a; iterate 4 rfl)
   | (apply aK; iterate 3 rfl) | apply EL.nil | (with_reducible first | apply EK.nc | apply EC.seq | apply EC.r0))
 refine EL.le (Le.nC [0, 2, 1, 3, 4] [_, _, _, _, _] [_, _, _, _, _] (rest) rfl rfl (by decide) rfl) ?_
 try simp only [Ed, Ee]
 repeat
  (first
   | (apply dw (os := [.var gk 47 (.v (.map (some m))), smO m c es]) (h2 gk); (iterate 2 rfl); exact ak.refl _ _; (focus (intro _ _; simp [go_sem]; done)); (iterate 2 rfl); rintro _ _ ⟨kv, rfl, rfl⟩; refine EL.le (Le.freeze (pre := []) rfl) ?_; refine EL.le (Le.refine (t := 15) (d' := .sl 20 (K.map (D.arr 20))) rfl (Rf.fact (by simp) rfl)) ?_; simp only [Ee])
   | (apply aA; iterate 3 rfl) | (apply dR; iterate 4 rfl) | apply EL.nil | ((with_reducible apply EK.h0); apply EK.code) | (with_reducible apply EC.b0))
 refine EC.le (Le.nC [2, 1, 3, 4, 0] [_, _, _, _, _] [_, _, _, _, _] (rest) rfl rfl (by decide) rfl) ?_
 try simp only [Ed, Ee]
 refine EC.le (Le.row 46 55) ?_
 refine EC.loop (ι := {x : Nat × List AcL × Value // x.1 ≤ K.length ∧ CU A (K.take x.1) x.2.1 ∧ x.2.1.length ≤ x.1 ∧ ∀ y ∈ x.2.1, y.sl.length ≤ M})
  (fun x => ⟨[(17, .val (.v (.int .i64 (x.1.1 : Int)))), (16, .val (.v (.int .i64 (K.map (D.arr 20)).length))), (15, .val (.sl 20 (K.map (D.arr 20)))), (3, .val (.v x.1.2.2)), (0, .val (.v (ptr g)))], .row x.1.2.2 46 55 (x.1.2.1.map dX) :: stO g m u k n :: smO m c es :: unO u us :: mkO k ks :: rest, []⟩)
  (fun x => K.length - x.1.1) ⟨(0, [], fH), Fa _, CU.nil, ED _, fun y hy => by simp at hy⟩ ?_ ?_
 · exact (Le.keep (by repeat first | exact trivial | refine ⟨rfl, ?_⟩) (by repeat first | exact ER _ | apply List.Sublist.cons_cons | apply List.Sublist.cons) (by simp))
 rintro ⟨⟨i, L, v⟩, hiK, hCU, hLl, hsl⟩
 dsimp only at hiK hCU hLl hsl ⊢
 by_cases hlt : i < K.length
 ·
  have hd : (K.map (D.arr 20))[i]? = some (D.arr 20 K[i]) := by rw [Fp, Ez hlt]; rfl
  obtain ⟨d, hge⟩ := ql ((hKm K[i]).1 (FV hlt))
  obtain ⟨p, hp, rfl, his⟩ := hi.inn _ _ hge
  obtain ⟨ps1, ps2, rfl⟩ := Gw hp
  have hg : (aN es K[i]).getD (.v (.pointer none)) = .v (ptr p.g) := by rw [hge]; rfl
  have hperm : rest.Perm (p.os ++ (ps1 ++ ps2).flatMap PA.os) := hrest ▸ kK ps1 ps2 p
  generalize hrest2 : (ps1 ++ ps2).flatMap PA.os = rest2 at hperm
  have hsp := his.list K[i]
  have hse := his.sl
  have hempty := his.yx
  have hem := empty_ p
  obtain ⟨pg, pn, pw, pc, pgs, psc, pss⟩ := p
  dsimp only at hg hsp hse
  refine EC.le (Le.perm (lq (l := [.row v 46 55 (L.map dX), stO g m u k n, smO m c es, unO u us, mkO k ks]) hperm)) ?_
  simp only [PA.os, Ed, Ee]
  repeat
   (first
    | (apply aQ; iterate 5 rfl) | (apply aG (b := true); (iterate 2 rfl); exact bg; iterate 2 rfl)
    | (apply gV; (iterate 4 rfl); exact ixA; iterate 2 rfl)
    | (apply fF; rfl; rfl; rfl; intro _) | (apply bF; rfl; exact saA; iterate 4 rfl) | apply EL.nil
    | (apply EC.t0; rfl) | (with_reducible first | apply EK.nc | apply EC.seq | apply EC.r0 | apply EC.k0 | apply EC.b0))
  rename_i g5
  refine EC.draw 6 (by kernel_rfl) ?_
  simp only [Eh, Ep, Ef, Ej]
  repeat
   (first
    | (apply dn; exact hg; rfl; (first | exact I0 | exact I1 | exact I2 | exact I3 | exact I4 | exact I5); iterate 5 rfl) | (apply aS; iterate 3 rfl)
    | (apply aO; iterate 6 rfl) | (apply aU; rfl; exact I.a; iterate 4 rfl) | (apply aT; iterate 3 rfl) | ((with_reducible apply EH.nil); rfl))
  cases hpe : PA.empty ⟨pg, pn, pw, pc, pgs, psc, pss⟩ with
  | true =>
   rw [hpe] at hem
   repeat
    (first
     | (apply dH hem [_] _ rfl rfl (ak.refl _ _) (by intro _ _; simp [go_sem]) rfl rfl; rintro _ _ ⟨rfl, rfl⟩; simp only [PA.os, Ed, Ee])
     | (apply aA; iterate 3 rfl) | (apply ay; iterate 3 rfl) | (apply gq; (iterate 3 rfl); (focus omega); (focus omega); iterate 2 rfl) | apply EL.nil
     | (apply EC.t0; rfl)
     | (with_reducible first | apply EK.nc | apply EC.seq | apply EC.r0 | apply EC.x0 | apply EK.s0 | apply EK.ah))
   refine EK.le (Le.perm ((lq (l := [.row v 46 55 (L.map dX), stO g m u k n, smO m c es, unO u us, mkO k ks]) hperm).symm.cons _)) ?_
   refine EK.again ⟨(i + 1, L, v), hlt, ?_, Gp hLl, hsl⟩ (by dsimp only; omega) ?_
   ·
    rw [Fq hlt]
    exact hCU.skip (hempty.1 hpe)
   ·
    simp only [FC, Ed, Ee]
    exact (Le.keep (by repeat first | exact trivial | refine ⟨rfl, ?_⟩) (by repeat first | exact ER _ | apply List.Sublist.cons_cons | apply List.Sublist.cons) (by simp))
  | false =>
   rw [hpe] at hem
   repeat
    (first
     | (apply dH hem [_] _ rfl rfl (ak.refl _ _) (by intro _ _; simp [go_sem]) rfl rfl; rintro _ _ ⟨rfl, rfl⟩; simp only [PA.os, Ed, Ee])
     | (apply aA; iterate 3 rfl) | (apply ay; iterate 3 rfl) | apply EL.nil | (apply EC.f0; rfl)
     | (with_reducible first | apply EK.nc | apply EC.seq | apply EC.r0 | apply EC.k0))
   have hcl := xk pc his.cl
   refine EC.draw 16 (by kernel_rfl) ?_
   simp only [Eh, Ep, Ef, Ej]
   repeat
    (first
     | (apply pG (hcl); rfl; exact ak.refl _ _; exact enA; iterate 2 rfl) | (apply aS; iterate 3 rfl) | (apply aO; iterate 6 rfl)
     | (apply aU; rfl; exact I.a; iterate 4 rfl) | (apply bU; iterate 7 rfl) | (apply aT; iterate 3 rfl) | (apply BA; iterate 3 rfl)
     | ((with_reducible apply EH.jf); rfl; intro _))
   have hpl := his.len
   dsimp only at hpl
   have h3 := xY pgs
   have h4 := fun gk => rQ 25 zS yu gk pgs psc pss (by omega)
   have hK2l : (sortL (pss.map (·.2.1))).length = pss.length := by rw [(fK _).length_eq, Eo]
   have hsx : slots (A K[i]) pss = (sortL (pss.map (·.2.1))).map fun k => (k, (A K[i]).sl k) := rfl
   generalize sortL (pss.map (·.2.1)) = K2 at h4 hK2l hsx
   have hm2 : (K2.map (D.arr 32)).length = K2.length := Eo _
   rename_i gy
   repeat
    (first
     | (apply dw (os := []) h3; (iterate 2 rfl); exact ak.refl _ _; (focus (intro _ _; simp [go_sem]; done)); (iterate 2 rfl); rintro _ _ ⟨gk2, rfl, rfl⟩; refine EL.le (Le.nC [0, 4, 1, 2, 3] [_, _, _, _, _] [_, _, _, _, _] _ rfl rfl (by decide) rfl) ?_; simp only [Ed, Ee]; apply dw (os := [.var gk2 54 (.v (.map (some pgs))), .map pgs 32 psc pss]) (h4 gk2); (iterate 2 rfl); exact ak.refl _ _; (focus (intro _ _; simp [go_sem]; done)); (iterate 2 rfl); rintro _ _ ⟨kv2, rfl, rfl⟩; refine EL.le (Le.freeze (pre := []) rfl) ?_; refine EL.le (Le.refine (t := 49) (d' := .sl 32 (K2.map (D.arr 32))) rfl (Rf.fact (by simp) rfl)) ?_; simp only [Ee])
     | (apply aA; iterate 3 rfl) | (apply aC; iterate 6 rfl) | (apply aH; rfl; exact I.a; iterate 4 rfl) | (apply dR; iterate 4 rfl)
     | (apply aK; iterate 3 rfl) | (apply bF; rfl; exact saA; iterate 4 rfl) | apply EL.nil
     | (with_reducible first | apply EK.nc | apply EC.seq | apply EC.r0 | apply EC.b0))
   refine EC.le (Le.nC [2, 1, 4, 0, 3] [_, _, _, _, _] [_, _, _, _, _] (_) rfl rfl (by decide) rfl) ?_
   try simp only [Ed, Ee]
   refine EC.le (Le.row 58 64) ?_
   refine EC.loop (ι := {x : Nat × Value // x.1 ≤ K2.length})
    (fun x => ⟨[(51, .val (.v (.int .i64 (x.1.1 : Int)))), (50, .val (.v (.int .i64 (K2.map (D.arr 32)).length))), (49, .val (.sl 32 (K2.map (D.arr 32)))), (17, .val (.v (.int .i64 (i : Int)))), (16, .val (.v (.int .i64 (K.map (D.arr 20)).length))), (15, .val (.sl 20 (K.map (D.arr 20)))), (7, .val (.v (ptr gy))), (6, .val (.v (ptr pg))), (3, .val (.v v)), (0, .val (.v (ptr g)))],
     .row x.1.2 58 64 ((K2.take x.1.1).map fun k => fZ (k, (A K[i]).sl k)) :: .var gy 46 (.tup [.arr 20 K[i], .v (.int .i64 pn), .arr 32 pw, .bs pc, .v x.1.2]) :: .map pgs 32 psc pss :: acO pg pn pw pc (.map (some pgs)) :: .row v 46 55 (L.map dX) :: stO g m u k n :: smO m c es :: unO u us :: mkO k ks :: rest2, []⟩)
    (fun x => K2.length - x.1.1) ⟨(0, fH), Fa _⟩ ?_ ?_
   · exact (Le.keep (by repeat first | exact trivial | refine ⟨rfl, ?_⟩) (by repeat first | exact ER _ | apply List.Sublist.cons_cons | apply List.Sublist.cons) (by simp))
   rintro ⟨⟨j, sv⟩, hjK⟩
   dsimp only at hjK ⊢
   by_cases hlj : j < K2.length
   ·
    have hd2 : (K2.map (D.arr 32))[j]? = some (D.arr 32 K2[j]) := by rw [Fp, Ez hlj]; rfl
    have hg2 : (aN pss K2[j]).getD (.arr 32 zero32) = .arr 32 ((A K[i]).sl K2[j]) := hse K2[j]
    repeat
     (first
      | (apply aQ; iterate 5 rfl) | (apply aG (b := true); (iterate 2 rfl); exact bg; iterate 2 rfl)
      | (apply gV; (iterate 4 rfl); exact ixA; iterate 2 rfl)
      | (apply fF; rfl; rfl; rfl; intro _) | (apply bF; rfl; exact saA; iterate 4 rfl) | apply EL.nil
      | (apply EC.t0; rfl) | (with_reducible first | apply EK.nc | apply EC.seq | apply EC.r0 | apply EC.k0 | apply EC.b0))
    rename_i g9
    refine EC.le (Le.nC [1, 0] [_, _] [_, _] (_) rfl rfl (by decide) rfl) ?_
    try simp only [Ed, Ee]
    refine EC.iL 12 [0, 1, 2, 3, 4, 5, 6, 7, 8, 9] [10, 11] [_] _ (by kernel_rfl) (by kernel_rfl) rfl ?_
    simp only [bP, EY, Fb, EP, EU]
    repeat
     (first
      | (apply dn; exact hg2; rfl; (first | exact I0 | exact I1 | exact I2 | exact I3 | exact I4 | exact I5); iterate 5 rfl) | (apply aS; iterate 3 rfl)
      | (apply aO; iterate 6 rfl) | (apply aU; rfl; exact I.a; iterate 4 rfl) | (apply bU; iterate 7 rfl) | (apply aT; iterate 3 rfl))
    refine EM.nil ?_
    repeat (first | rw [Ed] | rw [Ee])
    refine CH.cut 1 ?_
    simp only [Eh, Ep, Ef, Ej]
    repeat
     (first
      | (apply BU; iterate 9 rfl))
    refine EM.nil ?_
    repeat (first | rw [Ed] | rw [Ee])
    have hl3 : ((K2.take j).map fun k => fZ (k, (A K[i]).sl k)).length = j := by rw [Eo, Gg]; omega
    refine CH.mut (os := [_]) (rest := []) rfl rfl (sZ rfl rfl rfl rfl rfl ?_) ?_
    ·
     rw [hl3]
     constructor <;> (simp; omega)
    rintro _ _ ⟨sv', rfl, rfl⟩
    try simp only [St.put]
    repeat (first | rw [Ed] | rw [Ee])
    refine CH.nil ?_
    try simp only [Ef, Ej]
    repeat
     (first
      | (apply aA; iterate 3 rfl) | (apply aC; iterate 6 rfl) | (apply gq; (iterate 3 rfl); (focus omega); (focus omega); iterate 2 rfl)
      | (apply bF; rfl; exact saA; iterate 4 rfl) | apply EL.nil
      | (with_reducible first | apply EK.nc | apply EC.r0 | apply EK.n0))
    refine EK.again ⟨(j + 1, sv'), hlj⟩ (by dsimp only; omega) ?_
    have htk : (K2.take (j + 1)).map (fun k => fZ (k, (A K[i]).sl k)) = (K2.take j).map (fun k => fZ (k, (A K[i]).sl k)) ++ [fZ (K2[j], (A K[i]).sl K2[j])] := by rw [Fq hlj, FI]; rfl
    dsimp only
    rw [htk]
    simp only [FC]
    exact (Le.keep (by repeat first | exact trivial | refine ⟨rfl, ?_⟩) (by repeat first | exact ER _ | apply List.Sublist.cons_cons | apply List.Sublist.cons) (by simp))
   ·
    have hjE : j = K2.length := by omega
    subst hjE
    refine EC.le (Le.freeze (pre := []) rfl) ?_
    simp only [Ee]
    refine EC.le (Le.yJ (d' := .tup [.arr 20 K[i], .v (.int .i64 pn), .arr 32 pw, .bs pc, .sl 64 ((K2.take K2.length).map fun k => fZ (k, (A K[i]).sl k))]) (Rf.tup (RL.cons Rf.same (RL.cons Rf.same (RL.cons Rf.same (RL.cons Rf.same (RL.cons (Rf.fact (by simp) rfl) RL.nil))))))) ?_
    repeat
     (first
      | (apply aA; iterate 3 rfl) | (apply ay; iterate 3 rfl) | (apply aH; rfl; exact I.a; iterate 4 rfl)
      | (apply aG (b := false); (iterate 2 rfl); exact bg; iterate 2 rfl) | (apply gq; (iterate 3 rfl); (focus omega); (focus omega); iterate 2 rfl)
      | (apply pq; iterate 9 rfl)
      | ((apply iM; rfl; exact saA; (iterate 5 rfl); (focus (constructor <;> (first | (simp; done) | (simp; omega))))); intro _)
      | apply EL.nil | (apply EC.f0; rfl)
      | (with_reducible first | apply EK.nc | apply EC.seq | apply EC.r0 | apply EC.x0 | apply EK.n0 | apply EK.s0 | apply EK.ah))
    rename_i v'
    refine EK.le (Le.nC [0, 2, 1] [_, _, _] [_, _, _] (_) rfl rfl (by decide) rfl) ?_
    try simp only [Ed, Ee]
    refine EK.le (Le.perm ((lq (l := [.row v' 46 55 (L.map dX ++ [.tup [.arr 20 K[i], .v (.int .i64 pn), .arr 32 pw, .bs pc, .sl 64 ((K2.take K2.length).map fun k => fZ (k, (A K[i]).sl k))]]), stO g m u k n, smO m c es, unO u us, mkO k ks]) hperm).symm.cons _)) ?_
    have hne : A K[i] ≠ Ac.zero := fun e => by
     have := hempty.2 e
     rw [hpe] at this
     cases this
    refine EK.again ⟨(i + 1, L ++ [⟨K[i], pn, pw, pc, slots (A K[i]) pss⟩], v'), hlt, ?_, ?_, ?_⟩ (by dsimp only; omega) ?_
    ·
     rw [Fq hlt]
     refine hCU.take hsp hne fun b hb => ?_
     obtain ⟨j, hj, rfl⟩ := List.getElem_of_mem hb
     rw [Gg] at hj
     rw [List.getElem_take]
     exact Gs.1 hKo j i (by omega) hlt (by omega)
    ·
     simp
     omega
    ·
     intro y hy
     rcases EZ.1 hy with hy | hy
     · exact hsl y hy
     ·
      obtain rfl : y = _ := by simpa using hy
      show (slots (A K[i]) pss).length ≤ M
      rw [hsx, Eo, hK2l]
      exact hpl
    have hmp : (L ++ [(⟨K[i], pn, pw, pc, slots (A K[i]) pss⟩ : AcL)]).map dX = L.map dX ++ [.tup [.arr 20 K[i], .v (.int .i64 pn), .arr 32 pw, .bs pc, .sl 64 ((K2.take K2.length).map fun k => fZ (k, (A K[i]).sl k))]] := by
     rw [FI, GY]
     simp only [EX, FW, dX]
     rw [hsx, FQ]
     rfl
    dsimp only
    rw [hmp]
    simp only [FC, Ed, Ee]
    exact (Le.keep (by repeat first | exact trivial | refine ⟨rfl, ?_⟩) (by repeat first | exact ER _ | apply List.Sublist.cons_cons | apply List.Sublist.cons) (by simp))
 ·
  have hiE : i = K.length := by omega
  subst hiE
  repeat
   (first
    | (apply aA; iterate 3 rfl) | (apply ay; iterate 3 rfl) | (apply aG (b := false); (iterate 2 rfl); exact bg; iterate 2 rfl) | apply EL.nil
    | (apply EC.f0; rfl)
    | (with_reducible first | apply EK.nc | apply EC.seq | apply EC.r0 | apply EC.x0 | apply EC.ret | apply EK.s0 | apply EK.ah))
  refine EK.le (Le.freeze (pre := []) rfl) ?_
  refine EK.CJ (stO g m u k n :: smO m c es :: unO u us :: mkO k ks :: rest) rfl rfl (RL.cons (Rf.fact (by simp) rfl) RL.nil) (by repeat first | exact ER _ | apply List.Sublist.cons_cons | apply List.Sublist.cons) ⟨⟨L, ?_, by omega, hsl, rfl⟩, rfl⟩
  rw [GY] at hCU
  exact hCU.canon hKc
end E
end Go.Proofs.Ytkhjanjlcdhdcaa
namespace Go.Proofs.Ytkhjanjlcdhdcaa
set_option linter.unusedVariables false
set_option maxRecDepth 20000
set_option maxHeartbeats 4000000
open Go.RowKit Mono Rlp Wd
namespace E
section
variable {g m c ga gs T g3 : Nat} {u k : Value} {n : Int} {es : List Ent} {a w cd : List UInt8} {us ks : List D} {d : D} {b : Int} {sv : Value}
abbrev mkD (x : Int × Int) : D := .tup [.v (.int .i64 x.1), .v (.int .i64 x.2)]
theorem BJ (h0 : 0 ≤ n) (h1 : n < 4611686018427387904) (hk : ks.length < 1099511627776) : FnM 7 [.v (ptr g)] [stO g m u k n, unO u us, mkO k ks] (fun r os' => r = .val (.v (.int .i64 (n + 1))) ∧ ∃ k', os' = [stO g m u k' (n + 1), unO u us, mkO k' (ks ++ [mkD (n + 1, us.length)])]) := by
 refine FnM.walk 33 Try.func7 rfl Try.ntmps7 (by simp) fun X => ?_
 repeat
  (first
   | (apply aA; iterate 3 rfl) | (apply ay; iterate 3 rfl) | (apply aC; iterate 6 rfl) | (apply aH; rfl; exact I.a; iterate 4 rfl)
   | (apply gq; (iterate 3 rfl); (focus omega); (focus omega); iterate 2 rfl) | (apply aK; iterate 3 rfl)
   | (apply bF; rfl; exact saA; iterate 4 rfl) | apply EL.nil
   | (with_reducible first | apply EK.nc | apply EC.seq | apply EC.r0 | apply EC.k0 | apply EC.label | apply EC.b0 | apply EC.x0 | apply EC.ret | apply EK.n0 | apply EK.s0 | apply EK.aB | apply EK.au | apply EK.ah))
 refine EC.le (Le.pick [2, 0, 1] [_, _, _] rfl (by decide) rfl) ?_
 refine EC.iL 17 [0, 1, 2, 3, 4, 5, 6, 7, 8, 9, 10, 11, 12, 13, 14, 15] [16] [_] _ (by kernel_rfl) (by kernel_rfl) rfl ?_
 simp only [bP, EY, Fb, EP, EU]
 repeat
  (first
   | (apply aS; iterate 3 rfl) | (apply aO; iterate 6 rfl) | (apply aU; rfl; exact I.a; iterate 4 rfl)
   | (apply Am; rfl; exact I.a; iterate 3 rfl) | (apply bU; iterate 7 rfl) | (apply BU; iterate 9 rfl) | (apply aT; iterate 3 rfl))
 refine EM.nil ?_
 repeat (first | rw [Ed] | rw [Ee])
 refine CH.mut (os := [_]) (rest := []) rfl rfl (sZ rfl rfl rfl rfl rfl ⟨by simp; omega, by simp; omega⟩) ?_
 rintro _ _ ⟨k', rfl, rfl⟩
 try simp only [St.put]
 repeat (first | rw [Ed] | rw [Ee])
 refine CH.nil ?_
 try simp only [Ef, Ej]
 repeat
  (first
   | (apply aA; iterate 3 rfl) | (apply ay; iterate 3 rfl) | (apply aC; iterate 6 rfl) | (apply aH; rfl; exact I.a; iterate 4 rfl)
   | (apply aK; iterate 3 rfl) | (apply bF; rfl; exact saA; iterate 4 rfl) | apply EL.nil
   | (with_reducible first | apply EK.nc | apply EC.seq | apply EC.r0 | apply EC.k0 | apply EC.label | apply EC.b0 | apply EC.x0 | apply EC.ret | apply EK.n0 | apply EK.s0 | apply EK.aB | apply EK.au | apply EK.ah))
 refine EK.le (Le.pick [1, 2, 0] [_, _, _] rfl (by decide) rfl) ?_
 exact EK.bH [stO g m u k' (n + 1), unO u us, mkO k' (ks ++ [mkD (n + 1, us.length)])] rfl rfl (by (repeat first | exact Em _ | apply List.Sublist.cons_cons | apply List.Sublist.cons)) ⟨rfl, k', rfl⟩
theorem BR (x : Int × Int) (n0 : Int) : FnM 29 ([mkD x] ++ [.v (ptr g3)]) [.var g3 3 (.v (.int .i64 n0))] (fun r os' => r = .val (.v (.bool (decide (x.1 = n0)))) ∧ os' = [.var g3 3 (.v (.int .i64 n0))]) := by
 refine FnM.walk 8 Try.func29 rfl Try.ntmps29 (by simp) fun X => ?_
 repeat
  (first
   | (apply ay; iterate 3 rfl) | (apply aC; iterate 6 rfl) | (apply aH; rfl; exact I.a; iterate 4 rfl) | (apply aG; iterate 5 rfl)
   | (apply bW; rfl; rfl; rfl; intro _) | apply EL.nil
   | (with_reducible first | apply EK.nc | apply EC.seq | apply EC.r0 | apply EC.k0 | apply EC.label | apply EC.b0 | apply EC.x0 | apply EC.ret | apply EK.n0 | apply EK.s0 | apply EK.aB | apply EK.au | apply EK.ah))
 exact EK.bH [.var g3 3 (.v (.int .i64 n0))] rfl rfl (by (repeat first | exact Em _ | apply List.Sublist.cons_cons | apply List.Sublist.cons)) ⟨rfl, rfl⟩
theorem index_one (x : Int × Int) : FnM 28 [.v k, .v (.func (.func 29) #[] #[ptr g3])] [.var g3 3 (.v (.int .i64 x.1)), mkO k [mkD x]] (fun r os' => r = .val (.v (.int .i64 0)) ∧ os' = [.var g3 3 (.v (.int .i64 x.1)), mkO k [mkD x]]) := by
 have h1 := BR (g3 := g3) x x.1
 rw [show decide (x.1 = x.1) = true by simp] at h1
 refine FnM.walk 19 Try.func28 rfl Try.ntmps28 (by simp) fun X => ?_
 repeat
  (first
   | (apply aA; iterate 3 rfl) | (apply ay; iterate 3 rfl) | (apply dG; rfl; exact I.a; iterate 3 rfl) | apply EL.nil
   | (with_reducible first | apply EK.nc | apply EC.seq | apply EC.r0 | apply EC.k0 | apply EC.label | apply EC.b0 | apply EC.x0 | apply EC.ret | apply EK.n0 | apply EK.s0 | apply EK.aB | apply EK.au | apply EK.ah))
 refine EC.zh 2 (EK.round ?_)
 repeat
  (first
   | (apply eP (k := 0) (off := 0) (d := mkD x); rfl; exact I1; exact ⟨rfl, rfl⟩; iterate 4 rfl)
   | (apply pF (caps := [ptr g3]) h1; (exact fun base ok L a w _ => rF (caps := [ptr g3]) (by simp [Value.oneCell'])); (iterate 3 rfl); exact ak.refl _ _; (focus (intro _ _; simp [go_sem]; done)); (iterate 2 rfl); rintro _ _ ⟨rfl, rfl⟩)
   | (apply aA; iterate 3 rfl) | (apply ay; iterate 3 rfl) | (apply aG (b := true); (iterate 2 rfl); exact bg; iterate 2 rfl)
   | (apply dF; rfl; exact I.a; (iterate 2 rfl); (focus (first | assumption | omega | (constructor <;> (first | (simp; done) | (simp; omega))))); iterate 2 rfl) | apply EL.nil
   | (apply EC.t0; rfl)
   | (with_reducible first | apply EK.nc | apply EC.seq | apply EC.r0 | apply EC.k0 | apply EC.label | apply EC.b0 | apply EC.x0 | apply EC.ret | apply EK.n0 | apply EK.s0 | apply EK.aB | apply EK.au | apply EK.ah))
 exact EK.bH [.var g3 3 (.v (.int .i64 x.1)), mkO k [mkD x]] rfl rfl (by (repeat first | exact Em _ | apply List.Sublist.cons_cons | apply List.Sublist.cons)) ⟨rfl, rfl⟩
theorem Ae {b0 : Int} (h : aN es a = some (.v (ptr ga))) : FnM 30 [.v (ptr g), nY a b0] [stO g m u k n, smO m c es, acO ga b w cd sv] (fun r os' => r = .tpl [] ∧ os' = [stO g m u k n, smO m c es, acO ga b0 w cd sv]) := by
 have hg : (aN es a).getD (.v (.pointer none)) = .v (ptr ga) := by rw [h]; rfl
 refine FnM.walk 87 Try.func30 rfl Try.ntmps30 (by simp) fun X => ?_
 repeat
  (first
   | (apply aA; iterate 3 rfl) | (apply kP; iterate 4 rfl) | (apply nX; iterate 4 rfl) | (apply fF; rfl; rfl; rfl; intro _)
   | (apply bF; rfl; exact saA; iterate 4 rfl) | apply EL.nil
   | (apply EC.t0; rfl)
   | (with_reducible first | apply EK.nc | apply EC.seq | apply EC.r0 | apply EC.k0 | apply EC.label | apply EC.b0 | apply EC.x0 | apply EC.ret | apply EK.n0 | apply EK.s0 | apply EK.aB | apply EK.au | apply EK.ah))
 refine EC.draw 9 (by kernel_rfl) ?_
 simp only [Eh, Ep, Ef, Ej]
 repeat
  (first
   | (apply dn; exact hg; rfl; (first | exact I0 | exact I1 | exact I2); iterate 5 rfl) | (apply aS; iterate 3 rfl) | (apply aO; iterate 6 rfl)
   | (apply aU; rfl; exact I.a; iterate 4 rfl) | (apply aT; iterate 3 rfl) | ((with_reducible apply EH.nil); rfl))
 repeat
  (first
   | (apply aC; iterate 6 rfl) | (apply aK; iterate 3 rfl) | (apply bF; rfl; exact saA; iterate 4 rfl)
   | apply EL.nil
   | (with_reducible first | apply EC.seq | apply EC.r0 | apply EC.k0 | apply EC.label | apply EC.b0 | apply EC.x0 | apply EC.ret | apply EK.n0 | apply EK.s0 | apply EK.aB | apply EK.au | apply EK.ah))
 exact EK.iI [stO g m u k n, smO m c es, acO ga b0 w cd sv] rfl (by (repeat first | exact Em _ | apply List.Sublist.cons_cons | apply List.Sublist.cons)) ⟨rfl, rfl⟩
theorem zY {b0 n0 : Int} (h : aN es a = some (.v (ptr ga))) : FnM 13 [.v (ptr g), .v (.int .i64 n0)] [stO g m u k n, smO m c es, unO u [nY a b0], mkO k [mkD (n0, 0)], acO ga b w cd sv] (fun r os' => r = .val (.v (.bool true)) ∧ ∃ u' k', os' = [stO g m u' k' n, smO m c es, unO u' [], mkO k' [], acO ga b0 w cd sv]) := by
 have h1 := fun g3 => index_one (k := k) (g3 := g3) (n0, 0)
 have h2 := Ae (g := g) (m := m) (c := c) (u := u) (k := k) (n := n) (b := b) (b0 := b0) (w := w) (cd := cd) (sv := sv) h
 have hl1 : ([nY a b0] : List D).length = 1 := rfl
 refine FnM.walk 64 Try.func13 rfl Try.ntmps13 (by simp) fun X => ?_
 repeat
  (first
   | (apply aA; iterate 3 rfl) | (apply ay; iterate 3 rfl) | (apply aC; iterate 6 rfl) | (apply aH; rfl; exact I.a; iterate 4 rfl)
   | (apply aK; iterate 3 rfl) | (apply kC; iterate 3 rfl) | (apply bW; rfl; rfl; rfl; intro _) | apply EL.nil
   | (with_reducible first | apply EK.nc | apply EC.seq | apply EC.r0 | apply EC.k0 | apply EC.label | apply EC.b0 | apply EC.x0 | apply EC.ret | apply EK.n0 | apply EK.s0 | apply EK.aB | apply EK.au | apply EK.ah))
 rename_i g3
 refine EL.le (Le.pick [0, 4, 1, 2, 3, 5] [_, _, _, _, _, _] rfl (by decide) rfl) ?_
 repeat
  (first
   | ((apply fJ (h1 g3); (iterate 2 rfl); exact RL.a; exact enA; iterate 2 rfl))
   | (apply eP (k := 0) (off := 1) (d := mkD (n0, 0)); rfl; (first | exact I1 | exact I2 | exact I3); exact ⟨rfl, rfl⟩; iterate 4 rfl) | (apply aA; iterate 3 rfl)
   | (apply ay; iterate 3 rfl) | (apply aC; iterate 6 rfl) | (apply aH; rfl; exact I.a; iterate 4 rfl)
   | (apply aG (b := false); (iterate 2 rfl); exact bg; iterate 2 rfl) | (apply aK; iterate 3 rfl)
   | (apply aJ; rfl; exact I.a; (focus (first | omega | (simp; done) | (simp; omega))); iterate 5 rfl)
   | (apply dF; rfl; exact I.a; (iterate 2 rfl); (focus (first | assumption | omega | (constructor <;> (first | (simp; done) | (simp; omega))))); iterate 2 rfl) | apply EL.nil
   | (apply EC.f0; rfl)
   | (with_reducible first | apply EK.nc | apply EC.seq | apply EC.r0 | apply EC.k0 | apply EC.label | apply EC.b0 | apply EC.x0 | apply EC.ret | apply EK.n0 | apply EK.s0 | apply EK.aB | apply EK.au | apply EK.ah))
 refine EC.le (Le.pick [2, 3, 5, 4, 1, 0] [_, _, _, _, _, _] rfl (by decide) rfl) ?_
 refine EC.zh 2 (EK.round ?_)
 repeat
  (first
   | ((apply fJ (h2); (iterate 2 rfl); exact RL.a; exact enA; iterate 2 rfl))
   | (apply dF; rfl; (first | exact I3 | exact I4); (iterate 2 rfl); exact ⟨by simp, by simp⟩; iterate 2 rfl)
   | (apply eP (k := 0) (off := 0) (d := nY a b0); rfl; (first | exact I3 | exact I4); exact ⟨rfl, rfl⟩; iterate 4 rfl)
   | (apply l7; rfl; (first | exact I3 | exact I4); (iterate 2 rfl); exact ⟨by simp, by simp⟩; iterate 2 rfl) | (apply aA; iterate 3 rfl)
   | (apply ay; iterate 3 rfl) | (apply aC; iterate 6 rfl) | (apply aH; rfl; exact I.a; iterate 4 rfl)
   | (apply aG (b := true); (iterate 2 rfl); exact bg; iterate 2 rfl) | (apply gq; (iterate 3 rfl); (focus omega); (focus omega); iterate 2 rfl)
   | (apply dG; rfl; exact I.a; iterate 3 rfl) | (apply aK; iterate 3 rfl)
   | (apply bF; rfl; exact saA; iterate 4 rfl) | ((with_reducible apply EK.h0); apply EK.round) | apply EL.nil
   | (apply EC.t0; rfl)
   | (with_reducible first | apply EK.nc | apply EC.seq | apply EC.r0 | apply EC.k0 | apply EC.label | apply EC.b0 | apply EC.x0 | apply EC.ret | apply EK.n0 | apply EK.s0 | apply EK.aB | apply EK.au | apply EK.ah))
 refine EL.le (Le.ru (k := 0) (v := u) (ds := [nY a b0]) (Fa _) (.s (.s (.s .z)))) ?_
 repeat
  (first
   | (apply l7; rfl; (first | exact I3 | exact I4); (iterate 2 rfl); exact ⟨by simp, by simp⟩; iterate 2 rfl) | (apply aA; iterate 3 rfl)
   | (apply ay; iterate 3 rfl) | (apply aC; iterate 6 rfl) | (apply aH; rfl; exact I.a; iterate 4 rfl)
   | (apply aG (b := false); (iterate 2 rfl); exact bg; iterate 2 rfl) | (apply dG; rfl; exact I.a; iterate 3 rfl) | (apply aK; iterate 3 rfl)
   | (apply bF; rfl; exact saA; iterate 4 rfl) | apply EL.nil
   | (apply EC.f0; rfl)
   | (with_reducible first | apply EK.nc | apply EC.seq | apply EC.r0 | apply EC.k0 | apply EC.label | apply EC.b0 | apply EC.x0 | apply EC.ret | apply EK.n0 | apply EK.s0 | apply EK.aB | apply EK.au | apply EK.ah))
 trace_state
 refine EK.le (Le.ru (k := 0) (v := k) (ds := [mkD (n0, 0)]) (Fa _) (.s (.s (.s (.s .z))))) ?_
 refine EK.le (Le.pick [0, 1, 3, 4, 2, 5] [_, _, _, _, _, _] rfl (by decide) rfl) ?_
 exact EK.bH [stO g m (cutV u 0) (cutV k 0) n, smO m c es, unO (cutV u 0) [], mkO (cutV k 0) [], acO ga b0 w cd sv] rfl rfl (by (repeat first | exact Em _ | apply List.Sublist.cons_cons | apply List.Sublist.cons)) ⟨rfl, _, _, rfl⟩
end
def absP (p : PA) : Ac := ⟨p.n, p.w, p.cd, fun k => match aN p.ss k with | some (.arr _ v) => v | _ => zero32⟩
theorem xC {p : PA} {x : Ac} {N : Nat} (h : p.Is x N) : absP p = x := by
 obtain ⟨xn, xw, xc, xs⟩ := x
 unfold absP
 rw [h.n, h.w, h.cd]
 congr 1
 funext k
 have h1 := h.sl k
 unfold slE at h1
 cases hg : aN p.ss k with
 | none =>
  rw [hg] at h1
  injection h1 with _ h2
 | some d =>
  rw [hg] at h1
  obtain ⟨e, he, _, rfl⟩ := oM _ _ _ hg
  obtain ⟨v, hv, _⟩ := h.ent e he
  rw [hv] at h1 ⊢
  injection h1 with _ h2
inductive Hy where
 | nonce (a : List UInt8) (n : Int)
 | slot (a q v : List UInt8)
 | all (a : List UInt8) (p : PA)
 | non (a : List UInt8)
def Hy.d : Hy → D
 | .nonce a n => nY a n
 | .slot a q v => rO a q v
 | .all a p => l9 a (ptr p.g)
 | .non a => l9 a (.pointer none)
def Hy.os : Hy → List Obj
 | .all _ p => p.os
 | _ => []
def Hy.back : Hy → As → As
 | .nonce a n, A => A.upd a {A a with n := n}
 | .slot a q v, A => A.upd a ((A a).slot q v)
 | .all a p, A => A.upd a (absP p)
 | .non a, A => A.upd a Ac.zero
def Hy.ok (N : Nat) : Hy → Prop
 | .all _ p => p.Is (absP p) N
 | _ => True
def WfH : List Hy → (List UInt8 → Prop) → Prop
 | [], _ => True
 | .nonce a _ :: H, P => P a ∧ WfH H P
 | .slot a _ _ :: H, P => P a ∧ WfH H P
 | .all a _ :: H, P => P a ∧ WfH H P
 | .non a :: H, P => P a ∧ WfH H fun b => b ≠ a ∧ P b
theorem WfH.mono : ∀ {H : List Hy} {P Q : List UInt8 → Prop}, (∀ a, P a → Q a) → WfH H P → WfH H Q
 | [], _, _, _, _ => trivial
 | .nonce _ _ :: _, _, _, h, hw => ⟨h _ hw.1, WfH.mono h hw.2⟩
 | .slot _ _ _ :: _, _, _, h, hw => ⟨h _ hw.1, WfH.mono h hw.2⟩
 | .all _ _ :: _, _, _, h, hw => ⟨h _ hw.1, WfH.mono h hw.2⟩
 | .non _ :: _, _, _, h, hw => ⟨h _ hw.1, WfH.mono (fun b hb => ⟨hb.1, h b hb.2⟩) hw.2⟩
theorem nN (A : As) (a : List UInt8) (x y : Ac) : (A.upd a x).upd a y = A.upd a y := by
 funext b
 unfold As.upd
 split <;> rfl
theorem lG (A : As) (a : List UInt8) : A.upd a (A a) = A := by
 funext b
 unfold As.upd
 split
 ·
  rename_i h
  rw [h]
 · rfl
theorem yL (A : As) (a : List UInt8) (x : Ac) : A.upd a x a = x := if_pos rfl
theorem wz (A : As) (a : List UInt8) (n : Int) : (Hy.nonce a (A a).n).back (A.upd a {A a with n := n}) = A := by
 show (A.upd a {A a with n := n}).upd a {(A.upd a {A a with n := n}) a with n := (A a).n} = A
 rw [yL, nN]
 exact lG A a
theorem yB (A : As) (a q v : List UInt8) : (Hy.slot a q ((A a).sl q)).back (A.upd a ((A a).slot q v)) = A := by
 show (A.upd a ((A a).slot q v)).upd a ((A.upd a ((A a).slot q v) a).slot q ((A a).sl q)) = A
 rw [yL, nN]
 have h : ((A a).slot q v).slot q ((A a).sl q) = A a := by
  unfold Ac.slot
  dsimp only
  have : (fun k => if q = k then (A a).sl q else if q = k then v else (A a).sl k) = (A a).sl := by
   funext k
   by_cases e : q = k
   · rw [if_pos e, e]
   · rw [if_neg e, if_neg e]
  rw [this]
 rw [h]
 exact lG A a
theorem Aa {A : As} {a : List UInt8} {p : PA} {N : Nat} (h : p.Is (A a) N) : (Hy.all a p).back (A.upd a Ac.zero) = A := by
 show (A.upd a Ac.zero).upd a (absP p) = A
 rw [nN, xC h]
 exact lG A a
theorem zZ {A : As} {a : List UInt8} (h : A a = Ac.zero) : (Hy.non a).back (A.upd a Ac.zero) = A := by
 show (A.upd a Ac.zero).upd a Ac.zero = A
 rw [nN, ← h]
 exact lG A a
def MSt (g : Nat) (nx : Int) (H : List Hy) (A : As) (ks : List (Int × Int)) (N : Nat) (os : List Obj) : Prop := ∃ m c es u k ps, os = [stO g m u k nx, smO m c es, unO u (H.reverse.map Hy.d), mkO k (ks.map mkD)] ++ (ps.flatMap PA.os ++ H.flatMap Hy.os) ∧ gZ es ps A N ∧ WfH H (fun a => (aN es a).isSome = true) ∧ (∀ h ∈ H, h.ok N) ∧ H.length ≤ N
theorem gZ.drop {es : List Ent} {ps1 ps2 : List PA} {p : PA} {A : As} {N : Nat} (h : gZ es (ps1 ++ p :: ps2) A N) (hn : ∀ b, aN es b ≠ some (.v (ptr p.g))) : gZ es (ps1 ++ ps2) A N := ⟨h.out, fun a d hd => by
 obtain ⟨q, hq, rfl, hi⟩ := h.inn a d hd
 refine ⟨q, ?_, rfl, hi⟩
 rcases EZ.1 hq with hq | hq
 · exact EF _ hq
 ·
  rcases Es.1 hq with rfl | hq
  · exact absurd hd (hn a)
  · exact EN _ hq, h.inj, h.nod, h.len⟩
theorem Hy.ok.up {N : Nat} : ∀ {h : Hy}, h.ok N → h.ok (N + 1)
 | .nonce _ _, _ => trivial
 | .slot _ _ _, _ => trivial
 | .non _, _ => trivial
 | .all _ _, h => PA.Is.up h
theorem eY {ks us : List D} {d : D} (h : ks ≠ []) : fG ks us d = us ++ [d] := by
 unfold fG
 rw [if_neg (by simpa using h)]
theorem jh (h : Hy) (H : List Hy) : (h :: H).reverse.map Hy.d = H.reverse.map Hy.d ++ [h.d] := by simp
section
variable {g N : Nat} {nx : Int} {H : List Hy} {A : As} {ks : List (Int × Int)} {os : List Obj} {a : List UInt8}
theorem DT {f : FuncId} {ds : List D} {x : Ac} {hy : Hy} (h : MSt g nx H A ks N os) (hN : N < 1099511627776) (hos : hy.os = []) (hok : hy.ok (N + 1)) (hwf : ∀ P : List UInt8 → Prop, P a → WfH H P → WfH (hy :: H) P)
  (hin : ∀ m c es u k us (p : PA), aN es a = some (.v (ptr p.g)) → us.length < 1099511627776 → p.Is (A a) N → FnM f ds ([stO g m u k nx, smO m c es, unO u us, mkO k (ks.map mkD)] ++ p.os) (fun r os' => ∃ (hdr' : List Obj) (p' : PA), (r = .tpl [] ∧ (∃ u', hdr' = [stO g m u' k nx, smO m c es, unO u' (us ++ [hy.d]), mkO k (ks.map mkD)]) ∧ p'.g = p.g ∧ p'.Is x (N + 1)) ∧ os' = hdr' ++ p'.os))
  (hout : ∀ m c es u k us, aN es a = none → us.length < 1099511627776 → A a = Ac.zero → FnM f ds [stO g m u k nx, smO m c es, unO u us, mkO k (ks.map mkD)] (fun r os' => r = .tpl [] ∧ ∃ (u' : Value) (p' : PA), os' = [stO g m u' k nx, smO m (bn c es a) (bG c es a (.v (ptr p'.g))), unO u' (us ++ [hy.d]), mkO k (ks.map mkD)] ++ p'.os ∧ p'.Is x (N + 1))) :
  FnM f ds os (fun r os' => r = .tpl [] ∧ MSt g nx (hy :: H) (A.upd a x) ks (N + 1) os') := by
 obtain ⟨m, c, es, u, k, ps, rfl, hi, hw, hks, hl⟩ := h
 have hul : (H.reverse.map Hy.d).length < 1099511627776 := by rw [Eo, Gu]; omega
 have hok2 : ∀ h ∈ hy :: H, h.ok (N + 1) := fun h hh => by
  rcases Es.1 hh with rfl | hh
  · exact hok
  · exact (hks h hh).up
 have hfm : (hy :: H).flatMap Hy.os = H.flatMap Hy.os := by rw [FX, hos, Ee]
 rw [← Ey]
 cases hE : aN es a with
 | some d =>
  obtain ⟨p, hp, rfl, his⟩ := hi.inn a d hE
  obtain ⟨ps1, ps2, rfl⟩ := Gw hp
  refine FnM.mono ((FnM.lift ps1 ps2 (hin m c es u k _ p hE hul his)).frame (H.flatMap Hy.os)) ?_
  rintro r _ ⟨_, ⟨hdr', p', ⟨rfl, ⟨u', rfl⟩, hg, hx⟩, rfl⟩, rfl⟩
  refine ⟨rfl, m, c, es, u', k, _, ?_, hi.turned hE hg hx, hwf _ (by rw [hE]; rfl) hw, hok2, by rw [E8]; omega⟩
  rw [jh, hfm, Ey]
 | none =>
  refine FnM.mono (((hout m c es u k _ hE hul (hi.out a hE)).frame (ps.flatMap PA.os)).apart.frame (H.flatMap Hy.os)) ?_
  rintro r _ ⟨_, ⟨⟨_, ⟨rfl, u', p', rfl, hx⟩, rfl⟩, hap⟩, rfl⟩
  refine ⟨rfl, m, bn c es a, bG c es a (.v (ptr p'.g)), u', k, p' :: ps, ?_, hi.fresh (fun b => bQ c es a b _) (dL c es a _ hi.nod) (EO (dI c es a _) (FZ hi.len)) hx (ji hap), hwf _ (by rw [bQ, if_pos rfl]; rfl) (hw.mono fun b hb => ?_), hok2, by rw [E8]; omega⟩
  ·
   rw [jh, hfm, FX]
   simp only [Ey]
  ·
   rw [bQ]
   split
   · rfl
   · exact hb
theorem vM (h : MSt g nx H A ks N os) (hN : N < 1099511627776) (hk : ks ≠ []) (v : Int) : FnM 11 [.v (ptr g), .arr 20 a, .v (.int .i64 v)] os (fun r os' => r = .tpl [] ∧ MSt g nx (.nonce a (A a).n :: H) (A.upd a {A a with n := if v > 0 then v else 0}) ks (N + 1) os') := by
 have hkm : ks.map mkD ≠ [] := by simpa using hk
 refine DT h hN rfl trivial (fun P hP hw => ⟨hP, hw⟩) (fun m c es u k us p hE hu his => ?_) (fun m c es u k us hE hu hz => ?_)
 ·
  have h1 := FnM.frame (sG (g := g) (m := m) (c := c) (u := u) (k := k) (n := nx) (ks := ks.map mkD) (b := p.n) (w := p.w) (cd := p.cd) (sv := .map (some p.gs)) (n' := v) hE hu) [.map p.gs 32 p.sc p.ss]
  rw [eY hkm] at h1
  refine FnM.mono h1 ?_
  rintro r _ ⟨_, ⟨rfl, u', rfl⟩, rfl⟩
  refine ⟨[stO g m u' k nx, smO m c es, unO u' (us ++ [nY a (A a).n]), mkO k (ks.map mkD)], {p with n := if v > 0 then v else 0}, ⟨rfl, ⟨u', rfl⟩, rfl, ⟨rfl, his.w, his.cd, his.sl, his.ent, his.nod, his.up.len, his.cl⟩⟩, ?_⟩
  rw [← his.n]
  rfl
 ·
  have h1 := lI (g := g) (m := m) (c := c) (u := u) (k := k) (n := nx) (ks := ks.map mkD) (n' := v) hE hu
  rw [eY hkm] at h1
  refine FnM.mono h1 ?_
  rintro r _ ⟨rfl, u', ga, gs, rfl⟩
  refine ⟨rfl, u', ⟨ga, if v > 0 then v else 0, zero32, [], gs, 0, []⟩, ?_, ?_⟩
  ·
   rw [hz]
   rfl
  ·
   rw [hz]
   exact ⟨rfl, rfl, rfl, fun k => rfl, fun e he => by simp at he, F6, Fa _, Fa _⟩
theorem xU (h : MSt g nx H A ks N os) (hN : N < 1099511627776) (hk : ks ≠ []) (q v : List UInt8) : FnM 9 [.v (ptr g), .arr 20 a, .arr 32 q, .arr 32 v] os (fun r os' => r = .tpl [] ∧ MSt g nx (.slot a q ((A a).sl q) :: H) (A.upd a ((A a).slot q v)) ks (N + 1) os') := by
 have hkm : ks.map mkD ≠ [] := by simpa using hk
 refine DT h hN rfl trivial (fun P hP hw => ⟨hP, hw⟩) (fun m c es u k us p hE hu his => ?_) (fun m c es u k us hE hu hz => ?_)
 ·
  by_cases hv : v = zero32
  ·
   subst hv
   have h1 := ou (g := g) (m := m) (c := c) (u := u) (k := k) (n := nx) (ks := ks.map mkD) (b := p.n) (w := p.w) (cd := p.cd) (gs := p.gs) (sc := p.sc) hE (his.sl q) hu nS
   rw [eY hkm] at h1
   refine FnM.mono h1 ?_
   rintro r _ ⟨rfl, u', rfl⟩
   refine ⟨[stO g m u' k nx, smO m c es, unO u' (us ++ [rO a q ((A a).sl q)]), mkO k (ks.map mkD)], {p with ss := fV p.ss q}, ⟨rfl, ⟨u', rfl⟩, rfl, his.n, his.w, his.cd, fun k => ?_, fun e he => his.ent e ((eG _ _).subset he), his.nod.sublist ((eG _ _).map _), EO (iR _ _) his.up.len, his.cl⟩, rfl⟩
   show slE (fV p.ss q) k = _
   rw [qL _ _ _ his.nod, his.sl k]
   unfold Ac.slot
   dsimp only
   split <;> rfl
  ·
   have h1 := ou (g := g) (m := m) (c := c) (u := u) (k := k) (n := nx) (ks := ks.map mkD) (b := p.n) (w := p.w) (cd := p.cd) (gs := p.gs) (sc := p.sc) hE (his.sl q) hu (nR (by simpa using hv))
   rw [eY hkm] at h1
   refine FnM.mono h1 ?_
   rintro r _ ⟨rfl, u', rfl⟩
   refine ⟨[stO g m u' k nx, smO m c es, unO u' (us ++ [rO a q ((A a).sl q)]), mkO k (ks.map mkD)], {p with sc := bn p.sc p.ss q, ss := bG p.sc p.ss q (.arr 32 v)}, ⟨rfl, ⟨u', rfl⟩, rfl, his.n, his.w, his.cd, fun k => ?_, fun e he => ?_, dL _ _ _ _ his.nod, EO (dI _ _ _ _) (FZ his.len), his.cl⟩, rfl⟩
   ·
    show slE (bG p.sc p.ss q (.arr 32 v)) k = _
    rw [nP, his.sl k]
    unfold Ac.slot
    dsimp only
    split <;> rfl
   ·
    rcases lN _ _ _ _ _ he with he | he
    · exact his.ent e he
    · exact ⟨v, he, hv⟩
 ·
  by_cases hv : v = zero32
  ·
   subst hv
   have h1 := ng (g := g) (m := m) (c := c) (u := u) (k := k) (n := nx) (ks := ks.map mkD) (q := q) (ss' := fun _ => fV [] q) (sc' := 0) hE hu (fun ga gs => nS)
   rw [eY hkm] at h1
   refine FnM.mono h1 ?_
   rintro r _ ⟨rfl, u', ga, gs, rfl⟩
   rw [hz]
   refine ⟨rfl, u', ⟨ga, 0, zero32, [], gs, 0, []⟩, rfl, rfl, rfl, rfl, fun k => ?_, fun e he => by simp at he, F6, Fa _, Fa _⟩
   unfold Ac.slot Ac.zero
   dsimp only
   split <;> rfl
  ·
   have h1 := ng (g := g) (m := m) (c := c) (u := u) (k := k) (n := nx) (ks := ks.map mkD) (q := q) (ss' := fun _ => bG 0 [] q (.arr 32 v)) (sc' := bn 0 [] q) hE hu (fun ga gs => nR (by simpa using hv))
   rw [eY hkm] at h1
   refine FnM.mono h1 ?_
   rintro r _ ⟨rfl, u', ga, gs, rfl⟩
   rw [hz]
   refine ⟨rfl, u', ⟨ga, 0, zero32, [], gs, bn 0 [] q, bG 0 [] q (.arr 32 v)⟩, rfl, rfl, rfl, rfl, fun k => ?_, fun e he => ?_, dL 0 [] q (.arr 32 v) F6, EO (dI 0 [] q (.arr 32 v)) (by simp), Fa _⟩
   ·
    show slE (bG 0 [] q (.arr 32 v)) k = _
    rw [nP]
    unfold Ac.slot Ac.zero
    dsimp only
    split <;> rfl
   ·
    rcases lN 0 [] q (.arr 32 v) e he with he | he
    · simp at he
    · exact ⟨v, he, hv⟩
theorem yH (ga gs M : Nat) : PA.Is ⟨ga, 0, zero32, [], gs, 0, []⟩ Ac.zero M := ⟨rfl, rfl, rfl, fun k => rfl, fun e he => by simp at he, F6, Fa _, Fa _⟩
theorem CZ (h : MSt g nx H A ks N os) (hN : N < 1099511627776) (hk : ks ≠ []) : FnM 12 [.v (ptr g), .arr 20 a] os (fun r os' => r = .tpl [] ∧ ∃ hy, hy.back (A.upd a Ac.zero) = A ∧ MSt g nx (hy :: H) (A.upd a Ac.zero) ks (N + 1) os') := by
 have hkm : ks.map mkD ≠ [] := by simpa using hk
 obtain ⟨m, c, es, u, k, ps, rfl, hi, hw, hks, hl⟩ := h
 have hul : (H.reverse.map Hy.d).length < 1099511627776 := by rw [Eo, Gu]; omega
 have hup : ∀ h ∈ H, h.ok (N + 1) := fun h hh => (hks h hh).up
 rw [← Ey]
 cases hE : aN es a with
 | some d =>
  obtain ⟨p, hp, rfl, his⟩ := hi.inn a d hE
  obtain ⟨ps1, ps2, rfl⟩ := Gw hp
  have h1 := AZ (g := g) (m := m) (c := c) (u := u) (k := k) (n := nx) (ks := ks.map mkD) hE hul
  rw [eY hkm] at h1
  refine FnM.out ((h1.frame ((ps1 ++ p :: ps2).flatMap PA.os)).apart.frame (H.flatMap Hy.os)) ?_
  rintro r _ ⟨_, ⟨⟨_, ⟨rfl, u', ga', gs', rfl⟩, rfl⟩, hap⟩, rfl⟩
  have hfr := hi.fresh (p' := ⟨ga', 0, zero32, [], gs', 0, []⟩) (es' := bG c es a (.v (ptr ga'))) (x := Ac.zero) (fun b => bQ c es a b _) (dL c es a _ hi.nod) (EO (dI c es a _) (FZ hi.len)) (yH ga' gs' _) (ji (hdr := [stO g m u' k nx, smO m (bn c es a) (bG c es a (.v (ptr ga'))), unO u' (H.reverse.map Hy.d ++ [l9 a (ptr p.g)]), mkO k (ks.map mkD)]) (p' := ⟨ga', 0, zero32, [], gs', 0, []⟩) hap)
  have hne : ga' ≠ p.g := fun e => (ji (hdr := [stO g m u' k nx, smO m (bn c es a) (bG c es a (.v (ptr ga'))), unO u' (H.reverse.map Hy.d ++ [l9 a (ptr p.g)]), mkO k (ks.map mkD)]) (p' := ⟨ga', 0, zero32, [], gs', 0, []⟩) hap) p (by simp) e.symm
  have hdr : gZ (bG c es a (.v (ptr ga'))) ((⟨ga', 0, zero32, [], gs', 0, []⟩ :: ps1) ++ ps2) (A.upd a Ac.zero) (N + 1) := gZ.drop (p := p) hfr fun b hb => by
   rw [bQ] at hb
   by_cases e : a = b
   ·
    rw [if_pos e] at hb
    exact hne (by injection hb with hb; injection hb with hb; injection hb with hb; injection hb with hb; injection hb)
   ·
    rw [if_neg e] at hb
    exact e (hi.inj a b _ hE hb)
  refine ⟨_, ?_, rfl, .all a p, Aa his, m, bn c es a, bG c es a (.v (ptr ga')), u', k, (⟨ga', 0, zero32, [], gs', 0, []⟩ :: ps1) ++ ps2, rfl, hdr, ⟨(by
   show (aN (bG c es a (.v (ptr ga'))) a).isSome = true
   rw [bQ, if_pos rfl]
   rfl), hw.mono fun b hb => (by
   rw [bQ]
   split
   · rfl
   · exact hb)⟩, fun h hh => ?_, by rw [E8]; omega⟩
  ·
   rw [jh, FX]
   show List.Perm _ ([stO g m u' k nx, smO m (bn c es a) (bG c es a (.v (ptr ga'))), unO u' (H.reverse.map Hy.d ++ [l9 a (ptr p.g)]), mkO k (ks.map mkD)] ++ ((((⟨ga', 0, zero32, [], gs', 0, []⟩ : PA) :: ps1) ++ ps2).flatMap PA.os ++ (p.os ++ H.flatMap Hy.os)))
   have hp2 : (((⟨ga', 0, zero32, [], gs', 0, []⟩ : PA) :: ps1 ++ p :: ps2).flatMap PA.os).Perm (p.os ++ (((⟨ga', 0, zero32, [], gs', 0, []⟩ : PA) :: ps1) ++ ps2).flatMap PA.os) := kK _ _ p
   have hp3 := (hp2.trans Fj).append_right (H.flatMap Hy.os)
   have hp4 := hp3.append_left [stO g m u' k nx, smO m (bn c es a) (bG c es a (.v (ptr ga'))), unO u' (H.reverse.map Hy.d ++ [l9 a (ptr p.g)]), mkO k (ks.map mkD)]
   rw [Ey] at hp4
   refine List.Perm.trans ?_ hp4
   refine List.Perm.of_eq ?_
   simp [PA.os]
  ·
   rcases Es.1 hh with rfl | hh
   ·
    have := his.up
    show p.Is (absP p) (N + 1)
    rw [xC his]
    exact this
   · exact hup h hh
 | none =>
  have h1 := zi (g := g) (m := m) (c := c) (u := u) (k := k) (n := nx) (ks := ks.map mkD) hE hul
  rw [eY hkm] at h1
  refine FnM.mono ((h1.frame (ps.flatMap PA.os)).apart.frame (H.flatMap Hy.os)) ?_
  rintro r _ ⟨_, ⟨⟨_, ⟨rfl, u', ga, ga', gs', rfl⟩, rfl⟩, hap⟩, rfl⟩
  have hget : ∀ b, aN (bG (bn c es a) (bG c es a (.v (ptr ga))) a (.v (ptr ga'))) b = if a = b then some (.v (ptr ga')) else aN es b := fun b => by
   rw [bQ, bQ]
   split <;> rfl
  refine ⟨rfl, .non a, zZ (hi.out a hE), m, bn (bn c es a) (bG c es a (.v (ptr ga))) a, bG (bn c es a) (bG c es a (.v (ptr ga))) a (.v (ptr ga')), u', k, ⟨ga', 0, zero32, [], gs', 0, []⟩ :: ps, ?_, hi.fresh (p' := ⟨ga', 0, zero32, [], gs', 0, []⟩) hget (dL _ _ a _ (dL c es a _ hi.nod)) ?_ (yH ga' gs' _) (ji (hdr := [stO g m u' k nx, smO m (bn (bn c es a) (bG c es a (.v (ptr ga))) a) (bG (bn c es a) (bG c es a (.v (ptr ga))) a (.v (ptr ga'))), unO u' (H.reverse.map Hy.d ++ [l9 a (.pointer none)]), mkO k (ks.map mkD)]) (p' := ⟨ga', 0, zero32, [], gs', 0, []⟩) hap), ⟨(by
   show (aN (bG (bn c es a) (bG c es a (.v (ptr ga))) a (.v (ptr ga'))) a).isSome = true
   rw [hget, if_pos rfl]
   rfl), hw.mono fun b hb => ⟨fun e => (by
   subst e
   rw [hE] at hb
   cases hb), (by
   show (aN (bG (bn c es a) (bG c es a (.v (ptr ga))) a (.v (ptr ga'))) b).isSome = true
   rw [hget]
   split
   · rfl
   · exact hb)⟩⟩, fun h hh => ?_, by rw [E8]; omega⟩
  ·
   rw [jh, FX, FX]
   simp only [Ey]
   rfl
  ·
   unfold bG
   rw [if_pos]
   ·
    have h1 := congrArg List.length (iZ (if jo es a = true then jE es a (.v (ptr ga)) else es ++ [(c, a, .v (ptr ga))]) a (.v (ptr ga')))
    have h2 := dI c es a (.v (ptr ga))
    unfold bG at h2
    simp only [Eo] at h1
    have := hi.len
    omega
   ·
    have := bQ c es a a (.v (ptr ga))
    unfold bG at this
    rw [jR, this, if_pos rfl]
    rfl
  ·
   rcases Es.1 hh with rfl | hh
   · exact trivial
   · exact hup h hh
theorem CY (h : MSt g nx H A ks N os) (hN : N < 1099511627776) (h0 : 0 ≤ nx) (h1 : nx < 1099511627776) (hk : ks.length < 1099511627776) : FnM 7 [.v (ptr g)] os (fun r os' => r = .val (.v (.int .i64 (nx + 1))) ∧ MSt g (nx + 1) H A (ks ++ [(nx + 1, (H.length : Int))]) N os') := by
 obtain ⟨m, c, es, u, k, ps, rfl, hi, hw, hks, hl⟩ := h
 have hm := BJ (g := g) (m := m) (u := u) (k := k) (n := nx) (us := H.reverse.map Hy.d) (ks := ks.map mkD) h0 (by omega) (by rw [Eo]; exact hk)
 have hm2 := ((hm.frame [smO m c es]).pick [0, 3, 1, 2] rfl (by decide)).frame (ps.flatMap PA.os ++ H.flatMap Hy.os)
 refine FnM.out hm2 ?_
 rintro r _ ⟨_, ⟨_, ⟨rfl, k', rfl⟩, rfl⟩, rfl⟩
 refine ⟨[stO g m u k' (nx + 1), smO m c es, unO u (H.reverse.map Hy.d), mkO k' (ks.map mkD ++ [mkD (nx + 1, ((H.reverse.map Hy.d).length : Int))])] ++ (ps.flatMap PA.os ++ H.flatMap Hy.os), (iD (os := [stO g m u k' (nx + 1), unO u (H.reverse.map Hy.d), mkO k' (ks.map mkD ++ [mkD (nx + 1, ((H.reverse.map Hy.d).length : Int))]), smO m c es]) [0, 3, 1, 2] rfl (by decide)).append_right _, rfl, m, c, es, u, k', ps, ?_, hi, hw, hks, hl⟩
 rw [FI, Eo, Gu]
 rfl
theorem oL (h : MSt g nx H A ks N os) (hN : N ≤ 1000000) : FnM 8 [.v (ptr g)] os (fun r os' => (∃ L, Canon A L ∧ L.length ≤ N ∧ (∀ x ∈ L, x.sl.length ≤ N) ∧ r = .val (.sl 55 (L.map dX))) ∧ os' = os) := by
 obtain ⟨m, c, es, u, k, ps, rfl, hi, hw, hks, hl⟩ := h
 have h1 := (yD (g := g) (m := m) (c := c) (u := u) (k := k) (n := nx) (us := H.reverse.map Hy.d) (ks := ks.map mkD) hi hN).frame (H.flatMap Hy.os)
 refine FnM.mono h1 ?_
 rintro r _ ⟨_, ⟨hr, rfl⟩, rfl⟩
 exact ⟨hr, rfl⟩
end
end E
end Go.Proofs.Ytkhjanjlcdhdcaa
