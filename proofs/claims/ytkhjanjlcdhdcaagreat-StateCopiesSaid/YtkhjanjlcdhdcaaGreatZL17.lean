/-
 Merged: lemmas of this claim.
 Conditions: none.
-/
import Derived.Test.YtkhjanjlcdhdcaaGreatZL16
import Derived.Test.YtkhjanjlcdhdcaaGreatZL13
import Derived.Test.YtkhjanjlcdhdcaaGreatZL6
import Derived.Test.YtkhjanjlcdhdcaaGreatZL7
import Derived.Test.YtkhjanjlcdhdcaaGreatZL14
import Derived.Test.YtkhjanjlcdhdcaaGreatZL12
import Derived.Test.YtkhjanjlcdhdcaaGreatZL0
namespace Go.Proofs.YtkhjanjlcdhdcaaGreat
set_option linter.unusedVariables false
set_option maxRecDepth 20000
set_option maxHeartbeats 16000000
open Go.RowKit Mono Rlp Wd Go.Sort
namespace E
theorem DF : ∀ args w, (callFunc 40 args).run Tryz.prog w = .ok (.enter 40 args) w := enters_of Tryz.func40 (by kernel_rfl) rfl
theorem DC : ∀ args w, (callFunc 45 args).run Tryz.prog w = .ok (.enter 45 args) w := enters_of Tryz.func45 (by kernel_rfl) rfl
theorem oJ {l rest p rest2 : List Obj} (h : rest.Perm (p ++ rest2)) : (l ++ rest).Perm (p ++ (l ++ rest2)) := by
 refine (Oc l h).trans ?_
 rw [← KR, ← KR]
 exact NZ _ KY
theorem DR {g m c M : Nat} {es : List Ent} {u k : Value} {n : Int} {us ks : List D} {ps : List PA} {A : As} (hi : jX es ps A M) (hM : M ≤ 1000000) : FnM 14 [.v (ptr g)] (stO g m u k n :: smO m c es :: unO u us :: mkO k ks :: ps.flatMap PA.os) (fun r os' => (∃ L, Canon A L ∧ L.length ≤ M ∧ (∀ x ∈ L, x.sl.length ≤ M) ∧ r = .val (.sl 55 (L.map aI))) ∧ os' = stO g m u k n :: smO m c es :: unO u us :: mkO k ks :: ps.flatMap PA.os) := by
 have hlen := hi.len
 have h1 := Dn m
 have h2 := fun gk => yj 40 FM DF gk m c es (by omega)
 have hKl : (sortL (es.map (·.2.1))).length = es.length := by rw [(ig _).length_eq, KG]
 have hKm : ∀ a, a ∈ sortL (es.map (·.2.1)) ↔ a ∈ es.map (·.2.1) := fun a => (ig _).mem_iff
 have hKo := yu hi.nod
 have hKc : ∀ a, A a ≠ Ac.zero → a ∈ sortL (es.map (·.2.1)) := fun a ha => (hKm a).2 (LU fun hn => ha (hi.out a ((iP _ _).2 hn)))
 generalize hrest : ps.flatMap PA.os = rest
 generalize sortL (es.map (·.2.1)) = K at h2 hKl hKm hKo hKc
 have hml : (K.map (D.arr 20)).length = K.length := KG _
 refine FnM.walk 75 Tryz.func14 rfl Tryz.ntmps14 (by simp) fun X => ?_
 repeat
  (first
   | (apply dM (os := []) h1; (iterate 2 rfl); exact au.refl _ _; (focus (intro _ _; simp [go_sem]; done)); (iterate 2 rfl); rintro _ _ ⟨gk, rfl, rfl⟩)
   | (apply aB; iterate 3 rfl) | (apply ak; iterate 3 rfl) | (apply aH; iterate 6 rfl) | (apply aF; rfl; exact I.a; iterate 4 rfl)
   | (apply aY; iterate 3 rfl) | apply EL.nil | (with_reducible first | apply EK.nc | apply EC.seq | apply EC.r0))
 refine EL.le (Le.qR [0, 2, 1, 3, 4] [_, _, _, _, _] [_, _, _, _, _] (rest) rfl rfl (by decide) rfl) ?_
 try simp only [Kr, Kt]
 repeat
  (first
   | (apply dM (os := [.var gk 52 (.v (.map (some m))), smO m c es]) (h2 gk); (iterate 2 rfl); exact au.refl _ _; (focus (intro _ _; simp [go_sem]; done)); (iterate 2 rfl); rintro _ _ ⟨kv, rfl, rfl⟩; refine EL.le (Le.freeze (pre := []) rfl) ?_; refine EL.le (Le.refine (t := 15) (d' := .sl 20 (K.map (D.arr 20))) rfl (Rf.fact (by simp) rfl)) ?_; simp only [Kt])
   | (apply aB; iterate 3 rfl) | (apply aU; iterate 4 rfl) | apply EL.nil | ((with_reducible apply EK.h0); apply EK.code) | (with_reducible apply EC.b0))
 refine EC.le (Le.qR [2, 1, 3, 4, 0] [_, _, _, _, _] [_, _, _, _, _] (rest) rfl rfl (by decide) rfl) ?_
 try simp only [Kr, Kt]
 refine EC.le (Le.row 51 55) ?_
 refine EC.loop (ι := {x : Nat × List AcL × Value // x.1 ≤ K.length ∧ CU A (K.take x.1) x.2.1 ∧ x.2.1.length ≤ x.1 ∧ ∀ y ∈ x.2.1, y.sl.length ≤ M})
  (fun x => ⟨[(17, .val (.v (.int .i64 (x.1.1 : Int)))), (16, .val (.v (.int .i64 (K.map (D.arr 20)).length))), (15, .val (.sl 20 (K.map (D.arr 20)))), (3, .val (.v x.1.2.2)), (0, .val (.v (ptr g)))], .row x.1.2.2 51 55 (x.1.2.1.map aI) :: stO g m u k n :: smO m c es :: unO u us :: mkO k ks :: rest, []⟩)
  (fun x => K.length - x.1.1) ⟨(0, [], dF), Lj _, CU.nil, KW _, fun y hy => by simp at hy⟩ ?_ ?_
 · exact (Le.keep (by repeat first | exact trivial | refine ⟨rfl, ?_⟩) (by repeat first | exact KQ _ | apply List.Sublist.cons_cons | apply List.Sublist.cons) (by simp))
 rintro ⟨⟨i, L, v⟩, hiK, hCU, hLl, hsl⟩
 dsimp only at hiK hCU hLl hsl ⊢
 by_cases hlt : i < K.length
 ·
  have hd : (K.map (D.arr 20))[i]? = some (D.arr 20 K[i]) := by rw [List.getElem?_map, KA hlt]; rfl
  obtain ⟨d, hge⟩ := vF ((hKm K[i]).1 (LH hlt))
  obtain ⟨p, hp, rfl, his⟩ := hi.inn _ _ hge
  obtain ⟨ps1, ps2, rfl⟩ := List.append_of_mem hp
  have hg : (bC es K[i]).getD (.v (.pointer none)) = .v (ptr p.g) := by rw [hge]; rfl
  have hperm : rest.Perm (p.os ++ (ps1 ++ ps2).flatMap PA.os) := hrest ▸ qw ps1 ps2 p
  generalize hrest2 : (ps1 ++ ps2).flatMap PA.os = rest2 at hperm
  have hsp := his.list K[i]
  have hse := his.sl
  have hempty := his.nS
  have hem := empty_ p
  obtain ⟨pg, pn, pw, pc, pgs, psc, pss⟩ := p
  dsimp only at hg hsp hse
  refine EC.le (Le.perm (oJ (l := [.row v 51 55 (L.map aI), stO g m u k n, smO m c es, unO u us, mkO k ks]) hperm)) ?_
  simp only [PA.os, Kr, Kt]
  repeat
   (first
    | (apply bP; iterate 5 rfl) | (apply aC (b := true); (iterate 2 rfl); exact aN; iterate 2 rfl)
    | (apply dh; (iterate 4 rfl); exact ixA; iterate 2 rfl)
    | (apply bW; rfl; rfl; rfl; intro _) | (apply aO; rfl; exact saA; iterate 4 rfl) | apply EL.nil
    | (apply EC.t0; rfl) | (with_reducible first | apply EK.nc | apply EC.seq | apply EC.r0 | apply EC.k0 | apply EC.b0))
  rename_i g5
  refine EC.draw 6 (by kernel_rfl) ?_
  simp only [Kv, Kz, Ku, Kw]
  repeat
   (first
    | (apply eu; exact hg; rfl; (first | exact I0 | exact I1 | exact I2 | exact I3 | exact I4 | exact I5); iterate 5 rfl) | (apply aJ; iterate 3 rfl)
    | (apply aW; iterate 6 rfl) | (apply aG; rfl; exact I.a; iterate 4 rfl) | (apply bg; iterate 3 rfl) | ((with_reducible apply EH.nil); rfl))
  cases hpe : PA.empty ⟨pg, pn, pw, pc, pgs, psc, pss⟩ with
  | true =>
   rw [hpe] at hem
   repeat
    (first
     | (apply bD hem [_] _ rfl rfl (au.refl _ _) (by intro _ _; simp [go_sem]) rfl rfl; rintro _ _ ⟨rfl, rfl⟩; simp only [PA.os, Kr, Kt])
     | (apply aB; iterate 3 rfl) | (apply ak; iterate 3 rfl) | (apply dQ; (iterate 3 rfl); (focus omega); (focus omega); iterate 2 rfl) | apply EL.nil
     | (apply EC.t0; rfl)
     | (with_reducible first | apply EK.nc | apply EC.seq | apply EC.r0 | apply EC.x0 | apply EK.s0 | apply EK.ah))
   refine EK.le (Le.perm ((oJ (l := [.row v 51 55 (L.map aI), stO g m u k n, smO m c es, unO u us, mkO k ks]) hperm).symm.cons _)) ?_
   refine EK.again ⟨(i + 1, L, v), hlt, ?_, NK hLl, hsl⟩ (by dsimp only; omega) ?_
   ·
    rw [LG hlt]
    exact hCU.skip (hempty.1 hpe)
   ·
    simp only [Ls, Kr, Kt]
    exact (Le.keep (by repeat first | exact trivial | refine ⟨rfl, ?_⟩) (by repeat first | exact KQ _ | apply List.Sublist.cons_cons | apply List.Sublist.cons) (by simp))
  | false =>
   rw [hpe] at hem
   repeat
    (first
     | (apply bD hem [_] _ rfl rfl (au.refl _ _) (by intro _ _; simp [go_sem]) rfl rfl; rintro _ _ ⟨rfl, rfl⟩; simp only [PA.os, Kr, Kt])
     | (apply aB; iterate 3 rfl) | (apply ak; iterate 3 rfl) | apply EL.nil | (apply EC.f0; rfl)
     | (with_reducible first | apply EK.nc | apply EC.seq | apply EC.r0 | apply EC.k0))
   have hcl := CB pc his.cl
   refine EC.draw 16 (by kernel_rfl) ?_
   simp only [Kv, Kz, Ku, Kw]
   repeat
    (first
     | (apply bV (hcl); rfl; exact au.refl _ _; exact enA; iterate 2 rfl) | (apply aJ; iterate 3 rfl) | (apply aW; iterate 6 rfl)
     | (apply aG; rfl; exact I.a; iterate 4 rfl) | (apply dR; iterate 7 rfl) | (apply bg; iterate 3 rfl) | (apply rQ; iterate 3 rfl)
     | ((with_reducible apply EH.Ey); rfl; intro _))
   have hpl := his.len
   dsimp only at hpl
   have h3 := Dl pgs
   have h4 := fun gk => yh 45 FK DC gk pgs psc pss (by omega)
   have hK2l : (sortL (pss.map (·.2.1))).length = pss.length := by rw [(ig _).length_eq, KG]
   have hsx : slots (A K[i]) pss = (sortL (pss.map (·.2.1))).map fun k => (k, (A K[i]).sl k) := rfl
   generalize sortL (pss.map (·.2.1)) = K2 at h4 hK2l hsx
   have hm2 : (K2.map (D.arr 32)).length = K2.length := KG _
   rename_i gy
   repeat
    (first
     | (apply dM (os := []) h3; (iterate 2 rfl); exact au.refl _ _; (focus (intro _ _; simp [go_sem]; done)); (iterate 2 rfl); rintro _ _ ⟨gk2, rfl, rfl⟩; refine EL.le (Le.qR [0, 4, 1, 2, 3] [_, _, _, _, _] [_, _, _, _, _] _ rfl rfl (by decide) rfl) ?_; simp only [Kr, Kt]; apply dM (os := [.var gk2 59 (.v (.map (some pgs))), .map pgs 32 psc pss]) (h4 gk2); (iterate 2 rfl); exact au.refl _ _; (focus (intro _ _; simp [go_sem]; done)); (iterate 2 rfl); rintro _ _ ⟨kv2, rfl, rfl⟩; refine EL.le (Le.freeze (pre := []) rfl) ?_; refine EL.le (Le.refine (t := 49) (d' := .sl 32 (K2.map (D.arr 32))) rfl (Rf.fact (by simp) rfl)) ?_; simp only [Kt])
     | (apply aB; iterate 3 rfl) | (apply aH; iterate 6 rfl) | (apply aF; rfl; exact I.a; iterate 4 rfl) | (apply aU; iterate 4 rfl)
     | (apply aY; iterate 3 rfl) | (apply aO; rfl; exact saA; iterate 4 rfl) | apply EL.nil
     | (with_reducible first | apply EK.nc | apply EC.seq | apply EC.r0 | apply EC.b0))
   refine EC.le (Le.qR [2, 1, 4, 0, 3] [_, _, _, _, _] [_, _, _, _, _] (_) rfl rfl (by decide) rfl) ?_
   try simp only [Kr, Kt]
   refine EC.le (Le.row 63 64) ?_
   refine EC.loop (ι := {x : Nat × Value // x.1 ≤ K2.length})
    (fun x => ⟨[(51, .val (.v (.int .i64 (x.1.1 : Int)))), (50, .val (.v (.int .i64 (K2.map (D.arr 32)).length))), (49, .val (.sl 32 (K2.map (D.arr 32)))), (17, .val (.v (.int .i64 (i : Int)))), (16, .val (.v (.int .i64 (K.map (D.arr 20)).length))), (15, .val (.sl 20 (K.map (D.arr 20)))), (7, .val (.v (ptr gy))), (6, .val (.v (ptr pg))), (3, .val (.v v)), (0, .val (.v (ptr g)))],
     .row x.1.2 63 64 ((K2.take x.1.1).map fun k => aZ (k, (A K[i]).sl k)) :: .var gy 51 (.tup [.arr 20 K[i], .v (.int .i64 pn), .arr 32 pw, .bs pc, .v x.1.2]) :: .map pgs 32 psc pss :: acO pg pn pw pc (.map (some pgs)) :: .row v 51 55 (L.map aI) :: stO g m u k n :: smO m c es :: unO u us :: mkO k ks :: rest2, []⟩)
    (fun x => K2.length - x.1.1) ⟨(0, dF), Lj _⟩ ?_ ?_
   · exact (Le.keep (by repeat first | exact trivial | refine ⟨rfl, ?_⟩) (by repeat first | exact KQ _ | apply List.Sublist.cons_cons | apply List.Sublist.cons) (by simp))
   rintro ⟨⟨j, sv⟩, hjK⟩
   dsimp only at hjK ⊢
   by_cases hlj : j < K2.length
   ·
    have hd2 : (K2.map (D.arr 32))[j]? = some (D.arr 32 K2[j]) := by rw [List.getElem?_map, KA hlj]; rfl
    have hg2 : (bC pss K2[j]).getD (.arr 32 zero32) = .arr 32 ((A K[i]).sl K2[j]) := hse K2[j]
    repeat
     (first
      | (apply bP; iterate 5 rfl) | (apply aC (b := true); (iterate 2 rfl); exact aN; iterate 2 rfl)
      | (apply dh; (iterate 4 rfl); exact ixA; iterate 2 rfl)
      | (apply bW; rfl; rfl; rfl; intro _) | (apply aO; rfl; exact saA; iterate 4 rfl) | apply EL.nil
      | (apply EC.t0; rfl) | (with_reducible first | apply EK.nc | apply EC.seq | apply EC.r0 | apply EC.k0 | apply EC.b0))
    rename_i g9
    refine EC.le (Le.qR [1, 0] [_, _] [_, _] (_) rfl rfl (by decide) rfl) ?_
    try simp only [Kr, Kt]
    refine EC.dL 12 [0, 1, 2, 3, 4, 5, 6, 7, 8, 9] [10, 11] [_] _ (by kernel_rfl) (by kernel_rfl) rfl ?_
    simp only [aQ, KJ, KN, KD, KF]
    repeat
     (first
      | (apply eu; exact hg2; rfl; (first | exact I0 | exact I1 | exact I2 | exact I3 | exact I4 | exact I5); iterate 5 rfl) | (apply aJ; iterate 3 rfl)
      | (apply aW; iterate 6 rfl) | (apply aG; rfl; exact I.a; iterate 4 rfl) | (apply dR; iterate 7 rfl) | (apply bg; iterate 3 rfl))
    refine EM.nil ?_
    repeat (first | rw [Kr] | rw [Kt])
    refine CH.cut 1 ?_
    simp only [Kv, Kz, Ku, Kw]
    repeat
     (first
      | (apply CS; iterate 9 rfl))
    refine EM.nil ?_
    repeat (first | rw [Kr] | rw [Kt])
    have hl3 : ((K2.take j).map fun k => aZ (k, (A K[i]).sl k)).length = j := by rw [KG, LD]; omega
    refine CH.mut (os := [_]) (rest := []) rfl rfl (jc rfl rfl rfl rfl rfl ?_) ?_
    ·
     rw [hl3]
     constructor <;> (simp; omega)
    rintro _ _ ⟨sv', rfl, rfl⟩
    try simp only [St.put]
    repeat (first | rw [Kr] | rw [Kt])
    refine CH.nil ?_
    try simp only [Ku, Kw]
    repeat
     (first
      | (apply aB; iterate 3 rfl) | (apply aH; iterate 6 rfl) | (apply dQ; (iterate 3 rfl); (focus omega); (focus omega); iterate 2 rfl)
      | (apply aO; rfl; exact saA; iterate 4 rfl) | apply EL.nil
      | (with_reducible first | apply EK.nc | apply EC.r0 | apply EK.n0))
    refine EK.again ⟨(j + 1, sv'), hlj⟩ (by dsimp only; omega) ?_
    have htk : (K2.take (j + 1)).map (fun k => aZ (k, (A K[i]).sl k)) = (K2.take j).map (fun k => aZ (k, (A K[i]).sl k)) ++ [aZ (K2[j], (A K[i]).sl K2[j])] := by rw [LG hlj, L8]; rfl
    dsimp only
    rw [htk]
    simp only [Ls]
    exact (Le.keep (by repeat first | exact trivial | refine ⟨rfl, ?_⟩) (by repeat first | exact KQ _ | apply List.Sublist.cons_cons | apply List.Sublist.cons) (by simp))
   ·
    have hjE : j = K2.length := by omega
    subst hjE
    refine EC.le (Le.freeze (pre := []) rfl) ?_
    simp only [Kt]
    refine EC.le (Le.Aa (d' := .tup [.arr 20 K[i], .v (.int .i64 pn), .arr 32 pw, .bs pc, .sl 64 ((K2.take K2.length).map fun k => aZ (k, (A K[i]).sl k))]) (Rf.tup (RL.cons Rf.same (RL.cons Rf.same (RL.cons Rf.same (RL.cons Rf.same (RL.cons (Rf.fact (by simp) rfl) RL.nil))))))) ?_
    repeat
     (first
      | (apply aB; iterate 3 rfl) | (apply ak; iterate 3 rfl) | (apply aF; rfl; exact I.a; iterate 4 rfl)
      | (apply aC (b := false); (iterate 2 rfl); exact aN; iterate 2 rfl) | (apply dQ; (iterate 3 rfl); (focus omega); (focus omega); iterate 2 rfl)
      | (apply kM; iterate 9 rfl)
      | ((apply dP; rfl; exact saA; (iterate 5 rfl); (focus (constructor <;> (first | (simp; done) | (simp; omega))))); intro _)
      | apply EL.nil | (apply EC.f0; rfl)
      | (with_reducible first | apply EK.nc | apply EC.seq | apply EC.r0 | apply EC.x0 | apply EK.n0 | apply EK.s0 | apply EK.ah))
    rename_i v'
    refine EK.le (Le.qR [0, 2, 1] [_, _, _] [_, _, _] (_) rfl rfl (by decide) rfl) ?_
    try simp only [Kr, Kt]
    refine EK.le (Le.perm ((oJ (l := [.row v' 51 55 (L.map aI ++ [.tup [.arr 20 K[i], .v (.int .i64 pn), .arr 32 pw, .bs pc, .sl 64 ((K2.take K2.length).map fun k => aZ (k, (A K[i]).sl k))]]), stO g m u k n, smO m c es, unO u us, mkO k ks]) hperm).symm.cons _)) ?_
    have hne : A K[i] ≠ Ac.zero := fun e => by
     have := hempty.2 e
     rw [hpe] at this
     cases this
    refine EK.again ⟨(i + 1, L ++ [⟨K[i], pn, pw, pc, slots (A K[i]) pss⟩], v'), hlt, ?_, ?_, ?_⟩ (by dsimp only; omega) ?_
    ·
     rw [LG hlt]
     refine hCU.take hsp hne fun b hb => ?_
     obtain ⟨j, hj, rfl⟩ := Ox hb
     rw [LD] at hj
     rw [List.getElem_take]
     exact NR.1 hKo j i (by omega) hlt (by omega)
    ·
     simp
     omega
    ·
     intro y hy
     rcases Lm.1 hy with hy | hy
     · exact hsl y hy
     ·
      obtain rfl : y = _ := by simpa using hy
      show (slots (A K[i]) pss).length ≤ M
      rw [hsx, KG, hK2l]
      exact hpl
    have hmp : (L ++ [(⟨K[i], pn, pw, pc, slots (A K[i]) pss⟩ : AcL)]).map aI = L.map aI ++ [.tup [.arr 20 K[i], .v (.int .i64 pn), .arr 32 pw, .bs pc, .sl 64 ((K2.take K2.length).map fun k => aZ (k, (A K[i]).sl k))]] := by
     rw [L8, MS]
     simp only [Lc, MB, aI]
     rw [hsx, Me]
     rfl
    dsimp only
    rw [hmp]
    simp only [Ls, Kr, Kt]
    exact (Le.keep (by repeat first | exact trivial | refine ⟨rfl, ?_⟩) (by repeat first | exact KQ _ | apply List.Sublist.cons_cons | apply List.Sublist.cons) (by simp))
 ·
  have hiE : i = K.length := by omega
  subst hiE
  repeat
   (first
    | (apply aB; iterate 3 rfl) | (apply ak; iterate 3 rfl) | (apply aC (b := false); (iterate 2 rfl); exact aN; iterate 2 rfl) | apply EL.nil
    | (apply EC.f0; rfl)
    | (with_reducible first | apply EK.nc | apply EC.seq | apply EC.r0 | apply EC.x0 | apply EC.ret | apply EK.s0 | apply EK.ah))
  refine EK.le (Le.freeze (pre := []) rfl) ?_
  refine EK.IX (stO g m u k n :: smO m c es :: unO u us :: mkO k ks :: rest) rfl rfl (RL.cons (Rf.fact (by simp) rfl) RL.nil) (by repeat first | exact KQ _ | apply List.Sublist.cons_cons | apply List.Sublist.cons) ⟨⟨L, ?_, by omega, hsl, rfl⟩, rfl⟩
  rw [MS] at hCU
  exact hCU.canon hKc
def slF (sl : List (List UInt8 × List UInt8)) : List UInt8 → List UInt8 := sl.foldl (fun f p => fun k => if p.1 = k then p.2 else f k) fun _ => zero32
def AcL.take (x : AcL) : Ac := ⟨if x.n > 0 then x.n else 0, x.w, x.cd, slF x.sl⟩
def kT (l : List AcL) : As := l.foldl (fun A x => A.upd x.a x.take) fun _ => Ac.zero
theorem uX (l : List AcL) (x : AcL) : kT (l ++ [x]) = (kT l).upd x.a x.take := by unfold kT; rw [List.foldl_append]; rfl
theorem Ea (l : List (List UInt8 × List UInt8)) (p : List UInt8 × List UInt8) : slF (l ++ [p]) = fun k => if p.1 = k then p.2 else slF l k := by unfold slF; rw [List.foldl_append]; rfl
structure DT (ss : List Ent) (f : List UInt8 → List UInt8) (N : Nat) : Prop where
 sl : ∀ k, slE ss k = .arr 32 (f k)
 ent : ∀ e ∈ ss, ∃ v, e.2.2 = .arr 32 v ∧ v ≠ zero32
 nod : (ss.map (·.2.1)).Nodup
 len : ss.length ≤ N
theorem DT.nil : DT [] (slF []) 0 := ⟨fun k => rfl, fun e he => by simp at he, MI, KW _⟩
theorem set_any {ga gs sc N : Nat} {b : Int} {w cd : List UInt8} {ss : List Ent} {f : List UInt8 → List UInt8} (h : DT ss f N) (q v : List UInt8) : FnM 19 [.v (ptr ga), .arr 32 q, .arr 32 v] [acO ga b w cd (.map (some gs)), .map gs 32 sc ss] (fun r os' => r = .tpl [] ∧ ∃ sc' ss', DT ss' (fun k => if q = k then v else f k) (N + 1) ∧ os' = [acO ga b w cd (.map (some gs)), .map gs 32 sc' ss']) := by
 by_cases hv : v = zero32
 ·
  subst hv
  refine FnM.mono wM ?_
  rintro r _ ⟨rfl, rfl⟩
  refine ⟨rfl, sc, _, ⟨fun k => ?_, fun e he => h.ent e ((iG _ _).subset he), h.nod.sublist ((iG _ _).map _), Ll (qZ _ _) (NK h.len)⟩, rfl⟩
  rw [Bz _ _ _ h.nod, h.sl k]
  split <;> rfl
 ·
  refine FnM.mono (wL (by simpa using hv)) ?_
  rintro r _ ⟨rfl, rfl⟩
  refine ⟨rfl, _, _, ⟨fun k => ?_, fun e he => ?_, gq _ _ _ _ h.nod, Ll (gu _ _ _ _) (Nh h.len)⟩, rfl⟩
  ·
   rw [wI, h.sl k]
   split <;> rfl
  ·
   rcases tq _ _ _ _ _ he with he | he
   · exact h.ent e he
   · exact ⟨v, he, hv⟩
theorem EK.apart {N : Nat} {X : Cx N} {K : Act → World → Prop} {S : St} (h : Apart S.objs → EK X K S) : EK X K S := ⟨fun a w ha => (h ha.mem.apart).go a w ha⟩
theorem Ik (l : List AcL) (B : Nat) (hll : l.length ≤ 1000000) (hB : ∀ x ∈ l, x.sl.length ≤ B ∧ x.cd.length ≤ 140737488355328) (hB2 : B ≤ 1000000) : FnM 6 [.sl 55 (l.map aI)] [] (fun r os' => ∃ g m c es ps, r = .val (.v (ptr g)) ∧ os' = psO g m c es dF dF 0 [] ps ∧ jX es ps (kT l) (B + l.length)) := by
 have hml : (l.map aI).length = l.length := KG _
 refine FnM.walk 52 Tryz.func6 rfl Tryz.ntmps6 (by simp) fun X => ?_
 repeat
  (first
   | (apply aB; iterate 3 rfl) | (apply ak; iterate 3 rfl) | (apply aU; iterate 4 rfl) | (apply jo; iterate 7 rfl)
   | (apply vZ; rfl; rfl; rfl; intro _) | (apply aV; rfl; rfl; rfl; intro _) | apply EL.nil
   | (with_reducible first | apply EK.nc | apply EC.seq | apply EC.r0 | apply EC.b0))
 rename_i m g
 refine EC.loop (ι := {x : Nat × Nat × List Ent × List PA // x.1 ≤ l.length ∧ jX x.2.2.1 x.2.2.2 (kT (l.take x.1)) (B + x.1)})
  (fun x => ⟨[(14, .val (.v (.int .i64 (x.1.1 : Int)))), (13, .val (.v (.int .i64 (l.map aI).length))), (12, .val (.sl 55 (l.map aI))), (3, .val (.v (ptr g)))], stO g m dF dF 0 :: smO m x.1.2.1 x.1.2.2.1 :: x.1.2.2.2.flatMap PA.os, []⟩)
  (fun x => l.length - x.1.1) ⟨(0, 0, [], []), Lj _, ⟨fun a h => rfl, fun a d h => by simp [bC] at h, fun a b d h => by simp [bC] at h, MI, Lj _⟩⟩ ?_ ?_
 · exact (Le.keep (by repeat first | exact trivial | refine ⟨rfl, ?_⟩) (by repeat first | exact KQ _ | apply List.Sublist.cons_cons | apply List.Sublist.cons) (by simp))
 rintro ⟨⟨i, c, es, ps⟩, hil, hi⟩
 dsimp only at hil hi ⊢
 by_cases hlt : i < l.length
 ·
  have hd : (l.map aI)[i]? = some (aI l[i]) := by rw [List.getElem?_map, KA hlt]; rfl
  have hBi := hB l[i] (LH hlt)
  have htk : l.take (i + 1) = l.take i ++ [l[i]] := LG hlt
  generalize l[i] = x at hd hBi htk
  obtain ⟨xa, xn, xw, xc, xs⟩ := x
  unfold aI at hd
  dsimp only at hd hBi
  have hcl := CB xc hBi.2
  repeat
   (first
    | (apply bP; iterate 5 rfl) | (apply aC (b := true); (iterate 2 rfl); exact aN; iterate 2 rfl)
    | (apply dh; (iterate 4 rfl); exact ixA; iterate 2 rfl)
    | (apply bW; rfl; rfl; rfl; intro _) | (apply aO; rfl; exact saA; iterate 4 rfl) | apply EL.nil
    | (apply EC.t0; rfl) | (with_reducible first | apply EK.nc | apply EC.seq | apply EC.r0 | apply EC.k0 | apply EC.b0))
  rename_i g5
  refine EC.dL 11 [0, 1, 2, 3, 4, 5, 6, 7] [8, 9, 10] [] _ (by kernel_rfl) (by kernel_rfl) rfl ?_
  simp only [aQ, KJ, KN, KD, KF]
  repeat
   (first
    | (apply bV (hcl); rfl; exact au.refl _ _; exact enA; iterate 2 rfl) | (apply aW; iterate 6 rfl) | (apply aG; rfl; exact I.a; iterate 4 rfl)
    | (apply Gf; iterate 4 rfl))
  refine EM.nil ?_
  repeat (first | rw [Kr] | rw [Kt])
  refine CH.mut (os := []) (rest := []) rfl rfl (jw rfl rfl) ?_
  rintro _ _ ⟨gs, rfl, rfl⟩
  try simp only [St.put]
  repeat (first | rw [Kr] | rw [Kt])
  refine CH.cut 1 ?_
  simp only [Kv, Kz, Ku, Kw]
  repeat
   (first
    | (apply dR; iterate 7 rfl))
  refine EM.nil ?_
  repeat (first | rw [Kr] | rw [Kt])
  refine CH.mut (os := []) (rest := [_]) rfl rfl (yX rfl rfl) ?_
  rintro _ _ ⟨gx, rfl, rfl⟩
  try simp only [St.put]
  repeat (first | rw [Kr] | rw [Kt])
  refine CH.nil ?_
  try simp only [Ku, Kw]
  repeat
   (first
    | (apply aB; iterate 3 rfl) | (apply ak; iterate 3 rfl) | (apply aH; iterate 6 rfl) | (apply aF; rfl; exact I.a; iterate 4 rfl)
    | (apply aU; iterate 4 rfl) | apply EL.nil | (with_reducible first | apply EK.nc | apply EC.seq | apply EC.r0 | apply EC.b0))
  have hmx : (xs.map aZ).length = xs.length := KG _
  refine EC.loop (ι := {x : Nat × Nat × List Ent // x.1 ≤ xs.length ∧ DT x.2.2 (slF (xs.take x.1)) x.1})
   (fun x => ⟨[(32, .val (.v (.int .i64 (x.1.1 : Int)))), (31, .val (.v (.int .i64 (xs.map aZ).length))), (30, .val (.sl 64 (xs.map aZ))), (14, .val (.v (.int .i64 (i : Int)))), (13, .val (.v (.int .i64 (l.map aI).length))), (12, .val (.sl 55 (l.map aI))), (6, .val (.v (ptr gx))), (5, .val (.v (ptr g5))), (3, .val (.v (ptr g)))], acO gx (if xn > 0 then xn else 0) xw xc (.map (some gs)) :: .map gs 32 x.1.2.1 x.1.2.2 :: .var g5 51 (.tup [.arr 20 xa, .v (.int .i64 xn), .arr 32 xw, .bs xc, .sl 64 (xs.map aZ)]) :: stO g m dF dF 0 :: smO m c es :: ps.flatMap PA.os, []⟩)
   (fun x => xs.length - x.1.1) ⟨(0, 0, []), Lj _, DT.nil⟩ ?_ ?_
  · exact (Le.keep (by repeat first | exact trivial | refine ⟨rfl, ?_⟩) (by repeat first | exact KQ _ | apply List.Sublist.cons_cons | apply List.Sublist.cons) (by simp))
  rintro ⟨⟨j, sc, ss⟩, hjl, hss⟩
  dsimp only at hjl hss ⊢
  by_cases hlj : j < xs.length
  ·
   have hd2 : (xs.map aZ)[j]? = some (aZ xs[j]) := by rw [List.getElem?_map, KA hlj]; rfl
   have htk2 : xs.take (j + 1) = xs.take j ++ [xs[j]] := LG hlj
   generalize xs[j] = y at hd2 htk2
   obtain ⟨q, v⟩ := y
   unfold aZ at hd2
   dsimp only at hd2
   have hset := set_any (ga := gx) (gs := gs) (sc := sc) (b := if xn > 0 then xn else 0) (w := xw) (cd := xc) hss q v
   repeat
    (first
     | (apply bD hset [_] _ rfl rfl (au.refl _ _) (by intro _ _; simp [go_sem]) rfl rfl; rintro _ _ ⟨rfl, sc', ss', hss', rfl⟩; simp only [Kr, Kt])
     | (apply aB; iterate 3 rfl) | (apply aH; iterate 6 rfl) | (apply bP; iterate 5 rfl) | (apply aF; rfl; exact I.a; iterate 4 rfl)
     | (apply aC (b := true); (iterate 2 rfl); exact aN; iterate 2 rfl) | (apply dQ; (iterate 3 rfl); (focus omega); (focus omega); iterate 2 rfl)
     | (apply dh; (iterate 4 rfl); exact ixA; iterate 2 rfl)
     | (apply bW; rfl; rfl; rfl; intro _) | (apply aO; rfl; exact saA; iterate 4 rfl) | apply EL.nil
     | (apply EC.t0; rfl) | (with_reducible first | apply EK.nc | apply EC.seq | apply EC.r0 | apply EC.k0 | apply EC.b0 | apply EK.n0))
   refine EK.again ⟨(j + 1, sc', ss'), hlj, by rw [htk2, Ea]; exact hss'⟩ (by dsimp only; omega) ?_
   simp only [Ls]
   exact (Le.keep (by repeat first | exact trivial | refine ⟨rfl, ?_⟩) (by repeat first | exact KQ _ | apply List.Sublist.cons_cons | apply List.Sublist.cons) (by simp))
  ·
   have hjE : j = xs.length := by omega
   subst hjE
   rw [MS] at hss
   repeat
    (first
     | (apply aC (b := false); (iterate 2 rfl); exact aN; iterate 2 rfl) | apply EL.nil | (apply EC.f0; rfl)
     | (with_reducible first | apply EK.nc | apply EC.seq | apply EC.r0 | apply EC.x0 | apply EK.s0 | apply EK.ah))
   refine EC.draw 7 (by kernel_rfl) ?_
   simp only [Kv, Kz, Ku, Kw]
   repeat
    (first
     | (apply aJ; iterate 3 rfl) | (apply aW; iterate 6 rfl) | (apply aG; rfl; exact I.a; iterate 4 rfl) | (apply bg; iterate 3 rfl)
     | ((with_reducible apply EH.nil); rfl))
   repeat
    (first
     | (apply aB; iterate 3 rfl) | (apply dQ; (iterate 3 rfl); (focus omega); (focus omega); iterate 2 rfl)
     | (apply kL; rfl; exact saA; iterate 4 rfl) | apply EL.nil
     | (with_reducible first | apply EK.nc | apply EC.r0 | apply EK.n0))
   refine EK.le (Le.qR [3, 4, 0, 1, 2] [_, _, _, _, _] [_, _, _, _, _] (_) rfl rfl (by decide) rfl) ?_
   try simp only [Kr, Kt]
   refine EK.apart fun hap => ?_
   have hnew : ∀ q ∈ ps, q.g ≠ gx := fun q hq e => by
    have hap' : Apart (stO g m dF dF 0 :: smO m (dG c es xa) (dN c es xa (.v (ptr gx))) :: acO gx (if xn > 0 then xn else 0) xw xc (.map (some gs)) :: .map gs 32 sc ss :: .var g5 51 (.tup [.arr 20 xa, .v (.int .i64 xn), .arr 32 xw, .bs xc, .sl 64 (xs.map aZ)]) :: ps.flatMap PA.os) := hap
    have h1 := (LJ.1 (LJ.1 (LJ.1 hap').2).2).1 (acO q.g q.n q.w q.cd (.map (some q.gs))) (KT _ (KT _ (List.mem_flatMap.2 ⟨q, hq, by simp [PA.os]⟩))) gx rfl
    exact h1 (by simp [Obj.blk, e])
   refine EK.again ⟨(i + 1, dG c es xa, dN c es xa (.v (ptr gx)), ⟨gx, if xn > 0 then xn else 0, xw, xc, gs, sc, ss⟩ :: ps), hlt, ?_⟩ (by dsimp only; omega) ?_
   ·
    rw [htk, uX]
    exact hi.fresh (a := xa) (p' := ⟨gx, if xn > 0 then xn else 0, xw, xc, gs, sc, ss⟩) (x := AcL.take ⟨xa, xn, xw, xc, xs⟩) (fun b => gJ c es xa b _) (gq _ _ _ _ hi.nod) (Ll (gu _ _ _ _) (Nh hi.len)) ⟨rfl, rfl, rfl, hss.sl, hss.ent, hss.nod, by have := hss.len; dsimp only; omega, hBi.2⟩ hnew
   ·
    simp only [Ls, Nj, PA.os, Kr, Kt]
    exact (Le.keep (by repeat first | exact trivial | refine ⟨rfl, ?_⟩) (by repeat first | exact KQ _ | apply List.Sublist.cons_cons | apply List.Sublist.cons) (by simp))
 ·
  have hiE : i = l.length := by omega
  subst hiE
  rw [MS] at hi
  repeat
   (first
    | (apply aB; iterate 3 rfl) | (apply ak; iterate 3 rfl) | (apply aC (b := false); (iterate 2 rfl); exact aN; iterate 2 rfl) | apply EL.nil
    | (apply EC.f0; rfl)
    | (with_reducible first | apply EK.nc | apply EC.seq | apply EC.r0 | apply EC.x0 | apply EC.ret | apply EK.s0 | apply EK.ah))
  refine EK.le (Le.row 80 1) ?_
  refine EK.le (Le.row 73 2) ?_
  refine EK.le (Le.qR [2, 3, 1, 0] [_, _, _, _] [_, _, _, _] (_) rfl rfl (by decide) rfl) ?_
  try simp only [Kr, Kt]
  exact EK.bn (psO g m c es dF dF 0 [] ps) rfl rfl (KQ _) ⟨g, m, c, es, ps, rfl, rfl, hi⟩
end E
end Go.Proofs.YtkhjanjlcdhdcaaGreat
namespace Go.Proofs.YtkhjanjlcdhdcaaGreat
set_option linter.unusedVariables false
open Go.RowKit Mono Rlp
namespace E
theorem sO {ok : Nat → Prop} {w : World} : ∀ (l : List UInt8) (rows : List (List Value)), ay ok w 1 (l.map fun b => D.v (bv b)) rows → rows.flatten = bvs l
 | [], rows, h => by
  rw [MB, ay] at h
  subst h
  rfl
 | b :: l, rows, h => by
  rw [Lc, ay] at h
  obtain ⟨r, rest, rfl, _, h2, h3⟩ := h
  rw [Reads] at h2
  rw [LW, sO l rest h3, h2.2]
  rfl
def bvD (l : List UInt8) : List D := l.map fun b => .v (bv b)
theorem yM {ok : Nat → Prop} {w : World} : ∀ (l : List UInt8), ∃ rows : List (List Value), rows.flatten = bvs l ∧ ay ok w 1 (bvD l) rows
 | [] => ⟨[], rfl, by show ay ok w 1 [] []; rw [ay]⟩
 | b :: l => by
  obtain ⟨rows, h1, h2⟩ := yM (ok := ok) (w := w) l
  refine ⟨[bv b] :: rows, by rw [LW, h1]; rfl, ?_⟩
  show ay ok w 1 (.v (bv b) :: bvD l) _
  rw [ay]
  exact ⟨_, _, rfl, rfl, by rw [Reads]; exact ⟨rfl, rfl⟩, h2⟩
theorem Jy {ok : Nat → Prop} {w : World} {l : List UInt8} {x : Value} (h : cZ ok w (.bs l) x) : ∃ A c rows, x = .slice A (bvD l).length c ∧ (bvD l).length ≤ c ∧ c ≤ maxLen ∧ True ∧ RdP ok w A rows.flatten ∧ ay ok w 1 (bvD l) rows := by
 have h1 := (dJ (d := .bs l) rfl).1 h
 rw [Reads] at h1
 obtain ⟨u, e, A, c, rfl, g1, g2, g4⟩ := h1
 obtain ⟨rows, h3, h4⟩ := yM (ok := ok) (w := w) l
 have hl2 : (bvD l).length = l.length := KG _
 exact ⟨A, c, rows, by rw [hl2]; exact List.singleton_inj.1 e, by rw [hl2]; exact g1, g2, trivial, by rw [h3]; exact g4, h4⟩
section
variable {N : Nat} {X : Cx N} {S : St} {ops : Array Oper} {o : Oper} {Q : Exit → Act → World → Prop} {l : List Oper} {rs : List (Tmp × R)} {os : List Obj} {fs : List (Value × D)}
theorem EL.H7 {T e y' : Nat} {s x : Operand} {v : Value} {ds : List D} {m : List UInt8} (i : Nat) (ho : o.op = .call { callee := .builtin .append, args := #[s, x], argTypes := #[T, T] }) (hg : guardOf ops S o = some true) (hd : ∀ t, o.dst = some t → t < N) (hT : SlT Tryz.prog T e 1 y')
  (hs : ev S s = some (.val (.v v))) (hi : S.objs[i]? = some (.row v e 1 ds)) (hx : ev S x = some (.val (.bs m))) (hlen : (ds.length + (bvD m).length) * y' ≤ 140737488355328 ∧ ds.length + (bvD m).length ≤ 9223372036854775807)
  (k : ∀ v', EL X ops Q l (St.put ⟨S.regs, S.objs.set i (.row v' e 1 (ds ++ bvD m)), S.facts⟩ o.dst (.val (.v v')))) : EL X ops Q (o :: l) S := by
 constructor
 intro a w ha
 have hk := ha.kn fun t => t ∈ o.looksAt ops
 have hs' := eU hk hs fun t e => aK e (by rw [ho]; simp [Op.operands, Call.operands])
 obtain ⟨A, c, rows', h1, h2, h3, h4, h5, h6⟩ := Jy (hk.ev hx fun t e => aK e (by rw [ho]; simp [Op.operands, Call.operands]))
 obtain ⟨rows, h7, h8⟩ := ha.mem.at_ _ (La hi)
 obtain ⟨hl1, hl2⟩ := ay.lens (bvD m) rows' h6
 have hlen' : rows'.flatten.length = (bvD m).length * 1 := by
  have : ∀ rows : List (List Value), (∀ r ∈ rows, r.length = 1) → rows.flatten.length = rows.length * 1 := by
   intro rows
   induction rows with
   | nil => simp
   | cons r rows ih =>
    intro h
    rw [LW, Lu, h r (by simp), ih fun r hr => h r (by simp [hr]), LM, MQ, Np, Og]
  rw [this rows' hl2, hl1]
 have hrd : Rd w w.heap.size A rows'.flatten := fun hn => by
  obtain ⟨b, n, e, hb, hc⟩ := h5 hn
  exact ⟨b, n, e, hb.2.1, hc⟩
 have hge := ha.mem.gr.size
 obtain ⟨A', c', w', hrun, hown, hgr, hblk⟩ := gX (P := Tryz.prog) (ty := o.type) (c := c) hT h7.1 hlen' hrd (ay.one (bvD m) rows' h6) (by simp only [maxLen]; exact hlen.2) hlen.1 (Lj _)
 unfold wpList
 rw [if_pos (eG ha hg)]
 refine .inl ?_
 unfold Oper.wp execOp
 simp only [ho, resolve, invoke, builtin, KL, KO, KC, MZ, Lc, MB, hs', h1, hrun]
 refine (k _).go _ _ ((ha.turn (q := .row (.slice A' (ds.length + (bvD m).length) c') e 1 (ds ++ bvD m)) hi hgr ?_ fun hok hcell => ⟨rows ++ rows', ?_, ay.append ds (bvD m) rows rows' (ay.mono hok hcell 1 ds rows h8) (ay.mono hok hcell 1 (bvD m) rows' h6)⟩).put hd (fO rfl))
 ·
  rcases hblk with hb | hb
  · exact .inl hb
  · exact .inr ⟨_, hb, KW _⟩
 ·
  rw [List.flatten_append, Lu]
  refine ⟨hown, fun b hb => ?_⟩
  rcases hblk with e | e
  · exact h7.2 b (e ▸ hb)
  ·
   rw [e] at hb
   cases hb
   exact .inr hge
theorem DV {t T e y ty : Nat} {pos : String} {af : Array Edge} {gd : Option (Nat × Bool)} {s x : Operand} {v : Value} {ds : List D} {m : List UInt8} {os' : Value → List Obj} (hs : ev (⟨rs, os, fs⟩ : St) s = some (.val (.v v))) (hset : ng os (.row v e 1 ds) (fun v' => .row v' e 1 (ds ++ bvD m)) os') (hx : ev (⟨rs, os, fs⟩ : St) x = some (.val (.bs m))) (hT : assoc slL T = some (e, 1, y)) (hg : guardOf ops ⟨rs, os, fs⟩ ⟨some t, .call { callee := .builtin .append, args := #[s, x], argTypes := #[T, T] }, ty, pos, af, gd⟩ = some true) (hN : Nat.blt t N = true) (hlen : (ds.length + m.length) * y ≤ 140737488355328 ∧ ds.length + m.length ≤ 9223372036854775807) (kk : ∀ v', EL X ops Q l ⟨(t, .val (.v v')) :: rs, os' v', fs⟩) : EL X ops Q (⟨some t, .call { callee := .builtin .append, args := #[s, x], argTypes := #[T, T] }, ty, pos, af, gd⟩ :: l) ⟨rs, os, fs⟩ := by
 obtain ⟨i, hi, hl'⟩ := hset.ix
 have hl2 : (bvD m).length = m.length := KG _
 rw [← hl2] at hlen
 exact EL.H7 (v := v) (ds := ds) i rfl hg (ji rfl hN) (Gp hT rfl) hs hi hx hlen fun v' => by
  have := kk v'
  rw [hl' v'] at this
  exact this
end
theorem vP (v : Value) (l : List UInt8) (hl : l.length ≤ 140737488355328) : FnM 18 [.v v] [.row v 5 1 (bvD l)] (fun r os' => r = .val (.bs l) ∧ os' = [.row v 5 1 (bvD l)]) := ⟨fun ok w xs hok hown hr => by
 obtain ⟨x, _, rfl, hx, rfl⟩ := hr
 obtain rfl := (aP.1 hx).2
 have hat := hown.at_ _ KH
 obtain ⟨rows, ⟨h1, hmine⟩, h2⟩ := hat
 have hf := sO l rows h2
 have hln : (bvD l).length = l.length := KG _
 obtain ⟨A, c, rfl, hc1, hc2⟩ := iZ h1
 have hB : IsB w (.slice A (bvD l).length c) l := ⟨A, c, by rw [hln], by omega, hc2, fun hn => by
  rw [← hf] at hn ⊢
  obtain ⟨b, o, rfl, hb, hc⟩ := wU h1 hn
  exact ⟨b, o, rfl, hb.2, hc⟩⟩
 refine (FN _ l w hB hl).mono ?_
 rintro e w' ⟨u, rfl, hg, ho⟩
 have hk : ∀ b, ok b → okM ok [.row (.slice A (bvD l).length c) 5 1 (bvD l)] w [.row (.slice A (bvD l).length c) 5 1 (bvD l)] w' b := fun b hb => ⟨.inl hb, Ld (hok b hb) hg.size, fun o' ho' e => hown.off b ⟨o', ho', e⟩ hb⟩
 refine ⟨u, .val (.bs l), _, rfl, ⟨rfl, rfl⟩, ⟨.of hg, hown.apart, fun o' ho' => ?_⟩, ?_⟩
 · refine ((hown.at_ o' ho').move hk (fun p hp => World.cell?_of_block (hg.block _ (hok _ hp))) fun g e => hg.block g (Obj.cO (hown.at_ o' ho') e).2).jS fun b e => .inl ⟨o', ho', e⟩
 ·
  refine (dJ rfl).2 ?_
  rw [Reads]
  refine ⟨u, rfl, uy.mono (Ar ho) (fun b hb => ⟨.inr (.inr hb.1), hb.2, fun o' ho' e => ?_⟩) fun _ _ => rfl⟩
  have := (Obj.cO (hown.at_ o' ho') e).2
  omega⟩
end E
end Go.Proofs.YtkhjanjlcdhdcaaGreat
namespace Go.Proofs.YtkhjanjlcdhdcaaGreat
set_option linter.unusedVariables false
open Go.RowKit Mono Rlp Wd
namespace E
def GSt (g : Nat) (A : As) (N : Nat) (os : List Obj) : Prop := ∃ m c es u k n us ks ps js, os = [stO g m u k n, smO m c es, unO u us, mkO k ks] ++ (ps.flatMap PA.os ++ js) ∧ jX es ps A N ∧ us.length ≤ N
theorem J9 {α : Type} (a b : α) (x y : List α) : (a :: b :: (x ++ y)).Perm (x ++ a :: b :: y) := by
 have h : ([a, b] ++ x ++ y).Perm (x ++ [a, b] ++ y) := KY.append_right y
 simpa only [Kr, Kt, KR] using h
theorem nD (ks us : List D) (d : D) : (dB ks us d).length ≤ us.length + 1 := by
 unfold dB
 split
 · exact Nat.le_succ _
 · simp
section
variable {g N : Nat} {A : As} {os : List Obj} {a : List UInt8}
theorem Hl {f : FuncId} {ds : List D} {x : Ac} (xo : List Obj) (h : GSt g A N os) (hN : N < 1099511627776)
  (hin : ∀ m c es u k n us ks (p : PA), bC es a = some (.v (ptr p.g)) → us.length < 1099511627776 → p.Is (A a) N → FnM f ds (([stO g m u k n, smO m c es, unO u us, mkO k ks] ++ xo) ++ p.os) (fun r os' => ∃ (hdr' : List Obj) (p' : PA), (r = .tpl [] ∧ (∃ u' d, hdr' = [stO g m u' k n, smO m c es, unO u' (dB ks us d), mkO k ks] ++ xo) ∧ p'.g = p.g ∧ p'.Is x (N + 1)) ∧ os' = hdr' ++ p'.os))
  (hout : ∀ m c es u k n us ks, bC es a = none → us.length < 1099511627776 → A a = Ac.zero → FnM f ds ([stO g m u k n, smO m c es, unO u us, mkO k ks] ++ xo) (fun r os' => r = .tpl [] ∧ ∃ (u' : Value) (d : D) (p' : PA), os' = ([stO g m u' k n, smO m (dG c es a) (dN c es a (.v (ptr p'.g))), unO u' (dB ks us d), mkO k ks] ++ xo) ++ p'.os ∧ p'.Is x (N + 1))) :
  FnM f ds (xo ++ os) (fun r os' => r = .tpl [] ∧ ∃ os2, GSt g (A.upd a x) (N + 1) os2 ∧ os' = xo ++ os2) := by
 obtain ⟨m, c, es, u, k, n, us, ks, ps, js, rfl, hi, hl⟩ := h
 have hul : us.length < 1099511627776 := by omega
 have pm : ∀ (l : List Obj) (q : List PA), (xo ++ (l ++ (q.flatMap PA.os ++ js))).Perm (((l ++ xo) ++ q.flatMap PA.os) ++ js) := fun l q => by
  rw [← KR, ← KR]
  exact (KY.append_right _).append_right _
 refine FnM.perm ?_ (pm _ ps).symm
 cases hE : bC es a with
 | some d =>
  obtain ⟨p, hp, rfl, his⟩ := hi.inn a d hE
  obtain ⟨ps1, ps2, rfl⟩ := List.append_of_mem hp
  refine FnM.out ((FnM.lift ps1 ps2 (hin m c es u k n us ks p hE hul his)).frame js) ?_
  rintro r _ ⟨_, ⟨hdr', p', ⟨rfl, ⟨u', d, rfl⟩, hg, hx⟩, rfl⟩, rfl⟩
  exact ⟨_, (pm _ _).symm, rfl, _, ⟨m, c, es, u', k, n, _, ks, _, js, rfl, hi.turned hE hg hx, Ll (nD ks us d) (Nh hl)⟩, rfl⟩
 | none =>
  refine FnM.out (((hout m c es u k n us ks hE hul (hi.out a hE)).frame (ps.flatMap PA.os)).apart.frame js) ?_
  rintro r _ ⟨_, ⟨⟨_, ⟨rfl, u', d, p', rfl, hx⟩, rfl⟩, hap⟩, rfl⟩
  rw [show ∀ l : List Obj, ((l ++ p'.os) ++ ps.flatMap PA.os) ++ js = (l ++ (p' :: ps).flatMap PA.os) ++ js from fun l => by rw [Nj, ← KR]]
  refine ⟨_, (pm _ (p' :: ps)).symm, rfl, _, ⟨m, dG c es a, dN c es a (.v (ptr p'.g)), u', k, n, _, ks, p' :: ps, js, rfl, hi.fresh (fun b => gJ c es a b _) (gq c es a _ hi.nod) (Ll (gu c es a _) (Nh hi.len)) hx (qE hap), Ll (nD ks us d) (Nh hl)⟩, rfl⟩
theorem E5 {f : FuncId} {ds : List D} {B : As} (h : FnM f ds ([] ++ os) (fun r os' => r = .tpl [] ∧ ∃ os2, GSt g B (N + 1) os2 ∧ os' = [] ++ os2)) : FnM f ds os (fun r os' => r = .tpl [] ∧ GSt g B (N + 1) os') :=
 FnM.mono h fun r os' ⟨h1, os2, h2, h3⟩ => ⟨h1, by rw [h3]; exact h2⟩
theorem AP (h : GSt g A N os) (hN : N < 1099511627776) (v : Int) : FnM 16 [.v (ptr g), .arr 20 a, .v (.int .i64 v)] os (fun r os' => r = .tpl [] ∧ GSt g (A.upd a {A a with n := if v > 0 then v else 0}) (N + 1) os') := by
 refine E5 (Hl [] h hN (fun m c es u k n us ks p hE hu his => ?_) (fun m c es u k n us ks hE hu hz => ?_))
 ·
  refine FnM.mono (FnM.frame (yE (g := g) (m := m) (c := c) (u := u) (k := k) (n := n) (ks := ks) (b := p.n) (w := p.w) (cd := p.cd) (sv := .map (some p.gs)) (n' := v) hE hu) [.map p.gs 32 p.sc p.ss]) ?_
  rintro r _ ⟨_, ⟨rfl, u', rfl⟩, rfl⟩
  exact ⟨[stO g m u' k n, smO m c es, unO u' (dB ks us (qh a p.n)), mkO k ks], {p with n := if v > 0 then v else 0}, ⟨rfl, ⟨u', qh a p.n, rfl⟩, rfl, ⟨rfl, his.w, his.cd, his.sl, his.ent, his.nod, his.up.len, his.cl⟩⟩, rfl⟩
 ·
  refine FnM.mono (o7 (g := g) (m := m) (c := c) (u := u) (k := k) (n := n) (ks := ks) (n' := v) hE hu) ?_
  rintro r _ ⟨rfl, u', ga, gs, rfl⟩
  refine ⟨rfl, u', qh a 0, ⟨ga, if v > 0 then v else 0, zero32, [], gs, 0, []⟩, rfl, ?_⟩
  rw [hz]
  exact ⟨rfl, rfl, rfl, fun k => rfl, fun e he => by simp at he, MI, Lj _, Lj _⟩
theorem kW (h : GSt g A N os) (hN : N < 1099511627776) (v : List UInt8) : FnM 25 [.v (ptr g), .arr 20 a, .arr 32 v] os (fun r os' => r = .tpl [] ∧ GSt g (A.upd a {A a with w := v}) (N + 1) os') := by
 refine E5 (Hl [] h hN (fun m c es u k n us ks p hE hu his => ?_) (fun m c es u k n us ks hE hu hz => ?_))
 ·
  refine FnM.mono (FnM.frame (uH (g := g) (m := m) (c := c) (u := u) (k := k) (n := n) (ks := ks) (b := p.n) (w := p.w) (cd := p.cd) (sv := .map (some p.gs)) (w' := v) hE hu) [.map p.gs 32 p.sc p.ss]) ?_
  rintro r _ ⟨_, ⟨rfl, u', rfl⟩, rfl⟩
  exact ⟨[stO g m u' k n, smO m c es, unO u' (dB ks us (zZ a p.w)), mkO k ks], {p with w := v}, ⟨rfl, ⟨u', zZ a p.w, rfl⟩, rfl, ⟨his.n, rfl, his.cd, his.sl, his.ent, his.nod, his.up.len, his.cl⟩⟩, rfl⟩
 ·
  refine FnM.mono (sG (g := g) (m := m) (c := c) (u := u) (k := k) (n := n) (ks := ks) (w' := v) hE hu) ?_
  rintro r _ ⟨rfl, u', ga, gs, rfl⟩
  refine ⟨rfl, u', zZ a zero32, ⟨ga, 0, v, [], gs, 0, []⟩, rfl, ?_⟩
  rw [hz]
  exact ⟨rfl, rfl, rfl, fun k => rfl, fun e he => by simp at he, MI, Lj _, Lj _⟩
theorem Dp (h : GSt g A N os) (hN : N < 1099511627776) (q v : List UInt8) : FnM 27 [.v (ptr g), .arr 20 a, .arr 32 q, .arr 32 v] os (fun r os' => r = .tpl [] ∧ GSt g (A.upd a ((A a).slot q v)) (N + 1) os') := by
 refine E5 (Hl [] h hN (fun m c es u k n us ks p hE hu his => ?_) (fun m c es u k n us ks hE hu hz => ?_))
 ·
  by_cases hv : v = zero32
  ·
   subst hv
   refine FnM.mono (sF (g := g) (m := m) (c := c) (u := u) (k := k) (n := n) (ks := ks) (b := p.n) (w := p.w) (cd := p.cd) (gs := p.gs) (sc := p.sc) hE (his.sl q) hu wM) ?_
   rintro r _ ⟨rfl, u', rfl⟩
   refine ⟨[stO g m u' k n, smO m c es, unO u' (dB ks us (rW a q ((A a).sl q))), mkO k ks], {p with ss := jG p.ss q}, ⟨rfl, ⟨u', rW a q ((A a).sl q), rfl⟩, rfl, his.n, his.w, his.cd, fun k => ?_, fun e he => his.ent e ((iG _ _).subset he), his.nod.sublist ((iG _ _).map _), Ll (qZ _ _) his.up.len, his.cl⟩, rfl⟩
   show slE (jG p.ss q) k = _
   rw [Bz _ _ _ his.nod, his.sl k]
   unfold Ac.slot
   dsimp only
   split <;> rfl
  ·
   refine FnM.mono (sF (g := g) (m := m) (c := c) (u := u) (k := k) (n := n) (ks := ks) (b := p.n) (w := p.w) (cd := p.cd) (gs := p.gs) (sc := p.sc) hE (his.sl q) hu (wL (by simpa using hv))) ?_
   rintro r _ ⟨rfl, u', rfl⟩
   refine ⟨[stO g m u' k n, smO m c es, unO u' (dB ks us (rW a q ((A a).sl q))), mkO k ks], {p with sc := dG p.sc p.ss q, ss := dN p.sc p.ss q (.arr 32 v)}, ⟨rfl, ⟨u', rW a q ((A a).sl q), rfl⟩, rfl, his.n, his.w, his.cd, fun k => ?_, fun e he => ?_, gq _ _ _ _ his.nod, Ll (gu _ _ _ _) (Nh his.len), his.cl⟩, rfl⟩
   ·
    show slE (dN p.sc p.ss q (.arr 32 v)) k = _
    rw [wI, his.sl k]
    unfold Ac.slot
    dsimp only
    split <;> rfl
   ·
    rcases tq _ _ _ _ _ he with he | he
    · exact his.ent e he
    · exact ⟨v, he, hv⟩
 ·
  by_cases hv : v = zero32
  ·
   subst hv
   refine FnM.mono (qM (g := g) (m := m) (c := c) (u := u) (k := k) (n := n) (ks := ks) (q := q) (ss' := fun _ => jG [] q) (sc' := 0) hE hu (fun ga gs => wM)) ?_
   rintro r _ ⟨rfl, u', ga, gs, rfl⟩
   refine ⟨rfl, u', rW a q zero32, ⟨ga, 0, zero32, [], gs, 0, []⟩, rfl, ?_⟩
   rw [hz]
   refine ⟨rfl, rfl, rfl, fun k => ?_, fun e he => by simp at he, MI, Lj _, Lj _⟩
   unfold Ac.slot Ac.zero
   dsimp only
   split <;> rfl
  ·
   refine FnM.mono (qM (g := g) (m := m) (c := c) (u := u) (k := k) (n := n) (ks := ks) (q := q) (ss' := fun _ => dN 0 [] q (.arr 32 v)) (sc' := dG 0 [] q) hE hu (fun ga gs => wL (by simpa using hv))) ?_
   rintro r _ ⟨rfl, u', ga, gs, rfl⟩
   refine ⟨rfl, u', rW a q zero32, ⟨ga, 0, zero32, [], gs, dG 0 [] q, dN 0 [] q (.arr 32 v)⟩, rfl, ?_⟩
   rw [hz]
   refine ⟨rfl, rfl, rfl, fun k => ?_, fun e he => ?_, gq 0 [] q (.arr 32 v) MI, Ll (gu 0 [] q (.arr 32 v)) (by simp), Lj _⟩
   ·
    show slE (dN 0 [] q (.arr 32 v)) k = _
    rw [wI]
    unfold Ac.slot Ac.zero
    dsimp only
    split <;> rfl
   ·
    rcases tq 0 [] q (.arr 32 v) e he with he | he
    · simp at he
    · exact ⟨v, he, hv⟩
theorem Jk (h : GSt g A N os) (hN : N < 1099511627776) : FnM 30 [.v (ptr g), .arr 20 a] os (fun r os' => r = .tpl [] ∧ GSt g (A.upd a Ac.zero) (N + 1) os') := by
 obtain ⟨m, c, es, u, k, n, us, ks, ps, js, rfl, hi, hl⟩ := h
 have hu : us.length < 1099511627776 := by omega
 rw [← KR]
 cases hE : bC es a with
 | some d =>
  obtain ⟨p, hp, rfl, his⟩ := hi.inn a d hE
  refine FnM.mono (((GZ (g := g) (m := m) (c := c) (u := u) (k := k) (n := n) (ks := ks) hE hu).frame (ps.flatMap PA.os)).apart.frame js) ?_
  rintro r _ ⟨_, ⟨⟨_, ⟨rfl, u', ga', gs', rfl⟩, rfl⟩, hap⟩, rfl⟩
  exact ⟨rfl, m, _, _, u', k, n, _, ks, ⟨ga', 0, zero32, [], gs', 0, []⟩ :: ps, js, by rw [Nj, KR, KR]; rfl, hi.fresh (p' := ⟨ga', 0, zero32, [], gs', 0, []⟩) (fun b => gJ c es a b _) (gq c es a _ hi.nod) (Ll (gu c es a _) (Nh hi.len)) ⟨rfl, rfl, rfl, fun k => rfl, fun e he => by simp at he, MI, Lj _, Lj _⟩ (qE (hdr := [stO g m u' k n, smO m (dG c es a) (dN c es a (.v (ptr ga'))), unO u' (dB ks us (xY a (ptr p.g))), mkO k ks]) (p' := ⟨ga', 0, zero32, [], gs', 0, []⟩) hap), Ll (nD ks us _) (Nh hl)⟩
 | none =>
  refine FnM.mono (((EO (g := g) (m := m) (c := c) (u := u) (k := k) (n := n) (ks := ks) hE hu).frame (ps.flatMap PA.os)).apart.frame js) ?_
  rintro r _ ⟨_, ⟨⟨_, ⟨rfl, u', ga, ga', gs', rfl⟩, rfl⟩, hap⟩, rfl⟩
  refine ⟨rfl, m, _, _, u', k, n, _, ks, ⟨ga', 0, zero32, [], gs', 0, []⟩ :: ps, js, by rw [Nj, KR, KR]; rfl, hi.fresh (p' := ⟨ga', 0, zero32, [], gs', 0, []⟩) (fun b => ?_) (gq _ _ a _ (gq c es a _ hi.nod)) ?_ ⟨rfl, rfl, rfl, fun k => rfl, fun e he => by simp at he, MI, Lj _, Lj _⟩ (qE (hdr := [stO g m u' k n, smO m (dG (dG c es a) (dN c es a (.v (ptr ga))) a) (dN (dG c es a) (dN c es a (.v (ptr ga))) a (.v (ptr ga'))), unO u' (dB ks us (xY a (.pointer none))), mkO k ks]) (p' := ⟨ga', 0, zero32, [], gs', 0, []⟩) hap), Ll (nD ks us _) (Nh hl)⟩
  ·
   rw [gJ, gJ]
   split <;> rfl
  ·
   unfold dN
   rw [if_pos]
   ·
    have h1 := congrArg List.length (ku (if kV es a = true then lI es a (.v (ptr ga)) else es ++ [(c, a, .v (ptr ga))]) a (.v (ptr ga')))
    have h2 := gu c es a (.v (ptr ga))
    unfold dN at h2
    simp only [KG] at h1
    have := hi.len
    omega
   ·
    have := gJ c es a a (.v (ptr ga))
    unfold dN at this
    rw [mD, this, if_pos rfl]
    rfl
end
end E
end Go.Proofs.YtkhjanjlcdhdcaaGreat
