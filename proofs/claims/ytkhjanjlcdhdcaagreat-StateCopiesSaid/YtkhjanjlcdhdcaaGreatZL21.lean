/-
 Merged: lemmas of this claim.
 Conditions: none.
-/
import Derived.Test.YtkhjanjlcdhdcaaGreatZL20
import Derived.Test.YtkhjanjlcdhdcaaGreatZL0
namespace Go.Proofs.YtkhjanjlcdhdcaaGreat
set_option linter.unusedVariables false
set_option maxRecDepth 20000
set_option maxHeartbeats 16000000
open Go.RowKit Mono Rlp Wd
namespace E
theorem xu (l m : List UInt8) : Fn 50 [.arr 32 l, .arr 32 m] (· = .val (.v (.bool (Op.bytesLess l m)))) := by
 have hb := nU l m
 refine Fn.walk 10 Tryz.func50 rfl Tryz.ntmps50 (by simp) fun X => ?_
 repeat
  (first
   | (apply ak; iterate 3 rfl) | (apply aV; rfl; rfl; rfl; intro _) | apply EL.nil
   | (with_reducible first | apply EK.nc | apply EC.seq | apply EC.r0 | apply EC.k0 | apply EC.label | apply EC.b0 | apply EC.x0 | apply EC.ret | apply EK.n0 | apply EK.s0 | apply EK.aA | apply EK.aj | apply EK.ah))
 refine EC.draw 5 (by kernel_rfl) ?_
 simp only [Kv, Kz, Ku, Kw]
 repeat
  (first
   | (apply qg; exact Gn; iterate 3 rfl) | (apply kN; rfl; exact I0; iterate 4 rfl) | (apply kN; rfl; exact I1; iterate 4 rfl)
   | (apply fQ; (iterate 2 rfl); exact hb; iterate 2 rfl) | ((with_reducible apply EH.nil); rfl))
 repeat
  (first
   | (apply ak; iterate 3 rfl) | apply EL.nil
   | (with_reducible first | apply EK.nc | apply EC.seq | apply EC.r0 | apply EC.k0 | apply EC.label | apply EC.b0 | apply EC.x0 | apply EC.ret | apply EK.n0 | apply EK.s0 | apply EK.aA | apply EK.aj | apply EK.ah))
 exact EK.kC rfl rfl rfl
theorem Ep (q : List UInt8) : ∀ (l : List (List UInt8 × List UInt8)), l.Pairwise (fun x y => x.1 < y.1) → ∃ l1 l2, (∀ x ∈ l1, x.1 < q) ∧ (∀ y ∈ l2, q < y.1) ∧ ((∃ v, l = l1 ++ (q, v) :: l2) ∨ l = l1 ++ l2)
 | [], _ => ⟨[], [], fun x hx => by simp at hx, fun y hy => by simp at hy, .inr rfl⟩
 | x :: l, h => by
  obtain ⟨h1, h2⟩ := LJ.1 h
  by_cases hlt : x.1 < q
  ·
   obtain ⟨l1, l2, h3, h4, h5⟩ := Ep q l h2
   refine ⟨x :: l1, l2, fun y hy => ?_, h4, ?_⟩
   ·
    rcases KI.1 hy with rfl | hy
    · exact hlt
    · exact h3 y hy
   ·
    rcases h5 with ⟨y, rfl⟩ | rfl
    · exact .inl ⟨y, rfl⟩
    · exact .inr rfl
  ·
   by_cases he : x.1 = q
   · exact ⟨[], l, fun y hy => by simp at hy, fun y hy => he ▸ h1 y hy, .inl ⟨x.2, by rw [← he]; rfl⟩⟩
   ·
    have hxa : q < x.1 := LU fun hn => he (NC (NG.1 hn) (NG.1 hlt))
    refine ⟨[], x :: l, fun y hy => by simp at hy, fun y hy => ?_, .inr rfl⟩
    rcases KI.1 hy with rfl | hy
    · exact hxa
    · exact NJ hxa (h1 y hy)
def iw (q v : List UInt8) : List (List UInt8 × List UInt8) := if v = zero32 then [] else [(q, v)]
theorem AcL.Is.put {x : AcL} {y : Ac} (h : x.Is y) {q v : List UInt8} {l1 l2 : List (List UInt8 × List UInt8)} (h1 : ∀ x ∈ l1, x.1 < q) (h2 : ∀ y ∈ l2, q < y.1) (h3 : (∃ v, x.sl = l1 ++ (q, v) :: l2) ∨ x.sl = l1 ++ l2) : ({x with sl := l1 ++ iw q v ++ l2} : AcL).Is (y.slot q v) := by
 have hm : ∀ p, p ∈ l1 ∨ p ∈ l2 → p ∈ x.sl := fun p hp => by
  rcases h3 with ⟨u, e⟩ | e <;> rw [e] <;> simp only [Lm, KI]
  · exact hp.imp id .inr
  · exact hp
 have ho : l1.Pairwise (fun x y => x.1 < y.1) ∧ l2.Pairwise (fun x y => x.1 < y.1) := by
  have := h.ord
  rcases h3 with ⟨u, e⟩ | e <;> rw [e] at this
  · exact ⟨(LC.1 this).1, (LJ.1 (LC.1 this).2.1).2⟩
  · exact ⟨(LC.1 this).1, (LC.1 this).2.1⟩
 have hp1 : ∀ p ∈ iw q v, p = (q, v) ∧ v ≠ zero32 := fun p hp => by
  unfold iw at hp
  split at hp
  · simp at hp
  ·
   rename_i hv
   exact ⟨by simpa using hp, hv⟩
 have hne : ∀ p, p ∈ l1 ∨ p ∈ l2 → ¬ q = p.1 := fun p hp e => by
  rcases hp with hp | hp
  ·
   have := h1 p hp
   rw [e] at this
   exact L9 _ this
  ·
   have := h2 p hp
   rw [e] at this
   exact L9 _ this
 refine ⟨h.n, h.w, h.cd, ?_, fun p hp => ?_, fun k hk => ?_⟩
 ·
  refine LC.2 ⟨LC.2 ⟨ho.1, ?_, fun u hu z hz => ?_⟩, ho.2, fun u hu z hz => ?_⟩
  ·
   unfold iw
   split
   · exact .nil
   · exact List.pairwise_singleton _ _
  ·
   rw [(hp1 z hz).1]
   exact h1 u hu
  ·
   rcases Lm.1 hu with hu | hu
   · exact NJ (h1 u hu) (h2 z hz)
   ·
    rw [(hp1 u hu).1]
    exact h2 z hz
 ·
  dsimp only at hp
  unfold Ac.slot
  dsimp only
  by_cases hq : p ∈ l1 ∨ p ∈ l2
  ·
   rw [if_neg (hne p hq)]
   exact h.val p (hm p hq)
  ·
   have : p ∈ iw q v := by
    simp only [Lm] at hp
    rcases hp with (hp | hp) | hp
    · exact absurd (.inl hp) hq
    · exact hp
    · exact absurd (.inr hp) hq
   obtain ⟨rfl, hv⟩ := hp1 p this
   rw [if_pos rfl]
   exact ⟨rfl, hv⟩
 ·
  unfold Ac.slot at hk
  dsimp only at hk ⊢
  by_cases hqk : q = k
  ·
   rw [if_pos hqk] at hk
   exact ⟨(q, v), by unfold iw; rw [if_neg hk]; simp, hqk⟩
  ·
   rw [if_neg hqk] at hk
   obtain ⟨p, hp, e⟩ := h.all k hk
   refine ⟨p, ?_, e⟩
   rcases h3 with ⟨u, e2⟩ | e2 <;> rw [e2] at hp <;> simp only [Lm, KI] at hp ⊢
   ·
    rcases hp with hp | rfl | hp
    · exact .inl (.inl hp)
    · exact absurd e hqk
    · exact .inr hp
   · exact hp.imp .inl id
variable {g N : Nat} {A : As} {os : List Obj} {a : List UInt8}
theorem sK (h : RSt g A N os) (hN : N ≤ 1000000) (q v : List UInt8) : FnM 24 [.v (ptr g), .arr 20 a, .arr 32 q, .arr 32 v] os (fun r os' => r = .tpl [] ∧ RSt g (A.upd a ((A a).slot q v)) (N + 1) os') := by
 obtain ⟨L, k, n, l, rfl, hR, hlN⟩ := h
 have h1 := rat (g := g) (L := L) (k := k) (n := n) hR a (by omega)
 refine FnM.walk 85 Tryz.func24 rfl Tryz.ntmps24 (by simp) fun X => ?_
 repeat
  (first
   | (apply nX h1 [_, _, _] rfl rfl (au.refl _ _) (by intro _ _; simp [go_sem]) rfl rfl; rintro _ _ ⟨L', l1, x, l2, ha, hll, rfl, rfl⟩; simp only [Kr, Kt])
   | (apply aB; iterate 3 rfl) | (apply ak; iterate 3 rfl) | (apply aF; rfl; exact I.a; iterate 4 rfl) | (apply aV; rfl; rfl; rfl; intro _)
   | apply EL.nil
   | (with_reducible first | apply EK.nc | apply EC.seq | apply EC.r0 | apply EC.k0 | apply EC.label | apply EC.b0 | apply EC.x0 | apply EC.ret | apply EK.n0 | apply EK.s0 | apply EK.aA | apply EK.aj | apply EK.ah))
 rename_i g5 g6 g7
 obtain ⟨s1, s2, hs1, hs2, h3⟩ := Ep q x.sl ha.is.ord
 have hd0 := kH l1 l2 x
 have hxl : s1.length + s2.length ≤ x.sl.length := by rcases h3 with ⟨u, e⟩ | e <;> rw [e] <;> simp <;> omega
 have hxN := ha.bx.1
 have hml : (x.sl.map aZ).length = x.sl.length := KG _
 have hg1 : ∀ i (hi : i < s1.length), x.sl[i]? = some s1[i] := fun i hi => by rcases h3 with ⟨u, e⟩ | e <;> rw [e, L6 hi, KA hi]
 have hput := ha.is.put (v := v) hs1 hs2 h3
 obtain ⟨xa, xn, xw, xc, xs⟩ := x
 dsimp only at hxl hxN hml hg1 h3 hput
 unfold aI at hd0
 dsimp only at hd0
 refine EC.loop (ι := {i : Nat // i ≤ s1.length})
  (fun i => ⟨[(9, .val (.v (.int .i64 (i.1 : Int)))), (8, .val (.v (bf L' ((l1.length : Int).toNat * 55)))), (7, .val (.v (.pointer (some ⟨g7, 0, none⟩)))), (6, .val (.v (.pointer (some ⟨g6, 0, none⟩))))], [.var g7 34 (.arr 32 v), .var g6 34 (.arr 32 q), .var g5 32 (.arr 20 a), rsO g L' k n, raA L' (l1 ++ ⟨xa, xn, xw, xc, xs⟩ :: l2)], []⟩)
  (fun i => s1.length - i.1) ⟨0, Lj _⟩ ?_ ?_
 · exact Le.kp
 rintro ⟨i, hi⟩
 dsimp only at hi ⊢
 by_cases hlt : i < s1.length
 ·
  have hil : i < xs.length := by omega
  have hd : (xs.map aZ)[i]? = some (.tup [.arr 32 s1[i].1, .arr 32 s1[i].2]) := by rw [List.getElem?_map, hg1 i hlt]; rfl
  have hb := xu s1[i].1 q
  rw [Io (hs1 _ (LH hlt))] at hb
  repeat
   (first
    | (with_reducible first | apply EC.seq | apply EC.r0 | apply EC.k0 | apply EC.label | apply EC.b0 | apply EC.x0 | apply EC.ret | apply EK.n0 | apply EK.s0 | apply EK.aA | apply EK.aj | apply EK.ah))
  refine EC.draw 19 (by kernel_rfl) ?_
  simp only [Kv, Kz, Ku, Kw]
  repeat
   (first
    | (apply fC (k := l1.length) (off := 54) (d := .tup [.arr 20 xa, .v (.int .i64 xn), .arr 32 xw, .bs xc, .sl 64 (xs.map aZ)]); rfl; exact I4; exact ⟨by simp, hd0⟩; iterate 4 rfl)
    | (apply bV (hb); rfl; exact RL.a; exact enA; iterate 2 rfl) | (apply aJ; iterate 3 rfl) | (apply gQ; iterate 7 rfl)
    | (apply gB; iterate 5 rfl) | (apply iy; iterate 4 rfl) | (apply aG; rfl; exact I.a; iterate 4 rfl)
    | (apply fP (b := true); (iterate 2 rfl); exact aN; iterate 2 rfl) | (apply lC; iterate 4 rfl)
    | (apply iK; (iterate 4 rfl); exact ixA; iterate 2 rfl)
    | (apply jI; rfl; exact I.a; (focus (first | omega | (simp; done) | (simp; omega))); iterate 2 rfl)
    | (apply dA; rfl; exact I.a; (focus (first | omega | (simp; done) | (simp; omega))); iterate 5 rfl) | ((with_reducible apply EH.nil); rfl))
  repeat
   (first
    | (apply aB; iterate 3 rfl) | (apply ak; iterate 3 rfl) | (apply dQ; (iterate 3 rfl); (focus omega); (focus omega); iterate 2 rfl) | apply EL.nil
    | (apply EC.t0; rfl)
    | (with_reducible first | apply EK.nc | apply EC.seq | apply EC.r0 | apply EC.k0 | apply EC.label | apply EC.b0 | apply EC.x0 | apply EC.ret | apply EK.n0 | apply EK.s0 | apply EK.aA | apply EK.aj | apply EK.ah))
  refine EK.again ⟨i + 1, hlt⟩ (by dsimp only; omega) ?_
  simp only [Ls]
  exact Le.kp
 ·
  have hiE : i = s1.length := by omega
  subst hiE
  have hpv : iw q v = if v = zero32 then [] else [(q, v)] := rfl
  have hcase : (∃ u, xs = s1 ++ (q, u) :: s2) ∨ (∃ p s3, s2 = p :: s3 ∧ xs = s1 ++ p :: s3 ∧ q < p.1) ∨ (s2 = [] ∧ s1 = xs) := by
   rcases h3 with h3 | h3
   · exact .inl h3
   ·
    cases s2 with
    | nil => exact .inr (.inr ⟨rfl, by simpa using h3.symm⟩)
    | cons p s3 => exact .inr (.inl ⟨p, s3, rfl, h3, hs2 p KH⟩)
  rcases hcase with ⟨u, rfl⟩ | ⟨p, s3, rfl, rfl, hqp⟩ | ⟨rfl, rfl⟩
  ·
   have hd : ((s1 ++ (q, u) :: s2).map aZ)[s1.length]? = some (.tup [.arr 32 q, .arr 32 u]) := by simp [aZ]
   have hb := xu q q
   rw [Bf] at hb
   have he := (fB q q).1
   rw [beq_self_eq_true] at he
   have hxl2 : (s1 ++ (q, u) :: s2).length = s1.length + 1 + s2.length := by simp; omega
   have hT : List.take (↑s1.length : Int).toNat (List.map aZ (s1 ++ (q, u) :: s2)) = s1.map aZ := by rw [LP, ← List.map_take]; simp
   have hDr : List.drop (↑s1.length + 1 : Int).toNat (List.map aZ (s1 ++ (q, u) :: s2)) = (s2).map aZ := by rw [show (↑s1.length + 1 : Int).toNat = s1.length + 1 by omega, ← List.map_drop]; simp [List.drop_append]
   repeat
    (first
     | (with_reducible first | apply EC.seq | apply EC.r0 | apply EC.k0 | apply EC.label | apply EC.b0 | apply EC.x0 | apply EC.ret | apply EK.n0 | apply EK.s0 | apply EK.aA | apply EK.aj | apply EK.ah))
   refine EC.draw 19 (by kernel_rfl) ?_
   simp only [Kv, Kz, Ku, Kw]
   repeat
    (first
     | (apply fC (k := l1.length) (off := 54) (d := .tup [.arr 20 xa, .v (.int .i64 xn), .arr 32 xw, .bs xc, .sl 64 ((s1 ++ (q, u) :: s2).map aZ)]); rfl; exact I4; exact ⟨by simp, hd0⟩; iterate 4 rfl)
     | (apply bV (hb); rfl; exact RL.a; exact enA; iterate 2 rfl) | (apply aJ; iterate 3 rfl) | (apply gQ; iterate 7 rfl)
     | (apply gB; iterate 5 rfl) | (apply iy; iterate 4 rfl) | (apply aG; rfl; exact I.a; iterate 4 rfl)
     | (apply fP (b := true); (iterate 2 rfl); exact aN; iterate 2 rfl) | (apply lC; iterate 4 rfl)
     | (apply iK; (iterate 4 rfl); exact ixA; iterate 2 rfl)
     | (apply jI; rfl; exact I.a; (focus (first | omega | (simp; done) | (simp; omega))); iterate 2 rfl)
     | (apply dA; rfl; exact I.a; (focus (first | omega | (simp; done) | (simp; omega))); iterate 5 rfl) | ((with_reducible apply EH.nil); rfl))
   repeat
    (first
     | (apply aB; iterate 3 rfl) | (apply ak; iterate 3 rfl) | apply EL.nil | (apply EC.f0; rfl)
     | (with_reducible first | apply EK.nc | apply EC.seq | apply EC.r0 | apply EC.k0 | apply EC.label | apply EC.b0 | apply EC.x0 | apply EC.ret | apply EK.n0 | apply EK.s0 | apply EK.aA | apply EK.aj | apply EK.ah))
   refine EC.draw 19 (by kernel_rfl) ?_
   simp only [Kv, Kz, Ku, Kw]
   repeat
    (first
     | (apply fC (k := l1.length) (off := 54) (d := .tup [.arr 20 xa, .v (.int .i64 xn), .arr 32 xw, .bs xc, .sl 64 ((s1 ++ (q, u) :: s2).map aZ)]); rfl; exact I4; exact ⟨by simp, hd0⟩; iterate 4 rfl)
     | (apply fQ; (iterate 2 rfl); exact he; iterate 2 rfl) | (apply aJ; iterate 3 rfl) | (apply gQ; iterate 7 rfl) | (apply gB; iterate 5 rfl)
     | (apply iy; iterate 4 rfl) | (apply aG; rfl; exact I.a; iterate 4 rfl) | (apply fP (b := true); (iterate 2 rfl); exact aN; iterate 2 rfl)
     | (apply lC; iterate 4 rfl)
     | (apply iK; (iterate 4 rfl); exact ixA; iterate 2 rfl)
     | (apply jI; rfl; exact I.a; (focus (first | omega | (simp; done) | (simp; omega))); iterate 2 rfl)
     | (apply dA; rfl; exact I.a; (focus (first | omega | (simp; done) | (simp; omega))); iterate 5 rfl) | ((with_reducible apply EH.nil); rfl))
   repeat
    (first
     | (apply bQ (k := l1.length) (off := 54) (d := .tup [.arr 20 xa, .v (.int .i64 xn), .arr 32 xw, .bs xc, .sl 64 ((s1 ++ (q, u) :: s2).map aZ)]); rfl; exact I4; exact ⟨by simp, hd0⟩; iterate 4 rfl)
     | (apply aB; iterate 3 rfl) | (apply ak; iterate 3 rfl) | (apply dQ; (iterate 3 rfl); (focus omega); (focus omega); iterate 2 rfl)
     | (apply eY; rfl; exact I.a; (focus (first | omega | (simp; done) | (simp; omega))); iterate 2 rfl)
     | (apply bI; rfl; exact I.a; (focus (first | omega | (simp; done) | (simp; omega))); iterate 5 rfl) | apply EL.nil
     | (apply EC.t0; rfl)
     | (with_reducible first | apply EK.nc | apply EC.seq | apply EC.r0 | apply EC.k0 | apply EC.label | apply EC.b0 | apply EC.x0 | apply EC.ret | apply EK.n0 | apply EK.s0 | apply EK.aA | apply EK.aj | apply EK.ah))
   refine EL.le (Le.row 63 64) ?_
   dsimp only
   by_cases hv : v = zero32
   ·
    have hz := (fB v zero32).2
    rw [show (v != zero32) = false by simp [hv]] at hz
    repeat
     (first
      | (apply qG; (iterate 3 rfl); exact ⟨by omega, by rw [hml, hxl2, LP]; omega⟩; iterate 2 rfl)
      | (apply je; (iterate 3 rfl); exact ⟨by omega, by rw [hml, hxl2]; omega⟩; iterate 2 rfl)
      | (apply bQ (k := l1.length) (off := 54) (d := .tup [.arr 20 xa, .v (.int .i64 xn), .arr 32 xw, .bs xc, .sl 64 ((s1 ++ (q, u) :: s2).map aZ)]); rfl; exact I5; exact ⟨by simp, hd0⟩; iterate 4 rfl)
      | (apply dO; (iterate 2 rfl); exact hz; iterate 2 rfl) | (apply aB; iterate 3 rfl) | (apply ak; iterate 3 rfl)
      | (apply aF; rfl; exact I.a; iterate 4 rfl) | (apply dI; iterate 5 rfl)
      | (apply eY; rfl; exact I.a; (focus (first | omega | (simp; done) | (simp; omega))); iterate 2 rfl)
      | (apply bI; rfl; exact I.a; (focus (first | omega | (simp; done) | (simp; omega))); iterate 5 rfl)
      | ((apply dP; rfl; exact saA; (iterate 5 rfl); (focus (constructor <;> (first | (simp; done) | (simp; omega))))); intro _)
      | apply EL.nil | (apply EC.f0; rfl)
      | (with_reducible first | apply EK.nc | apply EC.seq | apply EC.r0 | apply EC.k0 | apply EC.label | apply EC.b0 | apply EC.x0 | apply EC.ret | apply EK.n0 | apply EK.s0 | apply EK.aA | apply EK.aj | apply EK.ah))
    refine EL.le (Le.freeze (pre := []) rfl) ?_
    refine EL.le (Le.refine (t := 82) rfl (Rf.fact KH rfl)) ?_
    have hp : iw q v = [] := by rw [hpv, if_pos hv]
    rw [hT, hDr, show [] ++ s1.map aZ ++ (s2).map aZ = (s1 ++ iw q v ++ s2).map aZ by rw [hp]; simp]
    repeat
     (first
      | (apply dw (k := l1.length) (off := 54) (d := .tup [.arr 20 xa, .v (.int .i64 xn), .arr 32 xw, .bs xc, .sl 64 ((s1 ++ (q, u) :: s2).map aZ)]) (d'' := .tup [.arr 20 xa, .v (.int .i64 xn), .arr 32 xw, .bs xc, .sl 64 ((s1 ++ iw q v ++ s2).map aZ)]); rfl; exact .s (.s (.s (.s .z))); exact ⟨by simp, hd0⟩; iterate 4 rfl)
      | apply EL.nil)
    exact EK.eH [rsO g L' k n, .row L' 51 55 (((l1 ++ ⟨xa, xn, xw, xc, (s1 ++ (q, u) :: s2)⟩ :: l2).map aI).set l1.length (aI ⟨xa, xn, xw, xc, s1 ++ iw q v ++ s2⟩))] rfl (by (repeat first | exact KE _ | apply List.Sublist.cons_cons | apply List.Sublist.cons)) ⟨rfl, by rw [gW]; exact RSt.of ha (by omega) ha.ad ⟨by dsimp only; rw [hp]; simp; omega, ha.bx.2⟩ hput⟩
   ·
    have hz := (fB v zero32).2
    rw [show (v != zero32) = true by simp [hv]] at hz
    repeat
     (first
      | (apply qG; (iterate 3 rfl); exact ⟨by omega, by rw [hml, hxl2, LP]; omega⟩; iterate 2 rfl)
      | (apply je; (iterate 3 rfl); exact ⟨by omega, by rw [hml, hxl2]; omega⟩; iterate 2 rfl)
      | (apply bQ (k := l1.length) (off := 54) (d := .tup [.arr 20 xa, .v (.int .i64 xn), .arr 32 xw, .bs xc, .sl 64 ((s1 ++ (q, u) :: s2).map aZ)]); rfl; exact I5; exact ⟨by simp, hd0⟩; iterate 4 rfl)
      | (apply dO; (iterate 2 rfl); exact hz; iterate 2 rfl) | (apply aB; iterate 3 rfl) | (apply ak; iterate 3 rfl)
      | (apply aF; rfl; exact I.a; iterate 4 rfl) | (apply jo; iterate 7 rfl) | (apply dI; iterate 5 rfl) | (apply kM; iterate 9 rfl)
      | (apply eY; rfl; exact I.a; (focus (first | omega | (simp; done) | (simp; omega))); iterate 2 rfl)
      | (apply bI; rfl; exact I.a; (focus (first | omega | (simp; done) | (simp; omega))); iterate 5 rfl)
      | ((apply dP; rfl; exact saA; (iterate 5 rfl); (focus (constructor <;> (first | (simp; done) | (simp; omega))))); intro _)
      | apply EL.nil | (apply EC.t0; rfl)
      | (with_reducible first | apply EK.nc | apply EC.seq | apply EC.r0 | apply EC.k0 | apply EC.label | apply EC.b0 | apply EC.x0 | apply EC.ret | apply EK.n0 | apply EK.s0 | apply EK.aA | apply EK.aj | apply EK.ah))
    refine EL.le (Le.freeze (pre := []) rfl) ?_
    refine EL.le (Le.refine (t := 82) rfl (Rf.fact KH rfl)) ?_
    have hp : iw q v = [(q, v)] := by rw [hpv, if_neg hv]
    rw [hT, hDr, show [] ++ s1.map aZ ++ [D.tup [.arr 32 q, .arr 32 v]] ++ (s2).map aZ = (s1 ++ iw q v ++ s2).map aZ by rw [hp]; simp [aZ]]
    repeat
     (first
      | (apply dw (k := l1.length) (off := 54) (d := .tup [.arr 20 xa, .v (.int .i64 xn), .arr 32 xw, .bs xc, .sl 64 ((s1 ++ (q, u) :: s2).map aZ)]) (d'' := .tup [.arr 20 xa, .v (.int .i64 xn), .arr 32 xw, .bs xc, .sl 64 ((s1 ++ iw q v ++ s2).map aZ)]); rfl; exact .s (.s (.s (.s .z))); exact ⟨by simp, hd0⟩; iterate 4 rfl)
      | apply EL.nil)
    exact EK.eH [rsO g L' k n, .row L' 51 55 (((l1 ++ ⟨xa, xn, xw, xc, (s1 ++ (q, u) :: s2)⟩ :: l2).map aI).set l1.length (aI ⟨xa, xn, xw, xc, s1 ++ iw q v ++ s2⟩))] rfl (by (repeat first | exact KE _ | apply List.Sublist.cons_cons | apply List.Sublist.cons)) ⟨rfl, by rw [gW]; exact RSt.of ha (by omega) ha.ad ⟨by dsimp only; rw [hp]; simp; omega, ha.bx.2⟩ hput⟩
  ·
   have hd : ((s1 ++ p :: s3).map aZ)[s1.length]? = some (.tup [.arr 32 p.1, .arr 32 p.2]) := by simp [aZ]
   have hb := xu p.1 q
   rw [Ip (fun h => L9 _ (NJ h hqp))] at hb
   have he := (fB p.1 q).1
   rw [show (p.1 == q) = false by simp only [beq_eq_false_iff_ne, ne_eq]; exact fun e => L9 q (by rwa [e] at hqp)] at he
   have hxl2 : (s1 ++ p :: s3).length = s1.length + 1 + s3.length := by simp; omega
   have hT : List.take (↑s1.length : Int).toNat (List.map aZ (s1 ++ p :: s3)) = s1.map aZ := by rw [LP, ← List.map_take]; simp
   have hDr : List.drop (↑s1.length : Int).toNat (List.map aZ (s1 ++ p :: s3)) = ((p :: s3)).map aZ := by rw [show (↑s1.length : Int).toNat = s1.length by omega, ← List.map_drop]; simp
   repeat
    (first
     | (with_reducible first | apply EC.seq | apply EC.r0 | apply EC.k0 | apply EC.label | apply EC.b0 | apply EC.x0 | apply EC.ret | apply EK.n0 | apply EK.s0 | apply EK.aA | apply EK.aj | apply EK.ah))
   refine EC.draw 19 (by kernel_rfl) ?_
   simp only [Kv, Kz, Ku, Kw]
   repeat
    (first
     | (apply fC (k := l1.length) (off := 54) (d := .tup [.arr 20 xa, .v (.int .i64 xn), .arr 32 xw, .bs xc, .sl 64 ((s1 ++ p :: s3).map aZ)]); rfl; exact I4; exact ⟨by simp, hd0⟩; iterate 4 rfl)
     | (apply bV (hb); rfl; exact RL.a; exact enA; iterate 2 rfl) | (apply aJ; iterate 3 rfl) | (apply gQ; iterate 7 rfl)
     | (apply gB; iterate 5 rfl) | (apply iy; iterate 4 rfl) | (apply aG; rfl; exact I.a; iterate 4 rfl)
     | (apply fP (b := true); (iterate 2 rfl); exact aN; iterate 2 rfl) | (apply lC; iterate 4 rfl)
     | (apply iK; (iterate 4 rfl); exact ixA; iterate 2 rfl)
     | (apply jI; rfl; exact I.a; (focus (first | omega | (simp; done) | (simp; omega))); iterate 2 rfl)
     | (apply dA; rfl; exact I.a; (focus (first | omega | (simp; done) | (simp; omega))); iterate 5 rfl) | ((with_reducible apply EH.nil); rfl))
   repeat
    (first
     | (apply aB; iterate 3 rfl) | (apply ak; iterate 3 rfl) | apply EL.nil | (apply EC.f0; rfl)
     | (with_reducible first | apply EK.nc | apply EC.seq | apply EC.r0 | apply EC.k0 | apply EC.label | apply EC.b0 | apply EC.x0 | apply EC.ret | apply EK.n0 | apply EK.s0 | apply EK.aA | apply EK.aj | apply EK.ah))
   refine EC.draw 19 (by kernel_rfl) ?_
   simp only [Kv, Kz, Ku, Kw]
   repeat
    (first
     | (apply fC (k := l1.length) (off := 54) (d := .tup [.arr 20 xa, .v (.int .i64 xn), .arr 32 xw, .bs xc, .sl 64 ((s1 ++ p :: s3).map aZ)]); rfl; exact I4; exact ⟨by simp, hd0⟩; iterate 4 rfl)
     | (apply fQ; (iterate 2 rfl); exact he; iterate 2 rfl) | (apply aJ; iterate 3 rfl) | (apply gQ; iterate 7 rfl) | (apply gB; iterate 5 rfl)
     | (apply iy; iterate 4 rfl) | (apply aG; rfl; exact I.a; iterate 4 rfl) | (apply fP (b := true); (iterate 2 rfl); exact aN; iterate 2 rfl)
     | (apply lC; iterate 4 rfl)
     | (apply iK; (iterate 4 rfl); exact ixA; iterate 2 rfl)
     | (apply jI; rfl; exact I.a; (focus (first | omega | (simp; done) | (simp; omega))); iterate 2 rfl)
     | (apply dA; rfl; exact I.a; (focus (first | omega | (simp; done) | (simp; omega))); iterate 5 rfl) | ((with_reducible apply EH.nil); rfl))
   repeat
    (first
     | (apply bQ (k := l1.length) (off := 54) (d := .tup [.arr 20 xa, .v (.int .i64 xn), .arr 32 xw, .bs xc, .sl 64 ((s1 ++ p :: s3).map aZ)]); rfl; exact I4; exact ⟨by simp, hd0⟩; iterate 4 rfl)
     | (apply aB; iterate 3 rfl) | (apply eY; rfl; exact I.a; (focus (first | omega | (simp; done) | (simp; omega))); iterate 2 rfl)
     | (apply bI; rfl; exact I.a; (focus (first | omega | (simp; done) | (simp; omega))); iterate 5 rfl) | apply EL.nil
     | (apply EC.f0; rfl)
     | (with_reducible first | apply EK.nc | apply EC.seq | apply EC.r0 | apply EC.k0 | apply EC.label | apply EC.b0 | apply EC.x0 | apply EC.ret | apply EK.n0 | apply EK.s0 | apply EK.aA | apply EK.aj | apply EK.ah))
   refine EL.le (Le.row 63 64) ?_
   dsimp only
   by_cases hv : v = zero32
   ·
    have hz := (fB v zero32).2
    rw [show (v != zero32) = false by simp [hv]] at hz
    repeat
     (first
      | (apply qG; (iterate 3 rfl); exact ⟨by omega, by rw [hml, hxl2, LP]; omega⟩; iterate 2 rfl)
      | (apply je; (iterate 3 rfl); exact ⟨by omega, by rw [hml, hxl2]; omega⟩; iterate 2 rfl)
      | (apply bQ (k := l1.length) (off := 54) (d := .tup [.arr 20 xa, .v (.int .i64 xn), .arr 32 xw, .bs xc, .sl 64 ((s1 ++ p :: s3).map aZ)]); rfl; exact I5; exact ⟨by simp, hd0⟩; iterate 4 rfl)
      | (apply dO; (iterate 2 rfl); exact hz; iterate 2 rfl) | (apply aB; iterate 3 rfl) | (apply ak; iterate 3 rfl)
      | (apply aF; rfl; exact I.a; iterate 4 rfl) | (apply dI; iterate 5 rfl)
      | (apply eY; rfl; exact I.a; (focus (first | omega | (simp; done) | (simp; omega))); iterate 2 rfl)
      | (apply bI; rfl; exact I.a; (focus (first | omega | (simp; done) | (simp; omega))); iterate 5 rfl)
      | ((apply dP; rfl; exact saA; (iterate 5 rfl); (focus (constructor <;> (first | (simp; done) | (simp; omega))))); intro _)
      | apply EL.nil | (apply EC.f0; rfl)
      | (with_reducible first | apply EK.nc | apply EC.seq | apply EC.r0 | apply EC.k0 | apply EC.label | apply EC.b0 | apply EC.x0 | apply EC.ret | apply EK.n0 | apply EK.s0 | apply EK.aA | apply EK.aj | apply EK.ah))
    refine EL.le (Le.freeze (pre := []) rfl) ?_
    refine EL.le (Le.refine (t := 82) rfl (Rf.fact KH rfl)) ?_
    have hp : iw q v = [] := by rw [hpv, if_pos hv]
    rw [hT, hDr, show [] ++ s1.map aZ ++ ((p :: s3)).map aZ = (s1 ++ iw q v ++ (p :: s3)).map aZ by rw [hp]; simp]
    repeat
     (first
      | (apply dw (k := l1.length) (off := 54) (d := .tup [.arr 20 xa, .v (.int .i64 xn), .arr 32 xw, .bs xc, .sl 64 ((s1 ++ p :: s3).map aZ)]) (d'' := .tup [.arr 20 xa, .v (.int .i64 xn), .arr 32 xw, .bs xc, .sl 64 ((s1 ++ iw q v ++ (p :: s3)).map aZ)]); rfl; exact .s (.s (.s (.s .z))); exact ⟨by simp, hd0⟩; iterate 4 rfl)
      | apply EL.nil)
    exact EK.eH [rsO g L' k n, .row L' 51 55 (((l1 ++ ⟨xa, xn, xw, xc, (s1 ++ p :: s3)⟩ :: l2).map aI).set l1.length (aI ⟨xa, xn, xw, xc, s1 ++ iw q v ++ (p :: s3)⟩))] rfl (by (repeat first | exact KE _ | apply List.Sublist.cons_cons | apply List.Sublist.cons)) ⟨rfl, by rw [gW]; exact RSt.of ha (by omega) ha.ad ⟨by dsimp only; rw [hp]; simp; omega, ha.bx.2⟩ hput⟩
   ·
    have hz := (fB v zero32).2
    rw [show (v != zero32) = true by simp [hv]] at hz
    repeat
     (first
      | (apply qG; (iterate 3 rfl); exact ⟨by omega, by rw [hml, hxl2, LP]; omega⟩; iterate 2 rfl)
      | (apply je; (iterate 3 rfl); exact ⟨by omega, by rw [hml, hxl2]; omega⟩; iterate 2 rfl)
      | (apply bQ (k := l1.length) (off := 54) (d := .tup [.arr 20 xa, .v (.int .i64 xn), .arr 32 xw, .bs xc, .sl 64 ((s1 ++ p :: s3).map aZ)]); rfl; exact I5; exact ⟨by simp, hd0⟩; iterate 4 rfl)
      | (apply dO; (iterate 2 rfl); exact hz; iterate 2 rfl) | (apply aB; iterate 3 rfl) | (apply ak; iterate 3 rfl)
      | (apply aF; rfl; exact I.a; iterate 4 rfl) | (apply jo; iterate 7 rfl) | (apply dI; iterate 5 rfl) | (apply kM; iterate 9 rfl)
      | (apply eY; rfl; exact I.a; (focus (first | omega | (simp; done) | (simp; omega))); iterate 2 rfl)
      | (apply bI; rfl; exact I.a; (focus (first | omega | (simp; done) | (simp; omega))); iterate 5 rfl)
      | ((apply dP; rfl; exact saA; (iterate 5 rfl); (focus (constructor <;> (first | (simp; done) | (simp; omega))))); intro _)
      | apply EL.nil | (apply EC.t0; rfl)
      | (with_reducible first | apply EK.nc | apply EC.seq | apply EC.r0 | apply EC.k0 | apply EC.label | apply EC.b0 | apply EC.x0 | apply EC.ret | apply EK.n0 | apply EK.s0 | apply EK.aA | apply EK.aj | apply EK.ah))
    refine EL.le (Le.freeze (pre := []) rfl) ?_
    refine EL.le (Le.refine (t := 82) rfl (Rf.fact KH rfl)) ?_
    have hp : iw q v = [(q, v)] := by rw [hpv, if_neg hv]
    rw [hT, hDr, show [] ++ s1.map aZ ++ [D.tup [.arr 32 q, .arr 32 v]] ++ ((p :: s3)).map aZ = (s1 ++ iw q v ++ (p :: s3)).map aZ by rw [hp]; simp [aZ]]
    repeat
     (first
      | (apply dw (k := l1.length) (off := 54) (d := .tup [.arr 20 xa, .v (.int .i64 xn), .arr 32 xw, .bs xc, .sl 64 ((s1 ++ p :: s3).map aZ)]) (d'' := .tup [.arr 20 xa, .v (.int .i64 xn), .arr 32 xw, .bs xc, .sl 64 ((s1 ++ iw q v ++ (p :: s3)).map aZ)]); rfl; exact .s (.s (.s (.s .z))); exact ⟨by simp, hd0⟩; iterate 4 rfl)
      | apply EL.nil)
    exact EK.eH [rsO g L' k n, .row L' 51 55 (((l1 ++ ⟨xa, xn, xw, xc, (s1 ++ p :: s3)⟩ :: l2).map aI).set l1.length (aI ⟨xa, xn, xw, xc, s1 ++ iw q v ++ (p :: s3)⟩))] rfl (by (repeat first | exact KE _ | apply List.Sublist.cons_cons | apply List.Sublist.cons)) ⟨rfl, by rw [gW]; exact RSt.of ha (by omega) ha.ad ⟨by dsimp only; rw [hp]; simp; omega, ha.bx.2⟩ hput⟩
  ·
   have hge : ¬ s1.length < s1.length := Nat.lt_irrefl _
   have hxl2 : s1.length = s1.length := rfl
   have hT : List.take (↑s1.length : Int).toNat (List.map aZ s1) = s1.map aZ := by rw [LP, ← List.map_take]; simp
   have hDr : List.drop (↑s1.length : Int).toNat (List.map aZ s1) = ([]).map aZ := by rw [show (↑s1.length : Int).toNat = s1.length by omega, ← List.map_drop]; simp
   repeat
    (first
     | (with_reducible first | apply EC.seq | apply EC.r0 | apply EC.k0 | apply EC.label | apply EC.b0 | apply EC.x0 | apply EC.ret | apply EK.n0 | apply EK.s0 | apply EK.aA | apply EK.aj | apply EK.ah))
   refine EC.draw 19 (by kernel_rfl) ?_
   simp only [Kv, Kz, Ku, Kw]
   repeat
    (first
     | (apply xX; iterate 2 rfl)
     | (apply fC (k := l1.length) (off := 54) (d := .tup [.arr 20 xa, .v (.int .i64 xn), .arr 32 xw, .bs xc, .sl 64 (s1.map aZ)]); rfl; exact I4; exact ⟨by simp, hd0⟩; iterate 4 rfl)
     | (apply aJ; iterate 3 rfl) | (apply iy; iterate 4 rfl) | (apply fP (b := false); (iterate 2 rfl); exact aN; iterate 2 rfl)
     | (apply lC; iterate 4 rfl) | (apply jI; rfl; exact I.a; (focus (first | omega | (simp; done) | (simp; omega))); iterate 2 rfl)
     | (apply dA; rfl; exact I.a; (focus (first | omega | (simp; done) | (simp; omega))); iterate 5 rfl) | ((with_reducible apply EH.nil); rfl))
   repeat
    (first
     | (apply aB; iterate 3 rfl) | (apply ak; iterate 3 rfl) | apply EL.nil | (apply EC.f0; rfl)
     | (with_reducible first | apply EK.nc | apply EC.seq | apply EC.r0 | apply EC.k0 | apply EC.label | apply EC.b0 | apply EC.x0 | apply EC.ret | apply EK.n0 | apply EK.s0 | apply EK.aA | apply EK.aj | apply EK.ah))
   refine EC.draw 19 (by kernel_rfl) ?_
   simp only [Kv, Kz, Ku, Kw]
   repeat
    (first
     | (apply xX; iterate 2 rfl)
     | (apply fC (k := l1.length) (off := 54) (d := .tup [.arr 20 xa, .v (.int .i64 xn), .arr 32 xw, .bs xc, .sl 64 (s1.map aZ)]); rfl; exact I4; exact ⟨by simp, hd0⟩; iterate 4 rfl)
     | (apply aJ; iterate 3 rfl) | (apply iy; iterate 4 rfl) | (apply fP (b := false); (iterate 2 rfl); exact aN; iterate 2 rfl)
     | (apply lC; iterate 4 rfl) | (apply jI; rfl; exact I.a; (focus (first | omega | (simp; done) | (simp; omega))); iterate 2 rfl)
     | (apply dA; rfl; exact I.a; (focus (first | omega | (simp; done) | (simp; omega))); iterate 5 rfl) | ((with_reducible apply EH.nil); rfl))
   repeat
    (first
     | (apply bQ (k := l1.length) (off := 54) (d := .tup [.arr 20 xa, .v (.int .i64 xn), .arr 32 xw, .bs xc, .sl 64 (s1.map aZ)]); rfl; exact I4; exact ⟨by simp, hd0⟩; iterate 4 rfl)
     | (apply aB; iterate 3 rfl) | (apply eY; rfl; exact I.a; (focus (first | omega | (simp; done) | (simp; omega))); iterate 2 rfl)
     | (apply bI; rfl; exact I.a; (focus (first | omega | (simp; done) | (simp; omega))); iterate 5 rfl) | apply EL.nil
     | (apply EC.f0; rfl)
     | (with_reducible first | apply EK.nc | apply EC.seq | apply EC.r0 | apply EC.k0 | apply EC.label | apply EC.b0 | apply EC.x0 | apply EC.ret | apply EK.n0 | apply EK.s0 | apply EK.aA | apply EK.aj | apply EK.ah))
   refine EL.le (Le.row 63 64) ?_
   dsimp only
   by_cases hv : v = zero32
   ·
    have hz := (fB v zero32).2
    rw [show (v != zero32) = false by simp [hv]] at hz
    repeat
     (first
      | (apply qG; (iterate 3 rfl); exact ⟨by omega, by rw [hml, hxl2, LP]; omega⟩; iterate 2 rfl)
      | (apply je; (iterate 3 rfl); exact ⟨by omega, by rw [hml, hxl2]; omega⟩; iterate 2 rfl)
      | (apply bQ (k := l1.length) (off := 54) (d := .tup [.arr 20 xa, .v (.int .i64 xn), .arr 32 xw, .bs xc, .sl 64 (s1.map aZ)]); rfl; exact I5; exact ⟨by simp, hd0⟩; iterate 4 rfl)
      | (apply dO; (iterate 2 rfl); exact hz; iterate 2 rfl) | (apply aB; iterate 3 rfl) | (apply ak; iterate 3 rfl)
      | (apply aF; rfl; exact I.a; iterate 4 rfl) | (apply dI; iterate 5 rfl)
      | (apply eY; rfl; exact I.a; (focus (first | omega | (simp; done) | (simp; omega))); iterate 2 rfl)
      | (apply bI; rfl; exact I.a; (focus (first | omega | (simp; done) | (simp; omega))); iterate 5 rfl)
      | ((apply dP; rfl; exact saA; (iterate 5 rfl); (focus (constructor <;> (first | (simp; done) | (simp; omega))))); intro _)
      | apply EL.nil | (apply EC.f0; rfl)
      | (with_reducible first | apply EK.nc | apply EC.seq | apply EC.r0 | apply EC.k0 | apply EC.label | apply EC.b0 | apply EC.x0 | apply EC.ret | apply EK.n0 | apply EK.s0 | apply EK.aA | apply EK.aj | apply EK.ah))
    refine EL.le (Le.freeze (pre := []) rfl) ?_
    refine EL.le (Le.refine (t := 82) rfl (Rf.fact KH rfl)) ?_
    have hp : iw q v = [] := by rw [hpv, if_pos hv]
    rw [hT, hDr, show [] ++ s1.map aZ ++ ([]).map aZ = (s1 ++ iw q v ++ []).map aZ by rw [hp]; simp]
    repeat
     (first
      | (apply dw (k := l1.length) (off := 54) (d := .tup [.arr 20 xa, .v (.int .i64 xn), .arr 32 xw, .bs xc, .sl 64 (s1.map aZ)]) (d'' := .tup [.arr 20 xa, .v (.int .i64 xn), .arr 32 xw, .bs xc, .sl 64 ((s1 ++ iw q v ++ []).map aZ)]); rfl; exact .s (.s (.s (.s .z))); exact ⟨by simp, hd0⟩; iterate 4 rfl)
      | apply EL.nil)
    exact EK.eH [rsO g L' k n, .row L' 51 55 (((l1 ++ ⟨xa, xn, xw, xc, s1⟩ :: l2).map aI).set l1.length (aI ⟨xa, xn, xw, xc, s1 ++ iw q v ++ []⟩))] rfl (by (repeat first | exact KE _ | apply List.Sublist.cons_cons | apply List.Sublist.cons)) ⟨rfl, by rw [gW]; exact RSt.of ha (by omega) ha.ad ⟨by dsimp only; rw [hp]; simp; omega, ha.bx.2⟩ hput⟩
   ·
    have hz := (fB v zero32).2
    rw [show (v != zero32) = true by simp [hv]] at hz
    repeat
     (first
      | (apply qG; (iterate 3 rfl); exact ⟨by omega, by rw [hml, hxl2, LP]; omega⟩; iterate 2 rfl)
      | (apply je; (iterate 3 rfl); exact ⟨by omega, by rw [hml, hxl2]; omega⟩; iterate 2 rfl)
      | (apply bQ (k := l1.length) (off := 54) (d := .tup [.arr 20 xa, .v (.int .i64 xn), .arr 32 xw, .bs xc, .sl 64 (s1.map aZ)]); rfl; exact I5; exact ⟨by simp, hd0⟩; iterate 4 rfl)
      | (apply dO; (iterate 2 rfl); exact hz; iterate 2 rfl) | (apply aB; iterate 3 rfl) | (apply ak; iterate 3 rfl)
      | (apply aF; rfl; exact I.a; iterate 4 rfl) | (apply jo; iterate 7 rfl) | (apply dI; iterate 5 rfl) | (apply kM; iterate 9 rfl)
      | (apply eY; rfl; exact I.a; (focus (first | omega | (simp; done) | (simp; omega))); iterate 2 rfl)
      | (apply bI; rfl; exact I.a; (focus (first | omega | (simp; done) | (simp; omega))); iterate 5 rfl)
      | ((apply dP; rfl; exact saA; (iterate 5 rfl); (focus (constructor <;> (first | (simp; done) | (simp; omega))))); intro _)
      | apply EL.nil | (apply EC.t0; rfl)
      | (with_reducible first | apply EK.nc | apply EC.seq | apply EC.r0 | apply EC.k0 | apply EC.label | apply EC.b0 | apply EC.x0 | apply EC.ret | apply EK.n0 | apply EK.s0 | apply EK.aA | apply EK.aj | apply EK.ah))
    refine EL.le (Le.freeze (pre := []) rfl) ?_
    refine EL.le (Le.refine (t := 82) rfl (Rf.fact KH rfl)) ?_
    have hp : iw q v = [(q, v)] := by rw [hpv, if_neg hv]
    rw [hT, hDr, show [] ++ s1.map aZ ++ [D.tup [.arr 32 q, .arr 32 v]] ++ ([]).map aZ = (s1 ++ iw q v ++ []).map aZ by rw [hp]; simp [aZ]]
    repeat
     (first
      | (apply dw (k := l1.length) (off := 54) (d := .tup [.arr 20 xa, .v (.int .i64 xn), .arr 32 xw, .bs xc, .sl 64 (s1.map aZ)]) (d'' := .tup [.arr 20 xa, .v (.int .i64 xn), .arr 32 xw, .bs xc, .sl 64 ((s1 ++ iw q v ++ []).map aZ)]); rfl; exact .s (.s (.s (.s .z))); exact ⟨by simp, hd0⟩; iterate 4 rfl)
      | apply EL.nil)
    exact EK.eH [rsO g L' k n, .row L' 51 55 (((l1 ++ ⟨xa, xn, xw, xc, s1⟩ :: l2).map aI).set l1.length (aI ⟨xa, xn, xw, xc, s1 ++ iw q v ++ []⟩))] rfl (by (repeat first | exact KE _ | apply List.Sublist.cons_cons | apply List.Sublist.cons)) ⟨rfl, by rw [gW]; exact RSt.of ha (by omega) ha.ad ⟨by dsimp only; rw [hp]; simp; omega, ha.bx.2⟩ hput⟩
end E
end Go.Proofs.YtkhjanjlcdhdcaaGreat
namespace Go.Proofs.YtkhjanjlcdhdcaaGreat
set_option linter.unusedVariables false
open Go.RowKit Mono Rlp Wd Go.Sort
namespace E
def oQ (A : As) (ch : List ChL) : As := ch.foldl (fun A c => c.of A) A
end E
end Go.Proofs.YtkhjanjlcdhdcaaGreat
namespace Go.Proofs.YtkhjanjlcdhdcaaGreat
set_option linter.unusedVariables false
set_option maxRecDepth 20000
set_option maxHeartbeats 16000000
open Go.RowKit Mono Rlp Wd
namespace E
theorem As.kP (A : As) (a : List UInt8) (x y : Ac) : (A.upd a x).upd a y = A.upd a y := by
 funext b
 unfold As.upd
 split <;> rfl
theorem As.upd_same (A : As) (a : List UInt8) (x : Ac) : (A.upd a x) a = x := if_pos rfl
theorem rZ (A : As) (a : List UInt8) : ∀ (sl : List (List UInt8 × List UInt8)) (y : Ac), jC a sl (A.upd a y) = A.upd a {y with sl := sl.foldl (fun f p => fun k => if p.1 = k then p.2 else f k) y.sl}
 | [], y => rfl
 | p :: sl, y => by
  have := rZ A a sl (y.slot p.1 p.2)
  unfold jC at this ⊢
  rw [NI, As.upd_same, As.kP, this]
  rfl
theorem GH (A : As) (x : AcL) : (⟨x.a, true, x.n, x.w, x.cd, x.sl⟩ : ChL).of A = A.upd x.a x.take := by
 unfold ChL.of ChL.base
 dsimp only
 rw [if_pos rfl]
 simp only [As.kP, As.upd_same]
 rw [rZ]
 rfl
theorem RSt.mono {g N M : Nat} {A : As} {os : List Obj} (h : RSt g A N os) (hm : N ≤ M) : RSt g A M os := by
 obtain ⟨L, k, n, l, rfl, hR, hl⟩ := h
 exact ⟨L, k, n, l, rfl, ⟨fun x hx => (hR.bd x hx).mono hm, hR.ord, hR.mem, hR.out⟩, Ll hl hm⟩
theorem RSt.nil (g : Nat) (L k : Value) (n : Int) : RSt g (kT []) 0 [rsO g L k n, .row L 51 55 []] := ⟨L, k, n, [], rfl, ⟨fun x hx => by simp at hx, .nil, fun x hx => by simp at hx, fun a _ => rfl⟩, KW _⟩
theorem J7 (l : List AcL) (hll : l.length ≤ 100) (hB : ∀ x ∈ l, x.sl.length ≤ 1000 ∧ x.cd.length ≤ 140737488355328) : FnM 7 [.sl 55 (l.map aI)] [] (fun r os' => ∃ g, r = .val (.v (ptr g)) ∧ RSt g (kT l) (l.length * 1005) os') := by
 have hml : (l.map aI).length = l.length := KG _
 refine FnM.walk 93 Tryz.func7 rfl Tryz.ntmps7 (by simp) fun X => ?_
 repeat
  (first
   | (apply ak; iterate 3 rfl) | (apply jo; iterate 7 rfl) | (apply aV; rfl; rfl; rfl; intro _) | apply EL.nil
   | (with_reducible first | apply EK.nc | apply EC.seq | apply EC.r0 | apply EC.k0 | apply EC.label | apply EC.b0 | apply EC.x0 | apply EC.ret | apply EK.n0 | apply EK.s0 | apply EK.aA | apply EK.aj | apply EK.ah))
 rename_i g
 refine EC.le (Le.row 51 55) ?_
 refine EC.le (Le.pick [1, 0] [_, _] rfl (by decide) rfl) ?_
 refine EC.loop (ι := {x : Nat × List Obj // x.1 ≤ l.length ∧ RSt g (kT (l.take x.1)) (x.1 * 1005) x.2})
  (fun x => ⟨[(4, .val (.v (.int .i64 (x.1.1 : Int)))), (3, .val (.v (ptr g))), (0, .val (.sl 55 (l.map aI)))], x.1.2, []⟩)
  (fun x => l.length - x.1.1) ⟨(0, _), Lj _, RSt.nil g dF dF 0⟩ ?_ ?_
 · exact (Le.keep (by repeat first | exact trivial | refine ⟨rfl, ?_⟩) (by repeat first | exact KQ _ | apply List.Sublist.cons_cons | apply List.Sublist.cons) (by simp))
 rintro ⟨⟨i, os1⟩, hil, h0⟩
 dsimp only at hil h0 ⊢
 by_cases hlt : i < l.length
 ·
  have hd : (l.map aI)[i]? = some (aI l[i]) := by rw [List.getElem?_map, KA hlt]; rfl
  have hBi := hB l[i] (LH hlt)
  have htk : kT (l.take (i + 1)) = (⟨l[i].a, true, l[i].n, l[i].w, l[i].cd, l[i].sl⟩ : ChL).of (kT (l.take i)) := by rw [LG hlt, uX, GH]
  generalize l[i] = x at hd hBi htk
  obtain ⟨xa, xn, xw, xc, xs⟩ := x
  unfold aI at hd
  dsimp only at hd hBi htk
  have hmx : (xs.map aZ).length = xs.length := KG _
  repeat
   (first
    | (apply nX (BA h0 (a := xa) (by omega)) [] rfl rfl (au.refl _ _) (by intro _ _; simp [go_sem]) rfl rfl; rintro _ os2 ⟨rfl, h1⟩; simp only [Kt])
    | (apply aB; iterate 3 rfl) | (apply dX; iterate 7 rfl) | (apply bP; iterate 5 rfl)
    | (apply aC (b := true); (iterate 2 rfl); exact aN; iterate 2 rfl) | (apply aU; iterate 4 rfl)
    | (apply dh; (iterate 4 rfl); exact ixA; iterate 2 rfl) | apply EL.nil
    | (apply EC.t0; rfl)
    | (with_reducible first | apply EK.nc | apply EC.seq | apply EC.r0 | apply EC.k0 | apply EC.label | apply EC.b0 | apply EC.x0 | apply EC.ret | apply EK.n0 | apply EK.s0 | apply EK.aA | apply EK.aj | apply EK.ah))
  refine EC.dL 12 [0, 1, 2, 3, 4, 5, 6, 7, 8, 9, 10] [11] os2 _ (by kernel_rfl) (by kernel_rfl) (KU _).symm ?_
  simp only [aQ, KJ, KN, KD, KF]
  repeat
   (first
    | (apply aJ; iterate 3 rfl) | (apply gQ; iterate 7 rfl) | (apply gB; iterate 5 rfl)
    | (apply iK; (iterate 4 rfl); exact ixA; iterate 2 rfl))
  refine EM.nil ?_
  repeat (first | rw [Kr] | rw [Kt])
  refine CH.dS (rest := []) (qO h1 (a := xa) (by omega) xn) rfl rfl (au.refl _ _) (by intro _ _; simp [go_sem]) rfl rfl ?_
  rintro _ os3 ⟨rfl, h2⟩
  simp only [St.put, KU]
  refine CH.nil ?_
  try simp only [Ku, Kw]
  repeat
   (first
    | apply EL.nil
    | (with_reducible first | apply EK.nc | apply EC.seq | apply EC.r0 | apply EC.k0 | apply EC.label | apply EC.b0 | apply EC.x0 | apply EC.ret | apply EK.n0 | apply EK.s0 | apply EK.aA | apply EK.aj | apply EK.ah))
  refine EC.dL 12 [0, 1, 2, 3, 4, 5, 6, 7, 8, 9, 10] [11] os3 _ (by kernel_rfl) (by kernel_rfl) (KU _).symm ?_
  simp only [aQ, KJ, KN, KD, KF]
  repeat
   (first
    | (apply aJ; iterate 3 rfl) | (apply gQ; iterate 7 rfl) | (apply gB; iterate 5 rfl)
    | (apply iK; (iterate 4 rfl); exact ixA; iterate 2 rfl))
  refine EM.nil ?_
  repeat (first | rw [Kr] | rw [Kt])
  refine CH.dS (rest := []) (iT h2 (a := xa) (by omega) xw) rfl rfl (au.refl _ _) (by intro _ _; simp [go_sem]) rfl rfl ?_
  rintro _ os4 ⟨rfl, h3⟩
  simp only [St.put, KU]
  refine CH.nil ?_
  try simp only [Ku, Kw]
  repeat
   (first
    | apply EL.nil
    | (with_reducible first | apply EK.nc | apply EC.seq | apply EC.r0 | apply EC.k0 | apply EC.label | apply EC.b0 | apply EC.x0 | apply EC.ret | apply EK.n0 | apply EK.s0 | apply EK.aA | apply EK.aj | apply EK.ah))
  refine EC.dL 12 [0, 1, 2, 3, 4, 5, 6, 7, 8, 9, 10] [11] os4 _ (by kernel_rfl) (by kernel_rfl) (KU _).symm ?_
  simp only [aQ, KJ, KN, KD, KF]
  repeat
   (first
    | (apply aJ; iterate 3 rfl) | (apply gQ; iterate 7 rfl) | (apply gB; iterate 5 rfl)
    | (apply iK; (iterate 4 rfl); exact ixA; iterate 2 rfl))
  refine EM.nil ?_
  repeat (first | rw [Kr] | rw [Kt])
  refine CH.dS (rest := []) (sN h3 (a := xa) (by omega) xc hBi.2) rfl rfl (au.refl _ _) (by intro _ _; simp [go_sem]) rfl rfl ?_
  rintro _ os5 ⟨rfl, h4⟩
  simp only [St.put, KU]
  refine CH.nil ?_
  try simp only [Ku, Kw]
  repeat
   (first
    | (apply ak; iterate 3 rfl) | apply EL.nil
    | (with_reducible first | apply EK.nc | apply EC.seq | apply EC.r0 | apply EC.k0 | apply EC.label | apply EC.b0 | apply EC.x0 | apply EC.ret | apply EK.n0 | apply EK.s0 | apply EK.aA | apply EK.aj | apply EK.ah))
  have h5 : RSt g (ChL.base ⟨xa, true, xn, xw, xc, xs⟩ (kT (l.take i))) (i * 1005 + 5) os5 := RSt.mono h4 (by omega)
  clear h1 h2 h3 h4
  refine EC.loop (ι := {x : Nat × List Obj // x.1 ≤ xs.length ∧ RSt g (jC xa (xs.take x.1) (ChL.base ⟨xa, true, xn, xw, xc, xs⟩ (kT (l.take i)))) (i * 1005 + 5 + x.1) x.2})
   (fun x => ⟨[(5, .val (.v (.int .i64 (x.1.1 : Int)))), (4, .val (.v (.int .i64 (i : Int)))), (3, .val (.v (ptr g))), (0, .val (.sl 55 (l.map aI)))], x.1.2, []⟩)
   (fun x => xs.length - x.1.1) ⟨(0, os5), Lj _, h5⟩ ?_ ?_
  · exact (Le.keep (by repeat first | exact trivial | refine ⟨rfl, ?_⟩) (by repeat first | exact KQ _ | apply List.Sublist.cons_cons | apply List.Sublist.cons) (by simp))
  rintro ⟨⟨j, os6⟩, hjl, h6⟩
  dsimp only at hjl h6 ⊢
  by_cases hlj : j < xs.length
  ·
   have hd2 : (xs.map aZ)[j]? = some (aZ xs[j]) := by rw [List.getElem?_map, KA hlj]; rfl
   have htk2 : xs.take (j + 1) = xs.take j ++ [xs[j]] := LG hlj
   generalize xs[j] = y at hd2 htk2
   obtain ⟨q, v⟩ := y
   unfold aZ at hd2
   dsimp only at hd2
   repeat
    (first
     | (apply aB; iterate 3 rfl) | (apply dX; iterate 7 rfl) | (apply bP; iterate 5 rfl)
     | (apply aC (b := true); (iterate 2 rfl); exact aN; iterate 2 rfl) | (apply aU; iterate 4 rfl)
     | (apply dh; (iterate 4 rfl); exact ixA; iterate 2 rfl) | apply EL.nil
     | (apply EC.t0; rfl)
     | (with_reducible first | apply EK.nc | apply EC.seq | apply EC.r0 | apply EC.k0 | apply EC.label | apply EC.b0 | apply EC.x0 | apply EC.ret | apply EK.n0 | apply EK.s0 | apply EK.aA | apply EK.aj | apply EK.ah))
   refine EC.dL 25 [0, 1, 2, 3, 4, 5, 6, 7, 8, 9, 10, 11, 12, 13, 14, 15, 16, 17, 18, 19, 20, 21, 22, 23] [24] os6 _ (by kernel_rfl) (by kernel_rfl) (KU _).symm ?_
   simp only [aQ, KJ, KN, KD, KF]
   repeat
    (first
     | (apply aJ; iterate 3 rfl) | (apply gQ; iterate 7 rfl) | (apply gB; iterate 5 rfl)
     | (apply iK; (iterate 4 rfl); exact ixA; iterate 2 rfl))
   refine EM.nil ?_
   repeat (first | rw [Kr] | rw [Kt])
   refine CH.dS (rest := []) (sK h6 (a := xa) (by omega) q v) rfl rfl (au.refl _ _) (by intro _ _; simp [go_sem]) rfl rfl ?_
   rintro _ os7 ⟨rfl, h7⟩
   simp only [St.put, KU]
   refine CH.nil ?_
   try simp only [Ku, Kw]
   repeat
    (first
     | (apply aB; iterate 3 rfl) | (apply ak; iterate 3 rfl) | (apply dQ; (iterate 3 rfl); (focus omega); (focus omega); iterate 2 rfl) | apply EL.nil
     | (with_reducible first | apply EK.nc | apply EC.seq | apply EC.r0 | apply EC.k0 | apply EC.label | apply EC.b0 | apply EC.x0 | apply EC.ret | apply EK.n0 | apply EK.s0 | apply EK.aA | apply EK.aj | apply EK.ah))
   refine EK.again ⟨(j + 1, os7), hlj, by rw [htk2, yA]; exact h7⟩ (by dsimp only; omega) ?_
   simp only [Ls]
   exact (Le.keep (by repeat first | exact trivial | refine ⟨rfl, ?_⟩) (by repeat first | exact KQ _ | apply List.Sublist.cons_cons | apply List.Sublist.cons) (by simp))
  ·
   have hjE : j = xs.length := by omega
   subst hjE
   rw [MS] at h6
   repeat
    (first
     | (apply aB; iterate 3 rfl) | (apply ak; iterate 3 rfl) | (apply dX; iterate 7 rfl) | (apply bP; iterate 5 rfl)
     | (apply aC (b := false); (iterate 2 rfl); exact aN; iterate 2 rfl) | (apply dQ; (iterate 3 rfl); (focus omega); (focus omega); iterate 2 rfl)
     | (apply aU; iterate 4 rfl)
     | (apply dh; (iterate 4 rfl); exact ixA; iterate 2 rfl) | apply EL.nil
     | (apply EC.f0; rfl)
     | (with_reducible first | apply EK.nc | apply EC.seq | apply EC.r0 | apply EC.k0 | apply EC.label | apply EC.b0 | apply EC.x0 | apply EC.ret | apply EK.n0 | apply EK.s0 | apply EK.aA | apply EK.aj | apply EK.ah))
   refine EK.again ⟨(i + 1, os6), hlt, ?_⟩ (by dsimp only; omega) ?_
   ·
    dsimp only
    rw [htk]
    exact RSt.mono h6 (by omega)
   ·
    simp only [Ls]
    exact (Le.keep (by repeat first | exact trivial | refine ⟨rfl, ?_⟩) (by repeat first | exact KQ _ | apply List.Sublist.cons_cons | apply List.Sublist.cons) (by simp))
 ·
  have hiE : i = l.length := by omega
  subst hiE
  rw [MS] at h0
  repeat
   (first
    | (apply aB; iterate 3 rfl) | (apply ak; iterate 3 rfl) | (apply aC (b := false); (iterate 2 rfl); exact aN; iterate 2 rfl)
    | (apply aU; iterate 4 rfl) | apply EL.nil | (apply EC.f0; rfl)
    | (with_reducible first | apply EK.nc | apply EC.seq | apply EC.r0 | apply EC.k0 | apply EC.label | apply EC.b0 | apply EC.x0 | apply EC.ret | apply EK.n0 | apply EK.s0 | apply EK.aA | apply EK.aj | apply EK.ah))
  exact EK.bn os1 rfl rfl (by (repeat first | exact KQ _ | apply List.Sublist.cons_cons | apply List.Sublist.cons)) ⟨g, rfl, h0⟩
end E
end Go.Proofs.YtkhjanjlcdhdcaaGreat
