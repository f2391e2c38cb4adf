/-
 Merged: lemmas of this claim.
 Conditions: none.
-/
import Derived.Test.YtkhjanjlcdhdcaaGreatZL21
import Derived.Test.YtkhjanjlcdhdcaaGreatZL19
import Derived.Test.YtkhjanjlcdhdcaaGreatZL18
import Derived.Test.YtkhjanjlcdhdcaaGreatZL0
namespace Go.Proofs.YtkhjanjlcdhdcaaGreat
set_option linter.unusedVariables false
set_option maxRecDepth 20000
set_option maxHeartbeats 8000000
open Go.RowKit Mono Rlp Wd
namespace E
theorem FnM.frz {f : FuncId} {ds : List D} {os : List Obj} {Φ : R → List Obj → Prop} (e z : Nat) (h : FnM f ds os (fun r os' => ∃ v ds' rest, r = .val (.v v) ∧ os' = .row v e z ds' :: rest ∧ Φ (.val (.sl z ds')) rest)) : FnM f ds os Φ := ⟨fun ok w xs h1 h2 h3 => (h.go ok w xs h1 h2 h3).mono fun en w' ⟨u, r, os', e1, ⟨v, ds', rest, e2, e3, hΦ⟩, ht, hv⟩ => by
 subst e2 e3
 obtain rfl := (aP.1 hv).2
 have hk : ∀ b, okM ok os w (.row u e z ds' :: rest) w' b → okM ok os w rest w' b := fun b hb => ⟨hb.1, hb.2.1, fun o ho => hb.2.2 o (KT _ ho)⟩
 obtain ⟨rows, ⟨g1, hmine⟩, g2⟩ := ht.at_ (.row u e z ds') KH
 have hap := LJ.1 ht.apart
 refine ⟨u, .val (.sl z ds'), rest, e1, hΦ, ⟨ht.gr, hap.2, fun o ho => (ht.at_ o (KT _ ho)).move hk (fun _ _ => rfl) fun _ _ => rfl⟩, ?_⟩
 obtain ⟨A, c, rfl, hc1, hc2⟩ := iZ g1
 refine (dJ rfl).2 ?_
 rw [Reads]
 refine ⟨A, c, rows, rfl, hc1, hc2, fun e => by subst e; exact yN g1, fun hn => ?_, ay.mono hk (fun _ _ => rfl) z ds' rows g2⟩
 obtain ⟨b, o, rfl, hb, hc⟩ := wU g1 hn
 exact ⟨b, o, rfl, ⟨(hmine b rfl).elim (fun h => .inr (.inl h)) (fun h => .inr (.inr h)), hb.2, fun p hp e => hap.1 p hp b rfl e⟩, hc⟩⟩
def AcL.empty (x : AcL) : Bool := decide (x.n = 0) && (x.w == zero32) && x.cd.isEmpty && x.sl.isEmpty
theorem AcL.Is.nS {x : AcL} {y : Ac} (h : x.Is y) : x.empty = true ↔ y = Ac.zero := by
 unfold AcL.empty
 simp only [LY, decide_eq_true_eq, beq_iff_eq, List.isEmpty_iff]
 constructor
 ·
  rintro ⟨⟨⟨h1, h2⟩, h3⟩, h4⟩
  have hs : y.sl = fun _ => zero32 := by
   funext k
   refine LU fun hn => ?_
   obtain ⟨p, hp, _⟩ := h.all k hn
   rw [h4] at hp
   simp at hp
  have e1 := h.n
  have e2 := h.w
  have e3 := h.cd
  cases y
  unfold Ac.zero
  dsimp only at *
  subst hs
  rw [← e1, ← e2, ← e3, h1, h2, h3]
 ·
  rintro rfl
  refine ⟨⟨⟨h.n, h.w⟩, h.cd⟩, List.eq_nil_iff_forall_not_mem.2 fun p hp => ?_⟩
  obtain ⟨h1, h2⟩ := h.val p hp
  exact h2 h1
theorem Dz (x : AcL) : Fn 46 [aI x] (· = .val (.v (.bool x.empty))) := by
 obtain ⟨xa, n, w, cd, ss⟩ := x
 have hz := (fB w zero32).1
 unfold AcL.empty aI
 dsimp only
 refine Fn.walk 24 Tryz.func46 rfl Tryz.ntmps46 (by simp) fun X => ?_
 by_cases h1 : n = 0
 ·
  by_cases h2 : (w == zero32) = true
  ·
   rw [h2] at hz
   by_cases h3 : cd = []
   ·
    by_cases h4 : ss = []
    ·
     subst h3
     subst h4
     rw [h2]
     subst h1
     repeat
      (first
       | (apply dO; (iterate 2 rfl); exact hz; iterate 2 rfl) | (apply aB; iterate 3 rfl) | (apply ak; iterate 3 rfl) | (apply aH; iterate 6 rfl)
       | (apply dH; iterate 4 rfl) | (apply aF; rfl; exact I.a; iterate 4 rfl) | (apply aC (b := true); (iterate 2 rfl); exact aN; iterate 2 rfl)
       | (apply gZ; iterate 4 rfl) | (apply aU; iterate 4 rfl) | (apply dI; iterate 5 rfl) | (apply aV; rfl; rfl; rfl; intro _) | apply EL.nil
       | (with_reducible first | apply EK.nc | apply EC.seq | apply EC.r0 | apply EC.k0 | apply EC.label | apply EC.b0 | apply EC.x0 | apply EC.ret | apply EK.n0 | apply EK.s0 | apply EK.aA | apply EK.aj | apply EK.ah))
     exact EK.kC rfl rfl rfl
    ·
     subst h3
     have h5 : ss.isEmpty = false := by cases ss with | nil => exact absurd rfl h4 | cons _ _ => rfl
     have h6 : (ss.map aZ).length ≠ 0 := by cases ss with | nil => exact absurd rfl h4 | cons _ _ => simp
     rw [h2, h5]
     subst h1
     repeat
      (first
       | (apply dO; (iterate 2 rfl); exact hz; iterate 2 rfl) | (apply aB; iterate 3 rfl) | (apply ak; iterate 3 rfl) | (apply aH; iterate 6 rfl)
       | (apply dH; iterate 4 rfl) | (apply aF; rfl; exact I.a; iterate 4 rfl) | (apply aC (b := true); (iterate 2 rfl); exact aN; iterate 2 rfl)
       | (apply aC (b := false); (iterate 2 rfl); exact aN; iterate 2 rfl) | (apply gZ; iterate 4 rfl) | (apply aU; iterate 4 rfl)
       | (apply dI; iterate 5 rfl) | (apply aV; rfl; rfl; rfl; intro _) | apply EL.nil
       | (with_reducible first | apply EK.nc | apply EC.seq | apply EC.r0 | apply EC.k0 | apply EC.label | apply EC.b0 | apply EC.x0 | apply EC.ret | apply EK.n0 | apply EK.s0 | apply EK.aA | apply EK.aj | apply EK.ah))
     exact EK.kC rfl rfl rfl
   ·
    have h5 : cd.isEmpty = false := by cases cd with | nil => exact absurd rfl h3 | cons _ _ => rfl
    rw [h2, h5]
    subst h1
    repeat
     (first
      | (apply gV; iterate 2 rfl) | (apply dO; (iterate 2 rfl); exact hz; iterate 2 rfl) | (apply aB; iterate 3 rfl) | (apply ak; iterate 3 rfl)
      | (apply aH; iterate 6 rfl) | (apply dH; iterate 4 rfl) | (apply aF; rfl; exact I.a; iterate 4 rfl)
      | (apply aC (b := true); (iterate 2 rfl); exact aN; iterate 2 rfl) | (apply aC (b := false); (iterate 2 rfl); exact aN; iterate 2 rfl)
      | (apply gZ; iterate 4 rfl) | (apply dI; iterate 5 rfl) | (apply aV; rfl; rfl; rfl; intro _) | apply EL.nil
      | (with_reducible first | apply EK.nc | apply EC.seq | apply EC.r0 | apply EC.k0 | apply EC.label | apply EC.b0 | apply EC.x0 | apply EC.ret | apply EK.n0 | apply EK.s0 | apply EK.aA | apply EK.aj | apply EK.ah))
    exact EK.kC rfl rfl rfl
  ·
   have h2 : (w == zero32) = false := by simpa using h2
   rw [h2] at hz ⊢
   subst h1
   repeat
    (first
     | (apply gV; iterate 2 rfl) | (apply dO; (iterate 2 rfl); exact hz; iterate 2 rfl) | (apply aB; iterate 3 rfl) | (apply ak; iterate 3 rfl)
     | (apply aH; iterate 6 rfl) | (apply dH; iterate 4 rfl) | (apply aF; rfl; exact I.a; iterate 4 rfl)
     | (apply aC (b := true); (iterate 2 rfl); exact aN; iterate 2 rfl) | (apply dI; iterate 5 rfl) | (apply aV; rfl; rfl; rfl; intro _) | apply EL.nil
     | (with_reducible first | apply EK.nc | apply EC.seq | apply EC.r0 | apply EC.k0 | apply EC.label | apply EC.b0 | apply EC.x0 | apply EC.ret | apply EK.n0 | apply EK.s0 | apply EK.aA | apply EK.aj | apply EK.ah))
   exact EK.kC rfl rfl rfl
 ·
  have h5 : decide (n = 0) = false := by simp [h1]
  rw [h5]
  repeat
   (first
    | (apply gV; iterate 2 rfl) | (apply aB; iterate 3 rfl) | (apply ak; iterate 3 rfl) | (apply aH; iterate 6 rfl) | (apply dH; iterate 4 rfl)
    | (apply aF; rfl; exact I.a; iterate 4 rfl) | (apply aC (b := false); (iterate 2 rfl); exact aN; iterate 2 rfl)
    | (apply aV; rfl; rfl; rfl; intro _) | apply EL.nil
    | (with_reducible first | apply EK.nc | apply EC.seq | apply EC.r0 | apply EC.k0 | apply EC.label | apply EC.b0 | apply EC.x0 | apply EC.ret | apply EK.n0 | apply EK.s0 | apply EK.aA | apply EK.aj | apply EK.ah))
  exact EK.kC rfl rfl rfl
theorem AZ (l : List AcL) (hll : l.length ≤ 1000000) (hB : ∀ x ∈ l, x.sl.length ≤ 1000000 ∧ x.cd.length ≤ 140737488355328) : FnM 33 [.sl 55 (l.map aI)] [] (fun r os' => ∃ v, r = .val (.v v) ∧ os' = [.row v 51 55 (l.map aI)]) := by
 have hml : (l.map aI).length = l.length := KG _
 refine FnM.walk 35 Tryz.func33 rfl Tryz.ntmps33 (by simp) fun X => ?_
 repeat
  (first
   | (apply ak; iterate 3 rfl) | apply EL.nil
   | (with_reducible first | apply EK.nc | apply EC.seq | apply EC.r0 | apply EC.k0 | apply EC.label | apply EC.b0 | apply EC.x0 | apply EC.ret | apply EK.n0 | apply EK.s0 | apply EK.aA | apply EK.aj | apply EK.ah))
 refine EC.le (Le.row 51 55) ?_
 refine EC.loop (ι := {x : Nat × Value // x.1 ≤ l.length})
  (fun x => ⟨[(4, .val (.v (.int .i64 (x.1.1 : Int)))), (3, .val (.v x.1.2)), (0, .val (.sl 55 (l.map aI)))], [.row x.1.2 51 55 ((l.take x.1.1).map aI)], []⟩)
  (fun x => l.length - x.1.1) ⟨(0, dF), Lj _⟩ ?_ ?_
 · exact Le.kp
 rintro ⟨⟨i, v⟩, hil⟩
 dsimp only at hil ⊢
 by_cases hlt : i < l.length
 ·
  have hd : (l.map aI)[i]? = some (aI l[i]) := by rw [List.getElem?_map, KA hlt]; rfl
  have hBi := hB l[i] (LH hlt)
  have htk : (l.take (i + 1)).map aI = (l.take i).map aI ++ [aI l[i]] := by rw [LG hlt, L8]; rfl
  have hlen : ((l.take i).map aI).length = i := by rw [KG, LD]; omega
  generalize l[i] = x at hd hBi htk
  obtain ⟨xa, xn, xw, xc, xs⟩ := x
  unfold aI at hd
  dsimp only at hd hBi
  have hmx : (xs.map aZ).length = xs.length := KG _
  have hv := hBi.2
  repeat
   (first
    | (apply xR hv; iterate 3 rfl) | (apply aB; iterate 3 rfl) | (apply aH; iterate 6 rfl) | (apply dX; iterate 7 rfl)
    | (apply bP; iterate 5 rfl) | (apply aC (b := true); (iterate 2 rfl); exact aN; iterate 2 rfl) | (apply aU; iterate 4 rfl)
    | (apply dh; (iterate 4 rfl); exact ixA; iterate 2 rfl)
    | (apply bW; rfl; rfl; rfl; intro _) | (apply aO; rfl; exact saA; iterate 4 rfl) | apply EL.nil
    | (apply EC.t0; rfl)
    | (with_reducible first | apply EK.nc | apply EC.seq | apply EC.r0 | apply EC.k0 | apply EC.label | apply EC.b0 | apply EC.x0 | apply EC.ret | apply EK.n0 | apply EK.s0 | apply EK.aA | apply EK.aj | apply EK.ah))
  refine EL.le (Le.row 63 64) ?_
  repeat
   (first
    | (apply aB; iterate 3 rfl) | (apply ak; iterate 3 rfl) | (apply aH; iterate 6 rfl) | (apply aF; rfl; exact I.a; iterate 4 rfl)
    | (apply dQ; (iterate 3 rfl); (focus omega); (focus omega); iterate 2 rfl) | (apply kM; iterate 9 rfl)
    | (apply aO; rfl; exact saA; iterate 4 rfl)
    | ((apply dP; rfl; exact saA; (iterate 5 rfl); (focus (constructor <;> (first | (simp; done) | (simp; omega))))); intro _)
    | apply EL.nil
    | (with_reducible first | apply EK.nc | apply EC.seq | apply EC.r0 | apply EC.k0 | apply EC.label | apply EC.b0 | apply EC.x0 | apply EC.ret | apply EK.n0 | apply EK.s0 | apply EK.aA | apply EK.aj | apply EK.ah))
  dsimp only
  refine EK.le (Le.freeze (pre := []) rfl) ?_
  simp only [Kt]
  rename_i sv v'
  refine EK.le (Le.pick [1, 0] [_, _] rfl (by decide) rfl) ?_
  refine EK.le (Le.Ei (ds' := (l.take i).map aI ++ [.tup [.arr 20 xa, .v (.int .i64 xn), .arr 32 xw, .bs xc, .sl 64 (xs.map aZ)]]) (RL.append (au.refl _ _) (RL.cons (Rf.tup (RL.cons Rf.same (RL.cons Rf.same (RL.cons Rf.same (RL.cons Rf.same (RL.cons (Rf.fact KH rfl) RL.nil)))))) RL.nil))) ?_
  refine EK.again ⟨(i + 1, v'), hlt⟩ (by dsimp only; omega) ?_
  dsimp only
  rw [htk]
  unfold aI
  dsimp only
  simp only [Ls]
  exact Le.kp
 ·
  have hiE : i = l.length := by omega
  subst hiE
  rw [MS]
  repeat
   (first
    | (apply aB; iterate 3 rfl) | (apply ak; iterate 3 rfl) | (apply aC (b := false); (iterate 2 rfl); exact aN; iterate 2 rfl)
    | (apply aU; iterate 4 rfl) | apply EL.nil | (apply EC.f0; rfl)
    | (with_reducible first | apply EK.nc | apply EC.seq | apply EC.r0 | apply EC.k0 | apply EC.label | apply EC.b0 | apply EC.x0 | apply EC.ret | apply EK.n0 | apply EK.s0 | apply EK.aA | apply EK.aj | apply EK.ah))
  exact EK.bn [.row v 51 55 (l.map aI)] rfl rfl (by (repeat first | exact KE _ | apply List.Sublist.cons_cons | apply List.Sublist.cons)) ⟨v, rfl, rfl⟩
theorem FP {A : As} {N : Nat} {l : List AcL} (h : RL A N l) : Canon A (l.filter fun x => !x.empty) := by
 refine ⟨h.ord.filter _, fun x hx => ?_, fun a ha => ?_⟩
 ·
  obtain ⟨h1, h2⟩ := List.mem_filter.1 hx
  refine ⟨h.mem x h1, fun e => ?_⟩
  rw [((h.mem x h1).nS).2 e] at h2
  simp at h2
 ·
  have hm : a ∈ l.map AcL.a := LU fun hn => ha (h.out a hn)
  obtain ⟨x, hx, rfl⟩ := Lh.1 hm
  refine ⟨x, List.mem_filter.2 ⟨hx, ?_⟩, rfl⟩
  cases he : x.empty with
  | false => rfl
  | true => exact absurd ((h.mem x hx).nS.1 he) ha
theorem rD {g N : Nat} {A : As} {os : List Obj} (h : RSt g A N os) (hN : N ≤ 1000000) : FnM 15 [.v (ptr g)] os (fun r os' => ∃ L v, Canon A L ∧ L.length ≤ N ∧ r = .val (.v v) ∧ os' = .row v 51 55 (L.map aI) :: os) := by
 obtain ⟨L, k, n, l, rfl, hR, hlN⟩ := h
 have hC := FP hR
 have hCl : (l.filter fun x => !x.empty).length ≤ N := Ll (List.length_filter_le _ _) hlN
 have hcp := AZ (l.filter fun x => !x.empty) (by omega) fun x hx => by have := hR.bd x (List.mem_filter.1 hx).1; exact ⟨Ll this.1 hN, this.2⟩
 have hml : (l.map aI).length = l.length := KG _
 refine FnM.walk 35 Tryz.func15 rfl Tryz.ntmps15 (by simp) fun X => ?_
 repeat
  (first
   | (apply ak; iterate 3 rfl) | apply EL.nil
   | (with_reducible first | apply EK.nc | apply EC.seq | apply EC.r0 | apply EC.k0 | apply EC.label | apply EC.b0 | apply EC.x0 | apply EC.ret | apply EK.n0 | apply EK.s0 | apply EK.aA | apply EK.aj | apply EK.ah))
 refine EC.le (Le.row 51 55) ?_
 refine EC.loop (ι := {x : Nat × Value // x.1 ≤ l.length})
  (fun x => ⟨[(4, .val (.v (.int .i64 (x.1.1 : Int)))), (3, .val (.v x.1.2)), (0, .val (.v (ptr g)))], [.row x.1.2 51 55 (((l.take x.1.1).filter fun x => !x.empty).map aI), rsO g L k n, raA L l], []⟩)
  (fun x => l.length - x.1.1) ⟨(0, dF), Lj _⟩ ?_ ?_
 · exact Le.kp
 rintro ⟨⟨i, v⟩, hil⟩
 dsimp only at hil ⊢
 by_cases hlt : i < l.length
 ·
  have hd : (l.map aI)[i]? = some (aI l[i]) := by rw [List.getElem?_map, KA hlt]; rfl
  have htk : ((l.take (i + 1)).filter fun x => !x.empty) = ((l.take i).filter fun x => !x.empty) ++ ([l[i]].filter fun x => !x.empty) := by rw [LG hlt, List.filter_append]
  have hlen : ((l.take i).filter fun x => !x.empty).length ≤ i := Ll (List.length_filter_le _ _) (by rw [LD]; omega)
  have hem := Dz l[i]
  generalize l[i] = x at hd htk hem
  generalize ((l.take i).filter fun x => !x.empty) = F at hlen htk ⊢
  have hFl : (F.map aI).length = F.length := KG _
  cases he : x.empty with
  | true =>
   rw [he] at hem
   have hfx : ([x].filter fun x => !x.empty) = [] := by simp [he]
   rw [hfx, KU] at htk
   repeat
    (first
     | (apply bQ (k := i) (off := 0) (d := aI x); rfl; exact I2; exact ⟨by simp, hd⟩; iterate 4 rfl) | (apply fJ (hem); rfl; exact RL.a; exact enA; iterate 2 rfl)
     | (apply aB; iterate 3 rfl) | (apply ak; iterate 3 rfl) | (apply aH; iterate 6 rfl) | (apply vY; iterate 3 rfl)
     | (apply aF; rfl; exact I.a; iterate 4 rfl) | (apply aC (b := true); (iterate 2 rfl); exact aN; iterate 2 rfl)
     | (apply dQ; (iterate 3 rfl); (focus omega); (focus omega); iterate 2 rfl) | (apply bU; rfl; exact I.a; iterate 3 rfl) | (apply aY; iterate 3 rfl)
     | (apply bY; rfl; exact I.a; (iterate 2 rfl); (focus (first | assumption | omega | (constructor <;> (first | (simp; done) | (simp; omega))))); iterate 2 rfl) | apply EL.nil
     | (apply EC.t0; rfl) | (apply EC.f0; rfl)
     | (with_reducible first | apply EK.nc | apply EC.seq | apply EC.r0 | apply EC.k0 | apply EC.label | apply EC.b0 | apply EC.x0 | apply EC.ret | apply EK.n0 | apply EK.s0 | apply EK.aA | apply EK.aj | apply EK.ah))
   refine EK.again ⟨(i + 1, v), hlt⟩ (by dsimp only; omega) ?_
   dsimp only
   rw [htk]
   simp only [Ls]
   exact Le.kp
  | false =>
   rw [he] at hem
   have hfx : ([x].filter fun x => !x.empty) = [x] := by simp [he]
   rw [hfx] at htk
   repeat
    (first
     | (apply bQ (k := i) (off := 0) (d := aI x); rfl; exact I2; exact ⟨by simp, hd⟩; iterate 4 rfl) | (apply fJ (hem); rfl; exact RL.a; exact enA; iterate 2 rfl)
     | (apply aB; iterate 3 rfl) | (apply ak; iterate 3 rfl) | (apply aH; iterate 6 rfl) | (apply vY; iterate 3 rfl)
     | (apply aF; rfl; exact I.a; iterate 4 rfl) | (apply aC (b := true); (iterate 2 rfl); exact aN; iterate 2 rfl)
     | (apply dQ; (iterate 3 rfl); (focus omega); (focus omega); iterate 2 rfl) | (apply bU; rfl; exact I.a; iterate 3 rfl) | (apply kM; iterate 9 rfl)
     | (apply aY; iterate 3 rfl)
     | (apply bY; rfl; exact I.a; (iterate 2 rfl); (focus (first | assumption | omega | (constructor <;> (first | (simp; done) | (simp; omega))))); iterate 2 rfl)
     | ((apply dP; rfl; exact saA; (iterate 5 rfl); (focus (constructor <;> (first | (simp; done) | (simp; omega))))); intro _)
     | apply EL.nil | (apply EC.t0; rfl)
     | (with_reducible first | apply EK.nc | apply EC.seq | apply EC.r0 | apply EC.k0 | apply EC.label | apply EC.b0 | apply EC.x0 | apply EC.ret | apply EK.n0 | apply EK.s0 | apply EK.aA | apply EK.aj | apply EK.ah))
   rename_i v'
   refine EK.again ⟨(i + 1, v'), hlt⟩ (by dsimp only; omega) ?_
   dsimp only
   rw [htk, L8]
   simp only [Ls]
   exact Le.kp
 ·
  have hiE : i = l.length := by omega
  subst hiE
  rw [MS]
  refine EC.le (Le.freeze (pre := []) rfl) ?_
  refine EC.le (Le.refine (t := 3) rfl (Rf.fact KH rfl)) ?_
  repeat
   (first
    | (apply dM (os := []) hcp; (iterate 2 rfl); exact au.refl _ _; (focus (intro _ _; simp [go_sem]; done)); (iterate 2 rfl); rintro _ _ ⟨v2, rfl, rfl⟩; simp only [Kr, Kt])
    | (apply aB; iterate 3 rfl) | (apply ak; iterate 3 rfl) | (apply aH; iterate 6 rfl) | (apply aF; rfl; exact I.a; iterate 4 rfl)
    | (apply aC (b := false); (iterate 2 rfl); exact aN; iterate 2 rfl) | (apply bU; rfl; exact I.a; iterate 3 rfl) | (apply aY; iterate 3 rfl)
    | apply EL.nil | (apply EC.f0; rfl)
    | (with_reducible first | apply EK.nc | apply EC.seq | apply EC.r0 | apply EC.k0 | apply EC.label | apply EC.b0 | apply EC.x0 | apply EC.ret | apply EK.n0 | apply EK.s0 | apply EK.aA | apply EK.aj | apply EK.ah))
  exact EK.bn (.row _ 51 55 ((l.filter fun x => !x.empty).map aI) :: [rsO g L k n, raA L l]) rfl rfl (by (repeat first | exact KE _ | apply List.Sublist.cons_cons | apply List.Sublist.cons)) ⟨_, _, hC, hCl, rfl, rfl⟩
theorem qP {g N : Nat} {A : As} {os : List Obj} (h : RSt g A N os) (hN : N ≤ 1000000) : FnM 15 [.v (ptr g)] os (fun r os' => (∃ L, Canon A L ∧ L.length ≤ N ∧ r = .val (.sl 55 (L.map aI))) ∧ os' = os) :=
 FnM.frz 51 55 ((rD h hN).mono fun r os' ⟨L, v, h1, h2, h3, h4⟩ => ⟨v, _, os, h3, h4, ⟨L, h1, h2, rfl⟩, rfl⟩)

theorem IQ {g N : Nat} {A : As} {os : List Obj} (h : RSt g A N os) (hN : N ≤ 1000000) (a : List UInt8) : FnM 56 [.v (ptr g), .arr 20 a] os (fun r os' => (∃ x : AcL, x.a = a ∧ x.Is (A a) ∧ x.Small N ∧ r = .val (aI x)) ∧ os' = os) := by
 obtain ⟨L, k, n, l, rfl, hR, hlN⟩ := h
 have hml : (l.map aI).length = l.length := KG _
 refine FnM.walk 34 Tryz.func56 rfl Tryz.ntmps56 (by simp) fun X => ?_
 repeat
  (first
   | (apply ak; iterate 3 rfl) | (apply bW; rfl; rfl; rfl; intro _) | (apply aV; rfl; rfl; rfl; intro _) | apply EL.nil
   | (with_reducible first | apply EK.nc | apply EC.seq | apply EC.r0 | apply EC.k0 | apply EC.label | apply EC.b0 | apply EC.x0 | apply EC.ret | apply EK.n0 | apply EK.s0 | apply EK.aA | apply EK.aj | apply EK.ah))
 rename_i g3 g4
 refine EC.loop (ι := {i : Nat // i ≤ l.length ∧ ∀ j (hj : j < l.length), j < i → l[j].a ≠ a})
  (fun i => ⟨[(5, .val (.v (.int .i64 (i.1 : Int)))), (4, .val (.v (ptr g4))), (3, .val (.v (ptr g3))), (0, .val (.v (ptr g)))], [.var g4 51 (.tup [.arr 20 (List.replicate 20 0), .v (.int .i64 0), .arr 32 zero32, .v dF, .v dF]), .var g3 32 (.arr 20 a), rsO g L k n, raA L l], []⟩)
  (fun i => l.length - i.1) ⟨0, Lj _, fun j _ h => absurd h (Nat.not_lt_zero _)⟩ ?_ ?_
 · exact Le.kp
 rintro ⟨i, hi, hno⟩
 dsimp only at hi hno ⊢
 by_cases hlt : i < l.length
 ·
  have hd : (l.map aI)[i]? = some (aI l[i]) := by rw [List.getElem?_map, KA hlt]; rfl
  have hb := (kJ l[i].a a).1
  by_cases he : l[i].a = a
  ·
   rw [show (l[i].a == a) = true by simp [he]] at hb
   have hm := LH hlt
   have his := hR.mem _ hm
   rw [he] at his
   have hbd := hR.bd _ hm
   repeat
    (first
     | (apply aB; iterate 3 rfl) | (apply aH; iterate 6 rfl) | (apply aF; rfl; exact I.a; iterate 4 rfl)
     | (apply aC (b := true); (iterate 2 rfl); exact aN; iterate 2 rfl) | (apply bU; rfl; exact I.a; iterate 3 rfl) | (apply aY; iterate 3 rfl)
     | apply EL.nil | (apply EC.t0; rfl)
     | (with_reducible first | apply EK.nc | apply EC.seq | apply EC.r0 | apply EC.k0 | apply EC.label | apply EC.b0 | apply EC.x0 | apply EC.ret | apply EK.n0 | apply EK.s0 | apply EK.aA | apply EK.aj | apply EK.ah))
   refine EC.draw 10 (by kernel_rfl) ?_
   simp only [Kv, Kz, Ku, Kw]
   repeat
    (first
     | (apply fC (k := i) (off := 0) (d := aI l[i]); rfl; exact I3; exact ⟨by simp, hd⟩; iterate 4 rfl) | (apply fQ; (iterate 2 rfl); exact hb; iterate 2 rfl)
     | (apply aJ; iterate 3 rfl) | (apply aW; iterate 6 rfl) | (apply aG; rfl; exact I.a; iterate 4 rfl) | (apply bg; iterate 3 rfl)
     | (apply dA; rfl; exact I.a; (focus (first | omega | (simp; done) | (simp; omega))); iterate 5 rfl)
     | (apply jh; rfl; exact I.a; (iterate 2 rfl); (focus (first | assumption | omega | (constructor <;> (first | (simp; done) | (simp; omega))))); iterate 2 rfl)
     | ((with_reducible apply EH.nil); rfl))
   repeat
    (first
     | (apply bQ (k := i) (off := 0) (d := aI l[i]); rfl; exact I3; exact ⟨by simp, hd⟩; iterate 4 rfl) | (apply aB; iterate 3 rfl) | (apply aH; iterate 6 rfl)
     | (apply aF; rfl; exact I.a; iterate 4 rfl) | (apply aY; iterate 3 rfl)
     | (apply bY; rfl; exact I.a; (iterate 2 rfl); (focus (first | assumption | omega | (constructor <;> (first | (simp; done) | (simp; omega))))); iterate 2 rfl)
     | (apply aO; rfl; exact saA; iterate 4 rfl) | apply EL.nil
     | (apply EC.t0; rfl)
     | (with_reducible first | apply EK.nc | apply EC.seq | apply EC.r0 | apply EC.k0 | apply EC.label | apply EC.b0 | apply EC.x0 | apply EC.ret | apply EK.n0 | apply EK.s0 | apply EK.aA | apply EK.aj | apply EK.ah))
   exact EK.nI 0 [rsO g L k n, raA L l] rfl rfl rfl rfl (au.refl _ _) (by (repeat first | exact KE _ | apply List.Sublist.cons_cons | apply List.Sublist.cons)) ⟨⟨l[i], he, his, hbd, rfl⟩, rfl⟩
  ·
   rw [show (l[i].a == a) = false by simpa using he] at hb
   repeat
    (first
     | (apply aB; iterate 3 rfl) | (apply aH; iterate 6 rfl) | (apply aF; rfl; exact I.a; iterate 4 rfl)
     | (apply aC (b := true); (iterate 2 rfl); exact aN; iterate 2 rfl) | (apply bU; rfl; exact I.a; iterate 3 rfl) | (apply aY; iterate 3 rfl)
     | apply EL.nil | (apply EC.t0; rfl)
     | (with_reducible first | apply EK.nc | apply EC.seq | apply EC.r0 | apply EC.k0 | apply EC.label | apply EC.b0 | apply EC.x0 | apply EC.ret | apply EK.n0 | apply EK.s0 | apply EK.aA | apply EK.aj | apply EK.ah))
   refine EC.draw 10 (by kernel_rfl) ?_
   simp only [Kv, Kz, Ku, Kw]
   repeat
    (first
     | (apply fC (k := i) (off := 0) (d := aI l[i]); rfl; exact I3; exact ⟨by simp, hd⟩; iterate 4 rfl) | (apply fQ; (iterate 2 rfl); exact hb; iterate 2 rfl)
     | (apply aJ; iterate 3 rfl) | (apply aW; iterate 6 rfl) | (apply aG; rfl; exact I.a; iterate 4 rfl) | (apply bg; iterate 3 rfl)
     | (apply dA; rfl; exact I.a; (focus (first | omega | (simp; done) | (simp; omega))); iterate 5 rfl)
     | (apply jh; rfl; exact I.a; (iterate 2 rfl); (focus (first | assumption | omega | (constructor <;> (first | (simp; done) | (simp; omega))))); iterate 2 rfl)
     | ((with_reducible apply EH.nil); rfl))
   repeat
    (first
     | (apply aB; iterate 3 rfl) | (apply ak; iterate 3 rfl) | (apply dQ; (iterate 3 rfl); (focus omega); (focus omega); iterate 2 rfl) | apply EL.nil
     | (apply EC.f0; rfl)
     | (with_reducible first | apply EK.nc | apply EC.seq | apply EC.r0 | apply EC.k0 | apply EC.label | apply EC.b0 | apply EC.x0 | apply EC.ret | apply EK.n0 | apply EK.s0 | apply EK.aA | apply EK.aj | apply EK.ah))
   refine EK.again ⟨i + 1, hlt, fun j hj hji => ?_⟩ (by dsimp only; omega) ?_
   ·
    by_cases e : j = i
    ·
     subst e
     exact he
    · exact hno j hj (by omega)
   simp only [Ls]
   exact Le.kp
 ·
  have hz : A a = Ac.zero := hR.out a fun hm => by
   obtain ⟨x, hx, e⟩ := Lh.1 hm
   obtain ⟨j, hj, rfl⟩ := Ox hx
   exact hno j hj (by omega) e
  have his := AcL.wX a
  rw [← hz] at his
  repeat
   (first
    | (apply aB; iterate 3 rfl) | (apply aH; iterate 6 rfl) | (apply aF; rfl; exact I.a; iterate 4 rfl)
    | (apply aC (b := false); (iterate 2 rfl); exact aN; iterate 2 rfl) | (apply bU; rfl; exact I.a; iterate 3 rfl) | (apply jo; iterate 7 rfl)
    | (apply aY; iterate 3 rfl) | (apply aO; rfl; exact saA; iterate 4 rfl) | apply EL.nil
    | (apply EC.f0; rfl)
    | (with_reducible first | apply EK.nc | apply EC.seq | apply EC.r0 | apply EC.k0 | apply EC.label | apply EC.b0 | apply EC.x0 | apply EC.ret | apply EK.n0 | apply EK.s0 | apply EK.aA | apply EK.aj | apply EK.ah))
  refine EK.nI 0 [rsO g L k n, raA L l] rfl rfl rfl rfl ?_ (by (repeat first | exact KE _ | apply List.Sublist.cons_cons | apply List.Sublist.cons)) ⟨⟨_, rfl, his, ⟨Lj _, Lj _⟩, rfl⟩, rfl⟩
  unfold aI AcL.none
  (exact RL.a)
abbrev i64 (n : Nat) : Value := .int .i64 (n : Int)
def dIs (ds : List Nat) : List D := (ds.map i64).map .v
@[simp] theorem fH (ds : List Nat) : (dIs ds).length = ds.length := by simp [dIs]
theorem jm {ds : List Nat} {k : Nat} (hk : k < ds.length) : (dIs ds)[k]? = some (.v (i64 ds[k])) := by
 unfold dIs
 rw [List.getElem?_map, List.getElem?_map, KA hk]
 rfl
theorem xG (ds : List Nat) (k x : Nat) : (dIs ds).set k (.v (i64 x)) = dIs (ds.set k x) := by
 unfold dIs
 rw [List.map_set, List.map_set]
theorem uf (ds es : List Nat) : dIs ds ++ dIs es = dIs (ds ++ es) := by simp [dIs]
theorem CJ (n : Nat) : List.replicate n (D.v (.int .i64 0)) = dIs (List.replicate n 0) := by simp [dIs, i64]
theorem pR (n : Nat) (h : n < 9223372036854775808) : IntKind.i64.wrap (n : Int) = (n : Int) := IntWalk.i64_in _ ⟨by omega, by omega⟩
theorem nM (a : Nat) (h : a < 18446744073709551616) : (BitVec.ofInt 64 (a : Int)).toNat = a := by
 rw [BitVec.toNat_ofInt]
 omega
theorem AL (a b : Nat) (ha : a < 9223372036854775808) (hb : b < 9223372036854775808) : bits .or .i64 (a : Int) (b : Int) = ((a ||| b : Nat) : Int) := by
 have h := Nat.or_lt_two_pow (n := 63) ha hb
 show IntKind.i64.wrap (((BitVec.ofInt 64 (a : Int) ||| BitVec.ofInt 64 (b : Int)).toNat : Nat) : Int) = _
 rw [BitVec.toNat_or, nM a (by omega), nM b (by omega)]
 exact pR _ h
theorem zi (a b : Nat) (ha : a < 9223372036854775808) (hb : b < 9223372036854775808) : bits .and .i64 (a : Int) (b : Int) = ((a &&& b : Nat) : Int) := by
 have h : a &&& b ≤ a := Nat.and_le_left
 show IntKind.i64.wrap (((BitVec.ofInt 64 (a : Int) &&& BitVec.ofInt 64 (b : Int)).toNat : Nat) : Int) = _
 rw [BitVec.toNat_and, nM a (by omega), nM b (by omega)]
 exact pR _ (by omega)
theorem FV (T : TypeId) (x y : Nat) (hx : x < 9223372036854775808) (hy : y < 9223372036854775808) : Bin .or T (.v (i64 x)) (.v (i64 y)) (i64 (x ||| y)) := jk rfl fun w => by
 show Result.ok (Value.int .i64 (bits .or .i64 (x : Int) (y : Int))) w = _
 rw [AL x y hx hy]
theorem zM (T : TypeId) (x k : Nat) (hx : x < 9223372036854775808) (hk : k < 63) (m : Int) (hm : m = ((2 ^ k - 1 : Nat) : Int)) : Bin .and T (.v (i64 x)) (.v (.int .i64 m)) (i64 (x % 2 ^ k)) := jk rfl fun w => by
 subst hm
 have hp : 2 ^ k - 1 < 9223372036854775808 := by
  have : 2 ^ k < 2 ^ 63 := Nat.pow_lt_pow_right (by decide) hk
  omega
 show Result.ok (Value.int .i64 (bits .and .i64 (x : Int) ((2 ^ k - 1 : Nat) : Int))) w = _
 rw [zi x _ hx hp, Nat.and_two_pow_sub_one_eq_mod]
theorem DL (T : TypeId) (x k : Nat) (hk : k < 64) (hx : x * 2 ^ k < 9223372036854775808) : Bin .shl T (.v (i64 x)) (.v (.int .u64 (k : Int))) (i64 (x * 2 ^ k)) := jk rfl fun w => by
 have h1 : ¬ ((k : Int) < 0) := by omega
 have h2 : min ((k : Int)).toNat IntKind.i64.bits = k := by
  rw [LP]
  exact MC (Nb hk)
 have h3 : IntKind.i64.wrap ((x : Int) * 2 ^ k) = ((x * 2 ^ k : Nat) : Int) := by
  have : ((x : Int) * 2 ^ k) = ((x * 2 ^ k : Nat) : Int) := by simp
  rw [this]
  exact pR _ hx
 show (Op.shift .shl .i64 (x : Int) .u64 (k : Int)).run Tryz.prog w = _
 unfold Op.shift
 rw [if_neg h1]
 simp only [h2, h3, KO]
theorem vT (T : TypeId) (x k : Nat) (hk : k < 64) : Bin .shr T (.v (i64 x)) (.v (.int .u64 (k : Int))) (i64 (x / 2 ^ k)) := jk rfl fun w => by
 have h1 : ¬ ((k : Int) < 0) := by omega
 have h2 : min ((k : Int)).toNat IntKind.i64.bits = k := by
  rw [LP]
  exact MC (Nb hk)
 have h3 : (x : Int).fdiv (2 ^ k) = ((x / 2 ^ k : Nat) : Int) := by
  rw [Int.fdiv_eq_ediv_of_nonneg _ (Int.le_of_lt (Int.pow_pos (by decide)))]
  simp
 show (Op.shift .shr .i64 (x : Int) .u64 (k : Int)).run Tryz.prog w = _
 unfold Op.shift
 rw [if_neg h1]
 simp only [h2, h3, KO]
section
variable {N : Nat} {ops : Array Oper} {l : List Oper} {TT : St → List Fr → Prop} {EE : List Fr} {rs : List (Tmp × R)} {os : List Obj} {fs : List (Value × D)}
theorem CQ {t ty : Nat} {pos : String} {af : Array Edge} {gd : Option (Nat × Bool)} {x : Operand} {T g n k i : Nat} {t0 : TypeId} {m : List UInt8} {b : UInt8} (hb : m[k]? = some b) (hx : ev (⟨rs, os, fs⟩ : St) x = some (.val (.v (.pointer (some ⟨g, k, none⟩))))) (hi : os[i]? = some (.var g t0 (.arr n m))) (hT : assoc tyL T = some (1, false)) (hg : guardOf ops ⟨rs, os, fs⟩ ⟨some t, .load T x, ty, pos, af, gd⟩ = some true) (hoff : dn N (some t) EE = true) (kk : EM N ops TT l ⟨(t, .val (.v (bv b))) :: rs, os, fs⟩ EE) : EM N ops TT (⟨some t, .load T x, ty, pos, af, gd⟩ :: l) ⟨rs, os, fs⟩ EE := EH.still (He i rfl hx hi hT hb) hg rfl hoff kk
end
theorem HY (v : List UInt8) (hv : v.length = 32) (i : Nat) (hi : i < 16) : (bZ 2 16 v).getD i 0 = (v[31 - 2 * i]'(by omega)).toNat + (v[30 - 2 * i]'(by omega)).toNat * 256 := by
 have h1 : (bZ 2 16 v).getD i 0 = Wd.le 256 (((nb v.reverse).drop (2 * i)).take 2) := by
  simp [bZ, chunks, hi]
 have g : ∀ p, p < 32 → (nb v.reverse)[p]? = some (v[31 - p]'(by omega)).toNat := fun p hp => by
  have := BF v hv (31 - p) (by omega)
  rwa [show 31 - (31 - p) = p by omega] at this
 have h2 : ((nb v.reverse).drop (2 * i)).take 2 = [(v[31 - 2 * i]'(by omega)).toNat, (v[30 - 2 * i]'(by omega)).toNat] := by
  apply List.ext_getElem?
  intro p
  rw [MR, NH]
  match p with
  | 0 => rw [if_pos (by omega), g _ (by omega)]; rfl
  | 1 =>
   rw [if_pos (by omega), g _ (by omega)]
   simp only [KF, KD, NM]
   congr 2
   omega
  | p + 2 => rw [if_neg (by omega)]; rfl
 rw [h1, h2]
 simp only [Wd.le]
 omega
theorem nR (v : List UInt8) (hv : v.length = 32) : Fn 73 [.arr 32 v] (· = .val (.sl 1 (dIs (bZ 2 16 v)))) := by
 have hWl : (bZ 2 16 v).length = 16 := jT 2 16 v
 have hget := HY v hv
 generalize bZ 2 16 v = W at hWl hget
 refine Fn.walk 28 Tryz.func73 rfl Tryz.ntmps73 (by simp) fun X => ?_
 repeat
  (first
   | (apply ak; iterate 3 rfl) | (apply aV; rfl; rfl; rfl; intro _) | apply EL.nil
   | (with_reducible first | apply EK.nc | apply EC.seq | apply EC.r0 | apply EC.k0 | apply EC.label | apply EC.b0 | apply EC.x0 | apply EC.ret | apply EK.n0 | apply EK.s0 | apply EK.aA | apply EK.aj | apply EK.ah))
 apply F6 (n := 16) (y' := 8)
 · exact ⟨by decide, by decide⟩
 iterate 5 rfl
 intro sv
 rename_i g1
 rw [CJ 16]
 repeat
  (first
   | (apply ak; iterate 3 rfl) | apply EL.nil
   | (with_reducible first | apply EK.nc | apply EC.seq | apply EC.r0 | apply EC.k0 | apply EC.label | apply EC.b0 | apply EC.x0 | apply EC.ret | apply EK.n0 | apply EK.s0 | apply EK.aA | apply EK.aj | apply EK.ah))
 refine EC.loop (ι := {i : Nat // i ≤ 16})
  (fun i => ⟨[(4, .val (.v (.int .i64 (i.1 : Int)))), (3, .val (.v sv)), (1, .val (.v (.pointer (some ⟨g1, 0, none⟩))))], [.row sv 3 1 (dIs (W.take i.1 ++ List.replicate (16 - i.1) 0)), .var g1 34 (.arr 32 v)], []⟩)
  (fun i => 16 - i.1) ⟨0, by omega⟩ ?_ ?_
 · exact Le.kp
 rintro ⟨i, hi⟩
 dsimp only at hi ⊢
 by_cases hlt : i < 16
 ·
  have hWi := hget i hlt
  have hst := oh W 0 i 16 hWl hlt
  rw [Lr, KA (by omega), Option.getD_some] at hWi
  rw [hWi] at hst
  have hb1 : v[31 - 2 * i]? = some (v[31 - 2 * i]'(by omega)) := KA _
  have hb2 : v[30 - 2 * i]? = some (v[30 - 2 * i]'(by omega)) := KA _
  have l1 : (v[31 - 2 * i]'(by omega)).toNat < 256 := UInt8.toNat_lt _
  have l2 : (v[30 - 2 * i]'(by omega)).toNat < 256 := UInt8.toNat_lt _
  generalize (v[31 - 2 * i]'(by omega)) = b1 at hb1 hst l1
  generalize (v[30 - 2 * i]'(by omega)) = b2 at hb2 hst l2
  have c1 := fun b : UInt8 => mV (T := 5) (U := 3) (k := .u8) (k' := .i64) Tryz.underlying5 Tryz.underlying3 (b.toNat : Int) (b.toNat : Int) (pR _ (by have := b.toNat_lt; omega))
  have r1 := DL 3 b2.toNat 8 (by decide) (by omega)
  have r2 := FV 3 b1.toNat (b2.toNat * 2 ^ 8) (by omega) (by omega)
  have hor : b1.toNat ||| b2.toNat * 2 ^ 8 = b1.toNat + b2.toNat * 256 := by
   rw [Nat.or_comm, Ew 8 (b2.toNat * 2 ^ 8) b1.toNat b2.toNat (Nl _ _) l1]
   omega
  rw [hor] at r2
  have o1 : 0 + ((31 : Int) - 2 * (i : Int)).toNat * 1 = 31 - 2 * i := by omega
  have o2 : 0 + ((30 : Int) - 2 * (i : Int)).toNat * 1 = 30 - 2 * i := by omega
  have hrl : (dIs (W.take i ++ List.replicate (16 - i) 0)).length = 16 := by rw [fH, Lu, LD, MF]; omega
  have hold : (dIs (W.take i ++ List.replicate (16 - i) 0))[i]? = some (.v (i64 0)) := by
   rw [jm (by rw [← fH, hrl]; exact hlt)]
   congr 3
   rw [NQ (by rw [LD]; omega), List.getElem_replicate]
  repeat
   (first
    | (apply aB; iterate 3 rfl) | (apply aC (b := true); (iterate 2 rfl); exact aN; iterate 2 rfl) | apply EL.nil
    | (apply EC.t0; rfl)
    | (with_reducible first | apply EK.nc | apply EC.seq | apply EC.r0 | apply EC.k0 | apply EC.label | apply EC.b0 | apply EC.x0 | apply EC.ret | apply EK.n0 | apply EK.s0 | apply EK.aA | apply EK.aj | apply EK.ah))
  refine EC.draw 16 (by kernel_rfl) ?_
  simp only [Kv, Kz, Ku, Kw]
  repeat
   (first
    | (apply fQ; (iterate 2 rfl); exact r1; iterate 2 rfl) | (apply fQ; (iterate 2 rfl); exact r2; iterate 2 rfl)
    | (apply bG; (iterate 3 rfl); exact ⟨by omega, by omega⟩; iterate 2 rfl)
    | (first | (apply CQ (k := 0 + ((31 : Int) - 2 * (i : Int)).toNat * 1); (rw [o1]; exact hb1); rfl; exact I1; iterate 3 rfl) | (apply CQ (k := 0 + ((30 : Int) - 2 * (i : Int)).toNat * 1); (rw [o2]; exact hb2); rfl; exact I1; iterate 3 rfl))
    | (apply Gg; rfl; exact c1 _; iterate 3 rfl) | (apply aJ; iterate 3 rfl) | (apply J6; (iterate 3 rfl); (focus omega); (focus omega); iterate 2 rfl)
    | ((with_reducible apply EH.nil); rfl))
  repeat
   (first
    | (apply bY; rfl; exact I0; (iterate 2 rfl); exact ⟨by omega, by omega⟩; iterate 2 rfl)
    | (apply dw (k := i) (off := 0) (d := .v (i64 0)) (d'' := .v (i64 (b1.toNat + b2.toNat * 256))); rfl; exact .z; exact ⟨by omega, hold⟩; iterate 4 rfl)
    | (apply aB; iterate 3 rfl) | (apply ak; iterate 3 rfl) | (apply dQ; (iterate 3 rfl); (focus omega); (focus omega); iterate 2 rfl) | apply EL.nil
    | (with_reducible first | apply EK.nc | apply EC.seq | apply EC.r0 | apply EC.k0 | apply EC.label | apply EC.b0 | apply EC.x0 | apply EC.ret | apply EK.n0 | apply EK.s0 | apply EK.aA | apply EK.aj | apply EK.ah))
  refine EK.again ⟨i + 1, by omega⟩ (by dsimp only; omega) ?_
  rw [xG, hst]
  simp only [Ls]
  exact Le.kp
 ·
  have : i = 16 := by omega
  subst this
  rw [ML (by omega), Oi, Nz, KU]
  repeat
   (first
    | (apply aB; iterate 3 rfl) | (apply ak; iterate 3 rfl) | (apply aC (b := false); (iterate 2 rfl); exact aN; iterate 2 rfl) | apply EL.nil
    | (apply EC.f0; rfl)
    | (with_reducible first | apply EK.nc | apply EC.seq | apply EC.r0 | apply EC.k0 | apply EC.label | apply EC.b0 | apply EC.x0 | apply EC.ret | apply EK.n0 | apply EK.s0 | apply EK.aA | apply EK.aj | apply EK.ah))
  refine EK.le (Le.freeze (pre := []) rfl) ?_
  refine EK.Ej rfl rfl ?_ rfl
  (exact RL.a)
end E
end Go.Proofs.YtkhjanjlcdhdcaaGreat
