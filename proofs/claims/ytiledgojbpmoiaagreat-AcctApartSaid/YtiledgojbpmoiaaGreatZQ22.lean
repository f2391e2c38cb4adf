/-
 Merged (wip/tools/merge.py): BR4, BRN.
 Conditions: none.
-/
import Derived.Test.YtiledgojbpmoiaaGreatZQ21
namespace Go.Proofs.YtiledgojbpmoiaaGreat
set_option linter.unusedVariables false
set_option maxRecDepth 20000
set_option maxHeartbeats 32000000
open Go.RowKit Mono Rlp
namespace E
def QA {g : Nat} (B : Bld g) (f : Nat) : Prop := ∀ (l : List Pr) (s : B.σ), l.isEmpty = false → (∀ x ∈ l, x.1.length < f) → (∀ x ∈ l, x.1.length ≤ 536870912) → l.length ≤ 1000000 → B.sz s + f * l.length ≤ 1000000000 →
 FnM 78 [.v (ptr g), .sl 2 (l.map dPr)] (B.os s) (fun r os' => ∃ t, B.Rl (gZ f l) (f * l.length) s t ∧ r = .val (bJ (bF f l)) ∧ os' = B.os t)
theorem OE {g : Nat} (B : Bld g) (f : Nat) (x : Pr) (s : B.σ) (hx : x.1.length ≤ 536870912) : FnM 78 [.v (ptr g), .sl 2 ([x].map dPr)] (B.os s) (fun r os' => ∃ t, B.Rl (gZ (f + 1) [x]) ((f + 1) * [x].length) s t ∧ r = .val (bJ (bF (f + 1) [x])) ∧ os' = B.os t) := by
 have h1 := GN x.1 true hx
 have h2 := kN (ppk x.1 true)
 have h3 := kN x.2
 have h4 := xP [.mk false (ppk x.1 true) [], .mk false x.2 []]
 rw [bF, gZ]
 generalize (joinL (hdr x.1 true ++ x.1)).isSome = bo at h1
 generalize ppk x.1 true = pp at h1 h2 h4 ⊢
 have hd : ([x].map dPr)[0]? = some (.tup [.bs x.1, .bs x.2]) := rfl
 refine FnM.walk 151 Tryz.func78 rfl Tryz.ntmps78 (by simp) fun X => ?_
 repeat
  (first
   | (apply aJ (h1); rfl; exact ak.refl _ _; exact enA; iterate 2 rfl)
   | (apply aX (d := .tup [.bs x.1, .bs x.2]); (iterate 4 rfl); exact ⟨by decide, rfl⟩; iterate 2 rfl) | (apply au; iterate 3 rfl) | (apply aj; iterate 3 rfl)
   | (apply aP; iterate 7 rfl) | (apply aS; iterate 4 rfl) | (apply aK; iterate 5 rfl)
   | (apply aA (b := true); (iterate 2 rfl); exact aG; iterate 2 rfl) | (apply aB; iterate 4 rfl) | (apply aV; rfl; rfl; rfl; intro _) | apply EL.nil
   | ((with_reducible apply EK.ah); apply EK.code) | (apply EC.cond_true; rfl) | (with_reducible first | apply EC.seq | apply EC.region))
 refine EC.jm 10 [0, 1, 2, 3, 4, 5, 6, 7, 8] [9] [_] _ (by kernel_rfl) (by kernel_rfl) rfl ?_
 simp only [aQ, List.filterMap_cons, List.filterMap_nil, List.getElem?_cons_zero, List.getElem?_cons_succ]
 repeat
  (first
   | (apply bP (h2); rfl; exact ak.refl _ _; exact enA; iterate 2 rfl) | (apply bP (h3); rfl; exact ak.refl _ _; exact enA; iterate 2 rfl)
   | (apply bP (h4); rfl; exact ak.refl _ _; exact enA; iterate 2 rfl)
   | (apply bD (d := .tup [.bs x.1, .bs x.2]); (iterate 4 rfl); exact ⟨by decide, rfl⟩; iterate 2 rfl) | (apply aU; iterate 3 rfl) | (apply aW; iterate 7 rfl)
   | (apply bG; iterate 5 rfl) | (apply kP; iterate 9 rfl))
 refine EM.nil ?_
 repeat (first | rw [List.cons_append] | rw [List.nil_append])
 refine CH.mut (os := [_]) (rest := []) rfl rfl (jl (lD rfl rfl rfl rfl rfl)) ?_
 rintro _ _ ⟨rfl, rfl⟩
 try simp only [St.put]
 repeat (first | rw [List.cons_append] | rw [List.nil_append])
 refine CH.nil ?_
 try simp only [List.drop_succ_cons, List.drop_zero]
 repeat
  (first
   | apply EL.nil | ((with_reducible apply EK.ah); apply EK.code) | (with_reducible first | apply EC.ret | apply EK.aI))
 refine EK.kE 0 (B.os s) rfl rfl rfl rfl ?_ (by (repeat first | exact List.Sublist.refl _ | apply List.Sublist.cons_cons | apply List.Sublist.cons)) ⟨s, B.more (B.none s) (Nat.zero_le _), rfl, rfl⟩
 (exact RL.a)
theorem MB {g : Nat} (B : Bld g) (f : Nat) (ih : QA B f) (x y : Pr) (r : List Pr) (s : B.σ) (hf : ∀ z ∈ x :: y :: r, z.1.length < f + 1) (hp : ∀ z ∈ x :: y :: r, z.1.length ≤ 536870912) (hl : (x :: y :: r).length ≤ 1000000) (hN : B.sz s + (f + 1) * (x :: y :: r).length ≤ 1000000000) :
  FnM 78 [.v (ptr g), .sl 2 ((x :: y :: r).map dPr)] (B.os s) (fun r' os' => ∃ t, B.Rl (gZ (f + 1) (x :: y :: r)) ((f + 1) * (x :: y :: r).length) s t ∧ r' = .val (bJ (bF (f + 1) (x :: y :: r))) ∧ os' = B.os t) := by
 obtain ⟨res, hres⟩ : ∃ res, bF (f + 1) (x :: y :: r) = res := ⟨_, rfl⟩
 obtain ⟨U, hU⟩ : ∃ U, gZ (f + 1) (x :: y :: r) = U := ⟨_, rfl⟩
 rw [hres, hU]
 rw [bF] at hres
 rw [gZ] at hU
 have hml : ((x :: y :: r).map dPr).length = r.length + 1 + 1 := by simp
 have hLl : (x :: y :: r).length = r.length + 1 + 1 := by simp
 have hd0 : ((x :: y :: r).map dPr)[0]? = some (.tup [.bs x.1, .bs x.2]) := rfl
 have hdi : ∀ j, (hj : j < (y :: r).length) → ((x :: y :: r).map dPr)[j + 1]? = some (.tup [.bs (y :: r)[j].1, .bs (y :: r)[j].2]) := fun j hj => by
  rw [List.map_cons, List.getElem?_cons_succ, List.getElem?_map, List.getElem?_eq_getElem hj]
  rfl
 have htl : (y :: r).length = r.length + 1 := rfl
 obtain ⟨L, hL⟩ : ∃ L, x :: y :: r = L := ⟨_, rfl⟩
 rw [hL] at hres hU hml hLl hd0 hdi hf hp hl hN ⊢
 refine FnM.walk 151 Tryz.func78 rfl Tryz.ntmps78 (by simp) fun X => ?_
 have hm2 : (L.map dPr).length ≠ 1 := by omega
 generalize hDs : L.map dPr = Ds at hml hd0 hdi hm2 ⊢
 repeat
  (first
   | (apply aX (d := .tup [.bs x.1, .bs x.2]); (iterate 4 rfl); exact ⟨by decide, hd0⟩; iterate 2 rfl) | (apply au; iterate 3 rfl) | (apply aj; iterate 3 rfl)
   | (apply aP; iterate 7 rfl) | (apply aK; iterate 5 rfl) | (apply aA (b := false); (iterate 2 rfl); exact aG; iterate 2 rfl)
   | (apply dU; iterate 4 rfl) | (apply aB; iterate 4 rfl) | (apply aV; rfl; rfl; rfl; intro _) | apply EL.nil
   | ((with_reducible apply EK.ah); apply EK.code) | (apply EC.cond_false; rfl) | (with_reducible first | apply EC.seq | apply EC.region | apply EC.skip | apply EC.block))
 rename_i g4
 refine EC.loop (ι := {j : Nat // j ≤ (y :: r).length})
  (fun j => ⟨[(8, .val (.v (.int .i64 ((j.1 + 1 : Nat) : Int)))), (7, .val (.v (.int .i64 (dQ x.1 ((y :: r).take j.1) : Nat)))), (0, .val (.v (ptr g))), (1, .val (.sl 2 Ds)), (4, .val (.v (.pointer (some ⟨g4, 0, none⟩))))], (.var g4 157 (.tup [.v (.bool false), .v (.slice none 0 0), .v (.slice none 0 0)]) :: B.os s), []⟩)
  (fun j => (y :: r).length - j.1) ⟨0, Nat.zero_le _⟩ ?_ ?_
 · exact (Le.keep (by repeat first | exact trivial | refine ⟨rfl, ?_⟩) (by repeat first | exact List.Sublist.refl _ | apply List.Sublist.cons_cons | apply List.Sublist.cons) (by simp))
 rintro ⟨j, hj⟩
 dsimp only at hj ⊢
 by_cases hlt : j < (y :: r).length
 ·
  have hd := hdi j hlt
  have hc := Nb x.1 (y :: r)[j].1
  have hsn := Ju x.1 ((y :: r).take j) (y :: r)[j]
  rw [← List.take_succ_eq_append_getElem hlt] at hsn
  have hix : ((j + 1 : Nat) : Int).toNat = j + 1 := Int.toNat_natCast _
  by_cases hcl : common x.1 (y :: r)[j].1 < dQ x.1 ((y :: r).take j)
  ·
   rw [if_pos hcl] at hsn
   rw [← hsn] at hc hcl
   generalize (y :: r)[j] = z at hd hc
   generalize dQ x.1 ((y :: r).take j) = n0 at hcl ⊢
   generalize hn1 : dQ x.1 ((y :: r).take (j + 1)) = n1 at hc hcl hsn
   repeat
    (first
     | (apply au; iterate 3 rfl) | (apply aA (b := true); (iterate 2 rfl); exact aG; iterate 2 rfl) | (apply aB; iterate 4 rfl) | apply EL.nil
     | ((with_reducible apply EK.ah); apply EK.code) | (apply EC.cond_true; rfl) | (with_reducible first | apply EC.seq | apply EC.region | apply EC.skip | apply EC.block))
   refine EC.draw 11 (by kernel_rfl) ?_
   simp only [List.take_succ_cons, List.take_zero, List.drop_succ_cons, List.drop_zero]
   repeat
    (first
     | (apply bP (hc); rfl; exact ak.refl _ _; exact enA; iterate 2 rfl)
     | (apply bD (d := .tup [.bs x.1, .bs x.2]); (iterate 4 rfl); exact ⟨by decide, hd0⟩; iterate 2 rfl)
     | (apply bD (d := .tup [.bs z.1, .bs z.2]); (iterate 4 rfl); exact ⟨by omega, by rw [hix]; exact hd⟩; iterate 2 rfl) | (apply aU; iterate 3 rfl)
     | (apply iE; iterate 3 rfl) | (apply aW; iterate 7 rfl) | (apply bG; iterate 5 rfl) | ((with_reducible apply EH.nil); rfl))
   repeat
    (first
     | (apply au; iterate 3 rfl) | (apply aj; iterate 3 rfl) | (apply aA (b := true); (iterate 2 rfl); exact aG; iterate 2 rfl)
     | (apply eU; (iterate 3 rfl); (focus omega); (focus omega); iterate 2 rfl) | apply EL.nil | ((with_reducible apply EK.ah); apply EK.code) | (apply EC.cond_true; rfl)
     | (with_reducible first | apply EC.seq | apply EC.region | apply EK.aF))
   refine EK.again ⟨j + 1, hlt⟩ (by dsimp only; omega) ?_
   dsimp only
   rw [hn1, show (((j + 1 : Nat) : Int) + 1) = ((j + 1 + 1 : Nat) : Int) by omega]
   exact (Le.keep (by repeat first | exact trivial | refine ⟨rfl, ?_⟩) (by repeat first | exact List.Sublist.refl _ | apply List.Sublist.cons_cons | apply List.Sublist.cons) (by simp))
  ·
   rw [if_neg hcl] at hsn
   generalize (y :: r)[j] = z at hd hc hcl
   generalize hn1 : dQ x.1 ((y :: r).take (j + 1)) = n1 at hsn
   rw [← hsn] at hcl ⊢
   generalize common x.1 z.1 = n2 at hc hcl
   repeat
    (first
     | (apply au; iterate 3 rfl) | (apply aA (b := true); (iterate 2 rfl); exact aG; iterate 2 rfl) | (apply aB; iterate 4 rfl) | apply EL.nil
     | ((with_reducible apply EK.ah); apply EK.code) | (apply EC.cond_true; rfl) | (with_reducible first | apply EC.seq | apply EC.region | apply EC.skip | apply EC.block))
   refine EC.draw 11 (by kernel_rfl) ?_
   simp only [List.take_succ_cons, List.take_zero, List.drop_succ_cons, List.drop_zero]
   repeat
    (first
     | (apply bP (hc); rfl; exact ak.refl _ _; exact enA; iterate 2 rfl)
     | (apply bD (d := .tup [.bs x.1, .bs x.2]); (iterate 4 rfl); exact ⟨by decide, hd0⟩; iterate 2 rfl)
     | (apply bD (d := .tup [.bs z.1, .bs z.2]); (iterate 4 rfl); exact ⟨by omega, by rw [hix]; exact hd⟩; iterate 2 rfl) | (apply aU; iterate 3 rfl)
     | (apply iE; iterate 3 rfl) | (apply aW; iterate 7 rfl) | (apply bG; iterate 5 rfl) | ((with_reducible apply EH.nil); rfl))
   repeat
    (first
     | (apply au; iterate 3 rfl) | (apply aj; iterate 3 rfl) | (apply aA (b := false); (iterate 2 rfl); exact aG; iterate 2 rfl)
     | (apply eU; (iterate 3 rfl); (focus omega); (focus omega); iterate 2 rfl) | apply EL.nil | ((with_reducible apply EK.ah); apply EK.code) | (apply EC.cond_false; rfl)
     | (with_reducible first | apply EC.seq | apply EC.region | apply EC.skip | apply EK.aF))
   refine EK.again ⟨j + 1, hlt⟩ (by dsimp only; omega) ?_
   dsimp only
   rw [hn1, show (((j + 1 : Nat) : Int) + 1) = ((j + 1 + 1 : Nat) : Int) by omega]
   exact (Le.keep (by repeat first | exact trivial | refine ⟨rfl, ?_⟩) (by repeat first | exact List.Sublist.refl _ | apply List.Sublist.cons_cons | apply List.Sublist.cons) (by simp))
 have hje : j = (y :: r).length := by omega
 rw [show (y :: r).take j = y :: r by rw [hje, List.take_length]]
 clear hdi
 have hcm := lX x.1 (y :: r) x.1.length (Nat.le_refl _)
 change dQ x.1 (y :: r) ≤ x.1.length ∧ _ at hcm
 have hcx : ∀ z ∈ L, dQ x.1 (y :: r) ≤ z.1.length := fun z hz => by
  rw [← hL] at hz
  rcases List.mem_cons.1 hz with rfl | hz
  · exact hcm.1
  · exact Nat.le_trans (hcm.2 z hz) (Cc _ _).2
 have hxL : x ∈ L := by rw [← hL]; exact List.mem_cons_self
 by_cases hpos : 0 < dQ x.1 (y :: r)
 ·
  rw [if_pos hpos] at hres hU
  have hpx := hp x hxL
  generalize dQ x.1 (y :: r) = n at hpos hres hU hcm hcx ⊢
  have h1 := GN (x.1.take n) false (by rw [List.length_take]; omega)
  have h2 := kN (ppk (x.1.take n) false)
  have h3 := Py L n hl hcx
  rw [hDs] at h3
  have hrl := AV n L
  have h4 := TK B s (eF n L) (bF f (eF n L)) (gZ f (eF n L)) (f * L.length) (by rw [Nat.add_mul] at hN; omega) fun he => by
   have := ih (eF n L) s he (fun z hz => by
    obtain ⟨w, hw, rfl⟩ := List.mem_map.1 hz
    have := hf w hw
    have := hcx w hw
    show (w.1.drop n).length < f
    rw [List.length_drop]
    omega) (fun z hz => by
    obtain ⟨w, hw, rfl⟩ := List.mem_map.1 hz
    have := hp w hw
    show (w.1.drop n).length ≤ _
    rw [List.length_drop]
    omega) (by omega) (by rw [hrl]; rw [Nat.add_mul] at hN; omega)
   rw [hrl] at this
   exact this
  rw [hU] at h4
  generalize jC (eF n L) (bF f (eF n L)) = rx at h4 hres
  generalize ppk (x.1.take n) false = pp at h1 h2 hres
  generalize (joinL (hdr (x.1.take n) false ++ x.1.take n)).isSome = bo at h1
  generalize (eF n L).map dPr = Dr at h3 h4
  have h5 := xP [.mk false pp [], rx]
  have hmn : (f + 1) * L.length = f * L.length + L.length := by rw [Nat.add_mul, Nat.one_mul]
  repeat
   (first
    | (apply aX (d := .tup [.bs x.1, .bs x.2]); (iterate 4 rfl); exact ⟨by decide, hd0⟩; iterate 2 rfl)
    | (apply Vj; (iterate 3 rfl); exact ⟨by omega, by rw [Int.toNat_natCast]; omega⟩; (iterate 2 rfl); rw [Int.toNat_natCast])
    | (apply aJ (h1); rfl; exact ak.refl _ _; exact enA; iterate 2 rfl) | (apply aJ (h2); rfl; exact ak.refl _ _; exact enA; iterate 2 rfl)
    | (apply aJ (h3); rfl; exact ak.refl _ _; exact enA; iterate 2 rfl) | (apply au; iterate 3 rfl) | (apply aj; iterate 3 rfl)
    | (apply aP; iterate 7 rfl) | (apply aS; iterate 4 rfl) | (apply aK; iterate 5 rfl)
    | (apply aA (b := true); (iterate 2 rfl); exact aG; iterate 2 rfl) | (apply aA (b := false); (iterate 2 rfl); exact aG; iterate 2 rfl)
    | (apply aB; iterate 4 rfl) | apply EL.nil | ((with_reducible apply EK.ah); apply EK.code) | (apply EC.cond_true; rfl) | (apply EC.cond_false; rfl)
    | (with_reducible first | apply EC.seq | apply EC.region | apply EC.exit | apply EK.aZ | apply EK.aH))
  refine xR h4 [_] rfl rfl (ak.refl _ _) (by intro _ _; simp [go_sem]) rfl rfl ?_
  rintro _ _ ⟨s1, hn1, rfl, rfl⟩
  simp only [List.cons_append, List.nil_append]
  have hn2 : B.Rl U ((f + 1) * L.length) s s1 := B.more hn1 (by split <;> omega)
  cases rx with
  | mk rb rs rl =>
   rw [← hres]
   unfold bJ at h5 ⊢
   repeat
    (first
     | (apply aJ (h5); rfl; exact ak.refl _ _; exact enA; iterate 2 rfl) | (apply jo; iterate 9 rfl)
     | (apply aO; rfl; (focus (repeat first | exact .z | apply aY.s | apply aN.s)); iterate 4 rfl) | apply EL.nil | ((with_reducible apply EK.ah); apply EK.code)
     | (with_reducible first | apply EC.ret | apply EK.aI))
   refine EK.kE 0 (B.os s1) rfl rfl rfl rfl ?_ (by (repeat first | exact List.Sublist.refl _ | apply List.Sublist.cons_cons | apply List.Sublist.cons)) ⟨s1, hn2, rfl, rfl⟩
   (exact RL.a)
 ·
  rw [if_neg hpos] at hres hU
  clear hcm hcx
  generalize dQ x.1 (y :: r) = n at hpos ⊢
  have hDl : Ds.length = L.length := by rw [← hDs, List.length_map]
  have hdL : ∀ i, (hi : i < L.length) → Ds[i]? = some (.tup [.bs L[i].1, .bs L[i].2]) := fun i hi => by
   rw [← hDs, List.getElem?_map, List.getElem?_eq_getElem hi]
   rfl
  repeat
   (first
    | (apply au; iterate 3 rfl) | (apply aj; iterate 3 rfl) | (apply aA (b := false); (iterate 2 rfl); exact aG; iterate 2 rfl)
    | (apply aB; iterate 4 rfl) | apply EL.nil | ((with_reducible apply EK.ah); apply EK.code) | (apply EC.cond_false; rfl)
    | (with_reducible first | apply EC.seq | apply EC.region | apply EC.skip | apply EC.block | apply EC.exit | apply EK.aZ | apply EK.aH))
  refine EC.le (Le.row 157 3) ?_
  refine EC.loop (ι := {p : Nat × Value × B.σ // p.1 ≤ 16 ∧ B.Rl ((List.range p.1).map fun d => nV (cZ d L) (gZ f (cZ d L)) (bF f (cZ d L))).flatten ((f + 1) * (L.filter (fG p.1)).length) s p.2.2})
   (fun p => ⟨[(14, .val (.v (.int .i64 (p.1.1 : Int)))), (13, .val (.v (.slice none 0 0))), (12, .val (.v p.1.2.1)), (0, .val (.v (ptr g))), (1, .val (.sl 2 Ds)), (4, .val (.v (.pointer (some ⟨g4, 0, none⟩))))], (.row p.1.2.1 157 3 ((List.range p.1.1).map fun d => bJ (jC (cZ d L) (bF f (cZ d L)))) :: .var g4 157 (.tup [.v (.bool false), .v (.slice none 0 0), .v (.slice none 0 0)]) :: B.os p.1.2.2), []⟩)
   (fun p => 16 - p.1.1) ⟨(0, .slice none 0 0, s), Nat.zero_le _, B.more (B.none s) (Nat.zero_le _)⟩ ?_ ?_
  · exact (Le.keep (by repeat first | exact trivial | refine ⟨rfl, ?_⟩) (by repeat first | exact List.Sublist.refl _ | apply List.Sublist.cons_cons | apply List.Sublist.cons) (by simp))
  rintro ⟨⟨d, v, s1⟩, hd16, hb1⟩
  dsimp only at hd16 hb1 ⊢
  by_cases hdlt : d < 16
  ·
   skip
   repeat
    (first
     | (apply au; iterate 3 rfl) | (apply aj; iterate 3 rfl) | (apply aA (b := true); (iterate 2 rfl); exact aG; iterate 2 rfl) | apply EL.nil
     | ((with_reducible apply EK.ah); apply EK.code) | (apply EC.cond_true; rfl) | (with_reducible first | apply EC.seq | apply EC.region | apply EC.skip | apply EC.block))
   refine EC.le (Le.row 149 2) ?_
   refine EC.loop (ι := {q : Nat × Value // q.1 ≤ L.length})
    (fun q => ⟨[(16, .val (.v (.int .i64 (q.1.1 : Int)))), (15, .val (.v q.1.2)), (14, .val (.v (.int .i64 (d : Int)))), (13, .val (.v (.slice none 0 0))), (12, .val (.v v)), (0, .val (.v (ptr g))), (1, .val (.sl 2 Ds)), (4, .val (.v (.pointer (some ⟨g4, 0, none⟩))))], (.row q.1.2 149 2 (((L.take q.1.1).filter (headD d)).map dPr) :: .row v 157 3 ((List.range d).map fun d => bJ (jC (cZ d L) (bF f (cZ d L)))) :: .var g4 157 (.tup [.v (.bool false), .v (.slice none 0 0), .v (.slice none 0 0)]) :: B.os s1), []⟩)
    (fun q => L.length - q.1.1) ⟨(0, .slice none 0 0), Nat.zero_le _⟩ ?_ ?_
   · exact (Le.keep (by repeat first | exact trivial | refine ⟨rfl, ?_⟩) (by repeat first | exact List.Sublist.refl _ | apply List.Sublist.cons_cons | apply List.Sublist.cons) (by simp))
   rintro ⟨⟨i, u⟩, hi⟩
   dsimp only at hi ⊢
   by_cases hilt : i < L.length
   ·
    have hd := hdL i hilt
    have htk : L.take (i + 1) = L.take i ++ [L[i]] := List.take_succ_eq_append_getElem hilt
    have hfl : ((L.take i).filter (headD d)).length ≤ 1000000 := Nat.le_trans (List.length_filter_le _ _) (by rw [List.length_take]; omega)
    generalize L[i] = z at hd htk
    obtain ⟨zp, zv⟩ := z
    cases zp with
    | nil =>
     have hno : (L.take (i + 1)).filter (headD d) = (L.take i).filter (headD d) := by
      rw [htk, List.filter_append, List.filter_cons_of_neg (by simp [headD]), List.filter_nil, List.append_nil]
     repeat
      (first
       | (apply fP; iterate 2 rfl) | (apply au; iterate 3 rfl) | (apply aj; iterate 3 rfl) | (apply aP; iterate 7 rfl)
       | (apply aK; iterate 5 rfl) | (apply bV; iterate 4 rfl) | (apply aA (b := true); (iterate 2 rfl); exact aG; iterate 2 rfl)
       | (apply aA (b := false); (iterate 2 rfl); exact aG; iterate 2 rfl) | (apply eU; (iterate 3 rfl); (focus omega); (focus omega); iterate 2 rfl)
       | (apply dU; iterate 4 rfl) | (apply aB; iterate 4 rfl)
       | (apply aX; (iterate 4 rfl); (focus (first | exact ⟨by decide, rfl⟩ | (refine ⟨by omega, ?_⟩; rw [Int.toNat_natCast]; assumption))); iterate 2 rfl) | apply EL.nil
       | ((with_reducible apply EK.ah); apply EK.code) | (apply EC.cond_true; rfl) | (apply EC.cond_false; rfl)
       | (with_reducible first | apply EC.seq | apply EC.region | apply EC.skip | apply EC.block | apply EK.aF))
     refine EK.again ⟨(i + 1, u), hilt⟩ (by dsimp only; omega) ?_
     dsimp only
     rw [hno]
     simp only [Int.natCast_add]
     exact (Le.keep (by repeat first | exact trivial | refine ⟨rfl, ?_⟩) (by repeat first | exact List.Sublist.refl _ | apply List.Sublist.cons_cons | apply List.Sublist.cons) (by simp))
    | cons c zp =>
     have c1 : ∀ w, (Go.convert 5 3 (bv c)).run Tryz.prog w = .ok (.int .i64 (c.toNat : Int)) w := zG (T := 5) (U := 3) (k := .u8) (k' := .i64) Tryz.underlying5 Tryz.underlying3 (c.toNat : Int) (c.toNat : Int) (IntWalk.i64_in _ (by have := c.toNat_lt; omega))
     by_cases hcd : c.toNat = d
     ·
      have hno : (L.take (i + 1)).filter (headD d) = (L.take i).filter (headD d) ++ [(c :: zp, zv)] := by
       rw [htk, List.filter_append, List.filter_cons_of_pos (by simp [headD, hcd]), List.filter_nil]
      have hnm : ((L.take (i + 1)).filter (headD d)).map dPr = ((L.take i).filter (headD d)).map dPr ++ [.tup [.bs (c :: zp), .bs zv]] := by
       rw [hno, List.map_append]
       rfl
      have hfm : (((L.take i).filter (headD d)).map dPr).length ≤ 1000000 := by rw [List.length_map]; exact hfl
      generalize ((L.take i).filter (headD d)).map dPr = fl at hnm hfm ⊢
      repeat
       (first
        | (apply D9; rfl; exact c1; iterate 3 rfl)
        | (apply fJ; rfl; (focus (repeat first | exact .z | apply aY.s | apply aN.s)); (iterate 5 rfl); (constructor <;> (simp; omega)); intro u2)
        | (apply au; iterate 3 rfl) | (apply aj; iterate 3 rfl) | (apply aP; iterate 7 rfl) | (apply aK; iterate 5 rfl)
        | (apply bV; iterate 4 rfl) | (apply aA (b := true); (iterate 2 rfl); exact aG; iterate 2 rfl)
        | (apply eU; (iterate 3 rfl); (focus omega); (focus omega); iterate 2 rfl) | (apply dU; iterate 4 rfl) | (apply aB; iterate 4 rfl)
        | (apply aX; (iterate 4 rfl); (focus (first | exact ⟨by decide, rfl⟩ | (refine ⟨by omega, ?_⟩; rw [Int.toNat_natCast]; assumption))); iterate 2 rfl)
        | (apply jP; (iterate 3 rfl); (focus (first | exact ⟨by decide, rfl⟩ | (refine ⟨by omega, ?_⟩; rw [Int.toNat_natCast]; assumption))); iterate 2 rfl)
        | (apply jo; iterate 9 rfl) | apply EL.nil | ((with_reducible apply EK.ah); apply EK.code) | (apply EC.cond_true; rfl)
        | (with_reducible first | apply EC.seq | apply EC.region | apply EC.skip | apply EC.block | apply EK.aF))
      refine EK.again ⟨(i + 1, u2), hilt⟩ (by dsimp only; omega) ?_
      dsimp only
      rw [hnm]
      simp only [Int.natCast_add]
      exact (Le.keep (by repeat first | exact trivial | refine ⟨rfl, ?_⟩) (by repeat first | exact List.Sublist.refl _ | apply List.Sublist.cons_cons | apply List.Sublist.cons) (by simp))
     ·
      have hno : (L.take (i + 1)).filter (headD d) = (L.take i).filter (headD d) := by
       rw [htk, List.filter_append, List.filter_cons_of_neg (by simp [headD, hcd]), List.filter_nil, List.append_nil]
      repeat
       (first
        | (apply D9; rfl; exact c1; iterate 3 rfl) | (apply au; iterate 3 rfl) | (apply aj; iterate 3 rfl) | (apply aP; iterate 7 rfl)
        | (apply aK; iterate 5 rfl) | (apply bV; iterate 4 rfl) | (apply aA (b := true); (iterate 2 rfl); exact aG; iterate 2 rfl)
        | (apply aA (b := false); (iterate 2 rfl); exact aG; iterate 2 rfl) | (apply eU; (iterate 3 rfl); (focus omega); (focus omega); iterate 2 rfl)
        | (apply dU; iterate 4 rfl) | (apply aB; iterate 4 rfl)
        | (apply aX; (iterate 4 rfl); (focus (first | exact ⟨by decide, rfl⟩ | (refine ⟨by omega, ?_⟩; rw [Int.toNat_natCast]; assumption))); iterate 2 rfl)
        | (apply jP; (iterate 3 rfl); (focus (first | exact ⟨by decide, rfl⟩ | (refine ⟨by omega, ?_⟩; rw [Int.toNat_natCast]; assumption))); iterate 2 rfl) | apply EL.nil
        | ((with_reducible apply EK.ah); apply EK.code) | (apply EC.cond_true; rfl) | (apply EC.cond_false; rfl)
        | (with_reducible first | apply EC.seq | apply EC.region | apply EC.skip | apply EC.block | apply EK.aF))
      refine EK.again ⟨(i + 1, u), hilt⟩ (by dsimp only; omega) ?_
      dsimp only
      rw [hno]
      simp only [Int.natCast_add]
      exact (Le.keep (by repeat first | exact trivial | refine ⟨rfl, ?_⟩) (by repeat first | exact List.Sublist.refl _ | apply List.Sublist.cons_cons | apply List.Sublist.cons) (by simp))
   ·
    have hie : i = L.length := by omega
    rw [show L.take i = L by rw [hie, List.take_length]]
    have hFl : (L.filter (headD d)).length ≤ L.length := List.length_filter_le _ _
    have h3 := Py (L.filter (headD d)) 1 (by omega) fun z hz => vV (List.mem_filter.1 hz).2
    have hst := PZ L d
    have hcl := cnt_le L (d + 1)
    have hmn : (f + 1) * (L.filter (fG (d + 1))).length = (f + 1) * (L.filter (fG d)).length + (f + 1) * (L.filter (headD d)).length := by rw [hst, Nat.mul_add]
    have hmn2 : (f + 1) * (L.filter (headD d)).length = f * (L.filter (headD d)).length + (L.filter (headD d)).length := by rw [Nat.add_mul, Nat.one_mul]
    have hmn3 : (f + 1) * (L.filter (fG (d + 1))).length ≤ (f + 1) * L.length := Nat.mul_le_mul_left _ hcl
    have hkl := OL d L
    have hbs := B.size hb1
    have hbig : B.sz s1 + (f * (L.filter (headD d)).length) ≤ 1000000000 := by omega
    have h4 := TK B s1 (cZ d L) (bF f (cZ d L)) (gZ f (cZ d L)) (f * (L.filter (headD d)).length) hbig fun he => by
     have := ih (cZ d L) s1 he (fun z hz => by
      obtain ⟨w, hw, h1, rfl⟩ := uD hz
      have := hf w hw
      have := vV h1
      show (w.1.drop 1).length < f
      rw [List.length_drop]
      omega) (fun z hz => by
      obtain ⟨w, hw, h1, rfl⟩ := uD hz
      have := hp w hw
      show (w.1.drop 1).length ≤ _
      rw [List.length_drop]
      omega) (by omega) (by rw [hkl]; exact hbig)
     rw [hkl] at this
     exact this
    have hrs : (List.range (d + 1)).map (fun d => bJ (jC (cZ d L) (bF f (cZ d L)))) = (List.range d).map (fun d => bJ (jC (cZ d L) (bF f (cZ d L)))) ++ [bJ (jC (cZ d L) (bF f (cZ d L)))] := by rw [List.range_succ, List.map_append]; rfl
    have hrl : ((List.range d).map (fun d => bJ (jC (cZ d L) (bF f (cZ d L))))).length = d := by simp
    have hemp : (cZ d L).isEmpty = false → 1 ≤ (L.filter (headD d)).length := fun he => by
     rw [← hkl]
     cases hk : cZ d L with
     | nil => rw [hk] at he; cases he
     | cons _ _ => simp
    rw [show eF 1 (L.filter (headD d)) = cZ d L from rfl] at h3
    have hUs : ((List.range (d + 1)).map fun d => nV (cZ d L) (gZ f (cZ d L)) (bF f (cZ d L))).flatten = ((List.range d).map fun d => nV (cZ d L) (gZ f (cZ d L)) (bF f (cZ d L))).flatten ++ nV (cZ d L) (gZ f (cZ d L)) (bF f (cZ d L)) := by rw [List.range_succ, List.map_append, List.flatten_append]; simp
    generalize jC (cZ d L) (bF f (cZ d L)) = rx at h4 hrs
    refine EC.le (Le.freeze (pre := []) rfl) ?_
    refine EC.le (Le.refine (t := 15) (d' := .sl 2 ((L.filter (headD d)).map dPr)) rfl (Rf.fact List.mem_cons_self rfl)) ?_
    simp only [List.nil_append]
    generalize (L.filter (headD d)).map dPr = Df at h3 ⊢
    generalize hDk : (cZ d L).map dPr = Dk at h3 h4
    repeat
     (first
      | (apply aJ (h3); rfl; exact ak.refl _ _; exact enA; iterate 2 rfl) | (apply au; iterate 3 rfl)
      | (apply aA (b := false); (iterate 2 rfl); exact aG; iterate 2 rfl) | (apply aB; iterate 4 rfl) | apply EL.nil | ((with_reducible apply EK.ah); apply EK.code)
      | (apply EC.cond_false; rfl) | (with_reducible first | apply EC.seq | apply EC.region | apply EC.exit | apply EK.aZ | apply EK.aH))
    refine xR h4 [_, _] rfl rfl (ak.refl _ _) (by intro _ _; simp [go_sem]) rfl rfl ?_
    rintro _ _ ⟨s2, hn2, rfl, rfl⟩
    simp only [List.cons_append, List.nil_append]
    have hb2 : B.Rl ((List.range (d + 1)).map fun d => nV (cZ d L) (gZ f (cZ d L)) (bF f (cZ d L))).flatten ((f + 1) * (L.filter (fG (d + 1))).length) s s2 := by
     rw [hUs]
     refine B.more (B.app hb1 hn2) ?_
     cases he : (cZ d L).isEmpty with
     | true =>
      rw [if_pos rfl]
      omega
     | false =>
      rw [if_neg (by decide)]
      have := hemp he
      omega
    cases rx with
    | mk rb rq rl =>
     unfold bJ at hrs ⊢
     generalize (List.range d).map (fun d => bJ (jC (cZ d L) (bF f (cZ d L)))) = ro at hrs hrl ⊢
     repeat
      (first
       | (apply fJ; rfl; (focus (repeat first | exact .z | apply aY.s | apply aN.s)); (iterate 5 rfl); (constructor <;> (simp; omega)); intro v2)
       | (apply au; iterate 3 rfl) | (apply aj; iterate 3 rfl) | (apply eU; (iterate 3 rfl); (focus omega); (focus omega); iterate 2 rfl)
       | (apply jo; iterate 9 rfl) | apply EL.nil | ((with_reducible apply EK.ah); apply EK.code) | (with_reducible first | apply EC.region | apply EK.aF))
     refine EK.again ⟨(d + 1, v2, s2), hdlt, hb2⟩ (by dsimp only; omega) ?_
     dsimp only
     rw [hrs]
     simp only [Int.natCast_add]
     exact (Le.keep (by repeat first | exact trivial | refine ⟨rfl, ?_⟩) (by repeat first | exact List.Sublist.refl _ | apply List.Sublist.cons_cons | apply List.Sublist.cons) (by simp))
  ·
   have hde : d = 16 := by omega
   have hcl := cnt_le L d
   have hmn3 : (f + 1) * (L.filter (fG d)).length ≤ (f + 1) * L.length := Nat.mul_le_mul_left _ hcl
   have hb2 : B.Rl U ((f + 1) * L.length) s s1 := by
    rw [← hU]
    refine B.more ?_ hmn3
    rw [hde] at hb1 ⊢
    exact hb1
   clear hmn3 hcl
   repeat
    (first
     | (apply au; iterate 3 rfl) | (apply aj; iterate 3 rfl) | (apply aA (b := false); (iterate 2 rfl); exact aG; iterate 2 rfl) | apply EL.nil
     | ((with_reducible apply EK.ah); apply EK.code) | (apply EC.cond_false; rfl)
     | (with_reducible first | apply EC.seq | apply EC.region | apply EC.block | apply EC.exit | apply EK.aZ | apply EK.aH))
   refine EC.le (Le.refine (t := 13) (d' := .bs []) rfl Rf.bs0) ?_
   refine EC.loop (ι := {i : Nat // i ≤ L.length})
    (fun i => ⟨[(17, .val (.v (.int .i64 (i.1 : Int)))), (13, .val (.bs (lJ (L.take i.1)))), (12, .val (.v v)), (0, .val (.v (ptr g))), (1, .val (.sl 2 Ds)), (4, .val (.v (.pointer (some ⟨g4, 0, none⟩))))], (.row v 157 3 ((List.range d).map fun d => bJ (jC (cZ d L) (bF f (cZ d L)))) :: .var g4 157 (.tup [.v (.bool false), .v (.slice none 0 0), .v (.slice none 0 0)]) :: B.os s1), []⟩)
    (fun i => L.length - i.1) ⟨0, Nat.zero_le _⟩ ?_ ?_
   · exact (Le.keep (by repeat first | exact trivial | refine ⟨rfl, ?_⟩) (by repeat first | exact List.Sublist.refl _ | apply List.Sublist.cons_cons | apply List.Sublist.cons) (by simp))
   rintro ⟨i, hi⟩
   dsimp only at hi ⊢
   by_cases hilt : i < L.length
   ·
    have hd := hdL i hilt
    have hvs := KZ (L.take i) L[i]
    rw [← List.take_succ_eq_append_getElem hilt] at hvs
    generalize L[i] = z at hd hvs
    obtain ⟨zp, zv⟩ := z
    cases zp with
    | nil =>
     rw [if_pos (show ([] : List UInt8).isEmpty = true from rfl)] at hvs
     generalize hv1 : lJ (L.take (i + 1)) = v1 at hvs
     repeat
      (first
       | (apply au; iterate 3 rfl) | (apply aj; iterate 3 rfl) | (apply aP; iterate 7 rfl) | (apply aK; iterate 5 rfl)
       | (apply aA (b := true); (iterate 2 rfl); exact aG; iterate 2 rfl) | (apply eU; (iterate 3 rfl); (focus omega); (focus omega); iterate 2 rfl)
       | (apply dU; iterate 4 rfl) | (apply aB; iterate 4 rfl)
       | (apply aX; (iterate 4 rfl); (focus (first | exact ⟨by decide, rfl⟩ | (refine ⟨by omega, ?_⟩; rw [Int.toNat_natCast]; assumption))); iterate 2 rfl) | apply EL.nil
       | ((with_reducible apply EK.ah); apply EK.code) | (apply EC.cond_true; rfl) | (with_reducible first | apply EC.seq | apply EC.region | apply EC.skip | apply EC.block | apply EK.aF))
     refine EK.again ⟨i + 1, hilt⟩ (by dsimp only; omega) ?_
     dsimp only
     rw [hv1, hvs]
     simp only [Int.natCast_add]
     exact (Le.keep (by repeat first | exact trivial | refine ⟨rfl, ?_⟩) (by repeat first | exact List.Sublist.refl _ | apply List.Sublist.cons_cons | apply List.Sublist.cons) (by simp))
    | cons c zp =>
     rw [if_neg (show ¬ ((c :: zp).isEmpty = true) from Bool.false_ne_true)] at hvs
     repeat
      (first
       | (apply au; iterate 3 rfl) | (apply aj; iterate 3 rfl) | (apply aP; iterate 7 rfl) | (apply aK; iterate 5 rfl)
       | (apply aA (b := true); (iterate 2 rfl); exact aG; iterate 2 rfl) | (apply aA (b := false); (iterate 2 rfl); exact aG; iterate 2 rfl)
       | (apply eU; (iterate 3 rfl); (focus omega); (focus omega); iterate 2 rfl) | (apply dU; iterate 4 rfl) | (apply aB; iterate 4 rfl)
       | (apply aX; (iterate 4 rfl); (focus (first | exact ⟨by decide, rfl⟩ | (refine ⟨by omega, ?_⟩; rw [Int.toNat_natCast]; assumption))); iterate 2 rfl) | apply EL.nil
       | ((with_reducible apply EK.ah); apply EK.code) | (apply EC.cond_true; rfl) | (apply EC.cond_false; rfl)
       | (with_reducible first | apply EC.seq | apply EC.region | apply EC.skip | apply EC.block | apply EK.aF))
     refine EK.again ⟨i + 1, hilt⟩ (by dsimp only; omega) ?_
     dsimp only
     rw [hvs]
     simp only [Int.natCast_add]
     exact (Le.keep (by repeat first | exact trivial | refine ⟨rfl, ?_⟩) (by repeat first | exact List.Sublist.refl _ | apply List.Sublist.cons_cons | apply List.Sublist.cons) (by simp))
   ·
    have hie : i = L.length := by omega
    rw [show L.take i = L by rw [hie, List.take_length]]
    rw [← hde] at hres
    have h5 := kN (lJ L)
    have h6 := xP ((List.range d).map (fun d => jC (cZ d L) (bF f (cZ d L))) ++ [.mk false (lJ L) []])
    have hmm : kS ((List.range d).map (fun d => jC (cZ d L) (bF f (cZ d L))) ++ [.mk false (lJ L) []]) = (List.range d).map (fun d => bJ (jC (cZ d L) (bF f (cZ d L)))) ++ [bJ (.mk false (lJ L) [])] := by
     rw [oG, List.map_append, List.map_map]
     rfl
    have hrl : ((List.range d).map (fun d => bJ (jC (cZ d L) (bF f (cZ d L))))).length = d := by simp
    rw [← hres]
    generalize (List.range d).map (fun d => jC (cZ d L) (bF f (cZ d L))) ++ [.mk false (lJ L) []] = xs at h6 hmm ⊢
    generalize (List.range d).map (fun d => bJ (jC (cZ d L) (bF f (cZ d L)))) = ro at hmm hrl ⊢
    generalize lJ L = vl at h5 hmm ⊢
    repeat
     (first
      | (apply aJ (h5); rfl; exact ak.refl _ _; exact enA; iterate 2 rfl) | (apply aJ (h6); rfl; exact ak.refl _ _; exact enA; iterate 2 rfl)
      | (apply fJ; rfl; (focus (repeat first | exact .z | apply aY.s | apply aN.s)); (iterate 5 rfl); (constructor <;> (simp; omega)); intro v2; refine EL.le (Le.freeze (pre := []) rfl) ?_; refine EL.le (Le.refine (t := 149) (d' := .sl 3 (kS xs)) rfl (Rf.fact (by rw [hmm]; exact List.mem_cons_self) rfl)) ?_; simp only [List.nil_append])
      | (apply au; iterate 3 rfl) | (apply aA (b := false); (iterate 2 rfl); exact aG; iterate 2 rfl) | (apply aB; iterate 4 rfl)
      | (apply jo; iterate 9 rfl) | (apply aO; rfl; (focus (repeat first | exact .z | apply aY.s | apply aN.s)); iterate 4 rfl) | apply EL.nil
      | ((with_reducible apply EK.ah); apply EK.code) | (apply EC.cond_false; rfl)
      | (with_reducible first | apply EC.seq | apply EC.region | apply EC.exit | apply EC.ret | apply EK.aZ | apply EK.aH))
    refine EK.kE 0 (B.os s1) rfl rfl rfl rfl ?_ (by (repeat first | exact List.Sublist.refl _ | apply List.Sublist.cons_cons | apply List.Sublist.cons)) ⟨s1, hb2, rfl, rfl⟩
    (exact RL.a)
theorem JC {g : Nat} (B : Bld g) : ∀ f, QA B f
 | 0 => fun l s he hf _ _ _ => by
  cases l with
  | nil => cases he
  | cons x r => exact absurd (hf x List.mem_cons_self) (Nat.not_lt_zero _)
 | f + 1 => fun l s he hf hp hl hN => by
  match l, he with
  | [x], _ => exact OE B f x s (hp x List.mem_cons_self)
  | x :: y :: r, _ => exact MB B f (JC B f) x y r s hf hp hl hN
abbrev bO (g : Nat) (ns : List Pr) : Obj := .var g 152 (.tup [.sl 33 (ns.map dNd), .v (.pointer none), .v (.bool false)])
theorem Qq (g : Nat) (ns : List Pr) (x : List UInt8) (hl : ns.length ≤ 1000000000) (hx : x.length ≤ 1099511627776) : FnM 79 [.v (ptr g), .bs x] [bO g ns] (fun r os' => r = .val (.arr 32 (hash x)) ∧ os' = [bO g (fO (hash x, x) ns)]) := by
 have hK := nP x hx
 have hP := BU ns (hash x, x) hl
 have hnl := (KF (T := 37) (by kernel_rfl) none).2
 refine FnM.walk 38 Tryz.func79 rfl Tryz.ntmps79 (by simp) fun X => ?_
 repeat
  (first
   | (apply aJ (hK); rfl; exact ak.refl _ _; exact enA; iterate 2 rfl) | (apply au; iterate 3 rfl) | (apply aV; rfl; rfl; rfl; intro _)
   | (apply aO; rfl; (focus (repeat first | exact .z | apply aY.s | apply aN.s)); iterate 4 rfl) | apply EL.nil | ((with_reducible apply EK.ah); apply EK.code)
   | (with_reducible first | apply EC.seq | apply EC.region))
 refine EC.draw 15 (by kernel_rfl) ?_
 simp only [List.take_succ_cons, List.take_zero, List.drop_succ_cons, List.drop_zero]
 repeat
  (first
   | (apply jI; iterate 2 rfl) | (apply fK; (iterate 2 rfl); exact hnl; iterate 2 rfl) | (apply aU; iterate 3 rfl) | (apply bH; iterate 6 rfl)
   | (apply dX; iterate 4 rfl) | (apply bT; rfl; exact I.a; iterate 4 rfl) | (apply eP; iterate 3 rfl) | ((with_reducible apply EH.nil); rfl))
 repeat
  (first
   | apply EL.nil | ((with_reducible apply EK.ah); apply EK.code) | (apply EC.cond_false; rfl) | (with_reducible first | apply EC.seq | apply EC.skip))
 refine EC.le (Le.pick [2, 0, 1] [_, _, _] rfl (by decide) rfl) ?_
 refine EC.jm 12 [0, 1, 2, 3, 5, 6, 7, 9, 10] [4, 8, 11] [_] _ (by kernel_rfl) (by kernel_rfl) rfl ?_
 simp only [aQ, List.filterMap_cons, List.filterMap_nil, List.getElem?_cons_zero, List.getElem?_cons_succ]
 repeat
  (first
   | (apply aU; iterate 3 rfl) | (apply bH; iterate 6 rfl) | (apply bT; rfl; exact I.a; iterate 4 rfl) | (apply iL; iterate 7 rfl)
   | (apply eP; iterate 3 rfl))
 refine EM.nil ?_
 repeat (first | rw [List.cons_append] | rw [List.nil_append])
 refine CH.cut 2 ?_
 simp only [List.take_succ_cons, List.take_zero, List.drop_succ_cons, List.drop_zero]
 repeat
  (first
   | (apply bP (hP); rfl; exact ak.refl _ _; exact enA; iterate 2 rfl) | (apply bT; rfl; exact I.a; iterate 4 rfl))
 refine EM.nil ?_
 repeat (first | rw [List.cons_append] | rw [List.nil_append])
 refine CH.mut (os := [_]) (rest := []) rfl rfl (jl (lD rfl rfl rfl rfl rfl)) ?_
 rintro _ _ ⟨rfl, rfl⟩
 try simp only [St.put]
 repeat (first | rw [List.cons_append] | rw [List.nil_append])
 refine CH.nil ?_
 try simp only [List.drop_succ_cons, List.drop_zero]
 repeat
  (first
   | (apply dA; rfl; exact I.a; iterate 4 rfl) | (apply aO; rfl; (focus (repeat first | exact .z | apply aY.s | apply aN.s)); iterate 4 rfl) | apply EL.nil
   | ((with_reducible apply EK.ah); apply EK.code) | (with_reducible first | apply EC.seq | apply EC.region | apply EC.ret))
 refine EK.kE 2 [bO g (fO (hash x, x) ns)] rfl rfl rfl rfl ?_ (by (repeat first | exact List.nil_sublist _ | apply List.Sublist.cons_cons | apply List.Sublist.cons)) ⟨rfl, rfl⟩
 (exact RL.a)
def WE (g : Nat) : Bld g where
 σ := List Pr
 os ns := [bO g ns]
 sz ns := ns.length
 Rl _ C s t := t.length ≤ s.length + C
 none s := Nat.le_refl _
 app h1 h2 := by omega
 more h1 h2 := by omega
 size h := h
 put s x h1 h2 := (Qq g s x h1 h2).mono fun r os' ⟨hr, ho⟩ => ⟨_, kH _ _, hr, ho⟩
end E
end Go.Proofs.YtiledgojbpmoiaaGreat
