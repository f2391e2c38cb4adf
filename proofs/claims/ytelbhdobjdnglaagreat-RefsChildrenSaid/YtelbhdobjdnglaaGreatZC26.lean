/-
 Merged: lemmas of this claim.
 Conditions: none.
-/
import Derived.Test.YtelbhdobjdnglaaGreatZC24
import Derived.Test.YtelbhdobjdnglaaGreatZC25
import Derived.WideKeyEntry
import Derived.Test.YtelbhdobjdnglaaGreatZC0
namespace Go.Proofs.YtelbhdobjdnglaaGreat
set_option linter.unusedVariables false
set_option maxRecDepth 20000
set_option maxHeartbeats 8000000
open Go.RowKit Mono Rlp
namespace E
section
variable {N : Nat} {X : Cx N} {ops : Array Oper} {Q : Exit → Act → World → Prop} {l : List Oper} {rs : List (Tmp × R)} {os : List Obj} {fs : List (Value × D)}
def Wn (T : Nat) (d0 : D) : Prop := (∃ T1 d, d0 = .ifc T1 d ∧ Nat.beq T1 T = false) ∨ d0 = .v .nilIface
theorem Wj {t ty : Nat} {pos : String} {af : Array Edge} {gd : Option (Nat × Bool)} {x : Operand} {T : Nat} {U : TypeId} {d0 dz : D} (hn : Wn T d0) (hx : ev (⟨rs, os, fs⟩ : St) x = some (.val d0)) (hT : cnL.contains T = true) (hz : assoc iy T = some dz) (hg : guardOf ops ⟨rs, os, fs⟩ ⟨some t, .typeAssert x U T true, ty, pos, af, gd⟩ = some true) (hN : Nat.blt t N = true) (kk : EL X ops Q l ⟨(t, (.tpl [dz, .v (.bool false)])) :: rs, os, fs⟩) : EL X ops Q (⟨some t, .typeAssert x U T true, ty, pos, af, gd⟩ :: l) ⟨rs, os, fs⟩ := by
 rcases hn with ⟨T1, d, rfl, h⟩ | rfl
 · exact ji hx hT h hz hg hN kk
 · exact xQ hx hT hz hg hN kk
end
abbrev wdO (v : Value) (l : List (List UInt8)) : Obj := .row v 29 32 (l.map (D.arr 32))
def x9 : Nd → List UInt8
 | .leaf _ v => v
 | .br _ v => v
 | _ => []
theorem PL (t : Nd) : Fn 113 [dN t] (· = .val (.bs (x9 t))) := by
 refine FnM.toFn ?_
 cases t with
 | nil =>
  unfold dN x9
  refine FnM.walk 20 Tryz.func113 rfl Tryz.ntmps113 (by simp) fun X => ?_
  repeat
   (first
    | (apply ak; iterate 3 rfl) | (apply ah; iterate 3 rfl) | (apply aA; iterate 4 rfl) | (apply xQ; iterate 5 rfl) | apply EL.nil
    | (apply EC.f0; rfl)
    | (with_reducible first | apply EK.nc | apply EC.seq | apply EC.r0 | apply EC.k0 | apply EC.b0 | apply EC.ret | apply EK.n0))
  exact EK.iZ [] rfl rfl (RL.cons Rf.bs0 RL.nil) (WI _) ⟨rfl, rfl⟩
 | hash w =>
  unfold dN x9
  refine FnM.walk 20 Tryz.func113 rfl Tryz.ntmps113 (by simp) fun X => ?_
  repeat
   (first
    | (apply ak; iterate 3 rfl) | (apply ah; iterate 3 rfl) | (apply aA; iterate 4 rfl) | (apply ji; iterate 6 rfl) | apply EL.nil
    | (apply EC.f0; rfl)
    | (with_reducible first | apply EK.nc | apply EC.seq | apply EC.r0 | apply EC.k0 | apply EC.b0 | apply EC.ret | apply EK.n0))
  exact EK.iZ [] rfl rfl (RL.cons Rf.bs0 RL.nil) (WI _) ⟨rfl, rfl⟩
 | ext p k =>
  unfold dN x9
  refine FnM.walk 20 Tryz.func113 rfl Tryz.ntmps113 (by simp) fun X => ?_
  repeat
   (first
    | (apply ak; iterate 3 rfl) | (apply ah; iterate 3 rfl) | (apply aA; iterate 4 rfl) | (apply ji; iterate 6 rfl) | apply EL.nil
    | (apply EC.f0; rfl)
    | (with_reducible first | apply EK.nc | apply EC.seq | apply EC.r0 | apply EC.k0 | apply EC.b0 | apply EC.ret | apply EK.n0))
  exact EK.iZ [] rfl rfl (RL.cons Rf.bs0 RL.nil) (WI _) ⟨rfl, rfl⟩
 | leaf p v =>
  unfold dN x9
  refine FnM.walk 20 Tryz.func113 rfl Tryz.ntmps113 (by simp) fun X => ?_
  repeat
   (first
    | (apply ak; iterate 3 rfl) | (apply ah; iterate 3 rfl) | (apply aP; iterate 7 rfl) | (apply aA; iterate 4 rfl)
    | (apply aG; iterate 5 rfl) | (apply jL; iterate 3 rfl) | (apply iC; iterate 4 rfl) | apply EL.nil
    | (apply EC.t0; rfl) | (with_reducible first | apply EK.nc | apply EC.seq | apply EC.r0 | apply EC.b0 | apply EC.ret | apply EK.bK | apply EK.aB))
  exact EK.aW [] rfl rfl (WI _) ⟨rfl, rfl⟩
 | br ks v =>
  have hK : (∀ e ∈ (List.range 16).map (fun i => dN (ks i)), ∃ s : Nd, e = dN s) ∧ ((List.range 16).map fun i => dN (ks i)).length = 16 := ⟨fun e he => by
   obtain ⟨i, _, rfl⟩ := Xg.1 he
   exact ⟨_, rfl⟩, by simp⟩
  have hsz := (xG hK.1).trans hK.2
  have h1 := QY v hsz
  unfold dN x9
  refine FnM.walk 20 Tryz.func113 rfl Tryz.ntmps113 (by simp) fun X => ?_
  generalize (List.range 16).map (fun i => dN (ks i)) = K at *
  repeat
   (first
    | (apply aP; (iterate 4 rfl); exact h1; iterate 2 rfl) | (apply ak; iterate 3 rfl) | (apply ah; iterate 3 rfl) | (apply aA; iterate 4 rfl)
    | (apply aG; iterate 5 rfl) | (apply jL; iterate 3 rfl) | (apply iC; iterate 4 rfl) | (apply ji; iterate 6 rfl) | apply EL.nil
    | (apply EC.t0; rfl) | (apply EC.f0; rfl)
    | (with_reducible first | apply EK.nc | apply EC.seq | apply EC.r0 | apply EC.b0 | apply EC.ret | apply EK.bK | apply EK.aB))
  exact EK.aW [] rfl rfl (WI _) ⟨rfl, rfl⟩
theorem Qg (t : Nd) (ht : ∀ w, t ≠ .hash w) : chN t = (sG t).flatMap chN ++ lead (x9 t) := by
 cases t with
 | nil =>
  show [] = [] ++ lead []
  rw [FN]
  rfl
 | hash w => exact absurd rfl (ht w)
 | leaf p v => rfl
 | ext p k =>
  show chN k = [k].flatMap chN ++ lead []
  rw [FN, List.flatMap_cons]
  simp
 | br ks v =>
  show (List.range 16).flatMap (fun i => chN (ks i)) ++ lead v = (sH ((List.range 16).map ks)).flatMap chN ++ lead v
  congr 1
  unfold sH
  generalize List.range 16 = l
  induction l with
  | nil => rfl
  | cons i l ih =>
   rw [List.flatMap_cons, Xm, ih]
   cases h : (ks i).isNil with
   | true =>
    rw [Ym (by simp [h])]
    cases hk : ks i with
    | nil => rfl
    | hash _ => rw [hk] at h; cases h
    | leaf _ _ => rw [hk] at h; cases h
    | ext _ _ => rw [hk] at h; cases h
    | br _ _ => rw [hk] at h; cases h
   | false =>
    rw [Yd (by simp [h]), List.flatMap_cons]
theorem MF (t : Nd) : (sG t).length ≤ 16 := by
 cases t with
 | nil => decide
 | hash w => exact Xo _
 | leaf p v => exact Xo _
 | ext p k => exact Nat.le_of_ble_eq_true rfl
 | br ks v =>
  have h := YJ (fun t : Nd => !t.isNil) ((List.range 16).map ks)
  rw [WY, List.length_range] at h
  exact h
theorem kU (t : Nd) (v : Value) (out : List (List UInt8)) (hl : out.length + (chN t).length ≤ 1099511627776)
  (H : ∀ k ∈ sG t, ∀ (v : Value) (out : List (List UInt8)), out.length + (chN k).length ≤ 1099511627776 → FnM 65 [dN k, .v v] [wdO v out] (fun r os' => ∃ v', r = .val (.v v') ∧ os' = [wdO v' (out ++ chN k)])) :
  FnM 65 [dN t, .v v] [wdO v out] (fun r os' => ∃ v', r = .val (.v v') ∧ os' = [wdO v' (out ++ chN t)]) := by
 by_cases ht : ∃ w, t = .hash w
 ·
  obtain ⟨w, rfl⟩ := ht
  rw [chN] at hl ⊢
  rw [List.length_singleton] at hl
  unfold dN
  have hol : (out.map (D.arr 32)).length = out.length := WY _
  have hom : out.map (D.arr 32) ++ [D.arr 32 w] = (out ++ [w]).map (D.arr 32) := by rw [XK]; rfl
  refine FnM.walk 52 Tryz.func65 rfl Tryz.ntmps65 (by simp) fun X => ?_
  repeat
   (first
    | (apply ak; iterate 3 rfl) | (apply ah; iterate 3 rfl) | (apply aA; iterate 4 rfl) | (apply aI; rfl; exact I.a; iterate 4 rfl)
    | (apply mG; iterate 9 rfl) | (apply iC; iterate 4 rfl) | (apply aT; rfl; rfl; rfl; intro _)
    | (apply aO; rfl; exact saA; iterate 4 rfl)
    | ((apply jB; rfl; exact saA; (iterate 5 rfl); (focus (constructor <;> (first | (simp; done) | (simp; omega))))); intro _)
    | apply EL.nil | (apply EC.t0; rfl) | (with_reducible first | apply EK.nc | apply EC.seq | apply EC.r0 | apply EC.ret | apply EK.aB))
  rename_i v'
  simp only [hom]
  exact EK.aW [wdO v' (out ++ [w])] rfl rfl (by (repeat first | exact WI _ | apply List.Sublist.cons_cons | apply List.Sublist.cons)) ⟨v', rfl, rfl⟩
 ·
  have hK := SI t
  have hV := PL t
  have hR := Jc (x9 t)
  have hE := vV
  have hch := Qg t fun w e => ht ⟨w, e⟩
  have hkl := MF t
  rw [hch] at hl ⊢
  have hlead : lead (x9 t) = match bdB (x9 t) with
   | some (_, _, r, _) => if r = iY then [] else [r]
   | none => [] := rfl
  rw [hlead] at hl ⊢
  clear hlead hch
  have ht2 : Wn 179 (dN t) := by
   cases t with
   | nil => exact .inr rfl
   | hash w => exact absurd ⟨w, rfl⟩ ht
   | leaf p v => exact .inl ⟨_, _, rfl, by decide⟩
   | ext p k => exact .inl ⟨_, _, rfl, by decide⟩
   | br ks v => exact .inl ⟨_, _, rfl, by decide⟩
  generalize sG t = L at *
  generalize x9 t = val at *
  generalize dN t = dt at *
  have hml : (L.map dN).length = L.length := WY _
  refine FnM.walk 52 Tryz.func65 rfl Tryz.ntmps65 (by simp) fun X => ?_
  repeat
   (first
    | (apply Wj ht2; iterate 5 rfl) | (apply aC (hK); rfl; exact aj.refl _ _; exact enA; iterate 2 rfl) | (apply ak; iterate 3 rfl)
    | (apply ah; iterate 3 rfl) | (apply aA; iterate 4 rfl) | (apply bC; iterate 4 rfl) | (apply aT; rfl; rfl; rfl; intro _)
    | (apply aO; rfl; exact saA; iterate 4 rfl) | apply EL.nil
    | (apply EC.f0; rfl) | (with_reducible first | apply EK.nc | apply EC.seq | apply EC.r0 | apply EC.k0 | apply EC.b0))
  rw [List.length_append] at hl
  have hpre : ∀ i, ((L.take i).flatMap chN).length ≤ (L.flatMap chN).length := fun i => by
   have h := congrArg (fun l => (l.flatMap chN).length) (XE i L)
   simp only [YW, List.length_append] at h
   omega
  refine EC.loop (ι := {x : Nat × Value // x.1 ≤ L.length})
   (fun x => ⟨[(24, .val (.v (.int .i64 (x.1.1 : Int)))), (23, .val (.v (.int .i64 ((L.map dN).length : Int)))), (22, .val (.sl 1 (L.map dN))), (1, .val (.v x.1.2)), (0, .val dt)], [wdO x.1.2 (out ++ (L.take x.1.1).flatMap chN)], []⟩)
   (fun x => L.length - x.1.1) ⟨(0, v), Xo _⟩ ?_ ?_
  ·
   dsimp only
   rw [WO, List.flatMap_nil, XB]
   exact Le.kp
  rintro ⟨⟨i, vi⟩, hi⟩
  dsimp only at hi ⊢
  by_cases hlt : i < L.length
  ·
   have hd : (L.map dN)[i]? = some (dN L[i]) := by rw [Xl, List.getElem?_eq_getElem hlt]; rfl
   have hpi := hpre (i + 1)
   have hfl : (L.take (i + 1)).flatMap chN = (L.take i).flatMap chN ++ chN L[i] := by
    rw [Xa hlt, YW, List.flatMap_cons, List.flatMap_nil, XB]
   rw [hfl, List.length_append] at hpi
   have hk := H L[i] (XH hlt) vi (out ++ (L.take i).flatMap chN) (by rw [List.length_append]; omega)
   rw [Xp, ← hfl] at hk
   have hsub := yg L[i]
   generalize dN L[i] = dk at hd hk hsub
   repeat
    (first
     | (apply aG; (iterate 2 rfl); exact hsub; iterate 2 rfl) | (apply ak; iterate 3 rfl) | (apply ah; iterate 3 rfl)
     | (apply aF (b := true); (iterate 2 rfl); exact aQ; iterate 2 rfl)
     | (apply bH; (iterate 4 rfl); exact ixA; iterate 2 rfl) | apply EL.nil
     | (apply EC.t0; rfl) | (with_reducible first | apply EK.nc | apply EC.seq | apply EC.r0 | apply EC.k0 | apply EC.b0))
   refine dD (os := [wdO vi (out ++ (L.take i).flatMap chN)]) hk rfl rfl (aj.refl _ _) (by intro _ _; simp [go_sem]) rfl rfl ?_
   rintro _ _ ⟨v2, rfl, rfl⟩
   simp only [WL, WJ]
   repeat
    (first
     | (apply ak; iterate 3 rfl) | (apply ah; iterate 3 rfl) | (apply jM; (iterate 3 rfl); (focus omega); (focus omega); iterate 2 rfl) | apply EL.nil
     | (with_reducible first | apply EK.nc | apply EC.r0 | apply EK.n0))
   refine EK.again ⟨(i + 1, v2), hlt⟩ (by dsimp only; omega) ?_
   simp only [XA]
   exact Le.kp
  ·
   obtain rfl : i = L.length := by omega
   rw [Yb]
   clear hpre H
   rw [← Xp] at *
   have hOl : (out ++ L.flatMap chN).length < 1099511627776 + 1 - (match bdB val with | some (_, _, r, _) => if r = iY then [] else [r] | none => ([] : List (List UInt8))).length := by rw [List.length_append]; omega
   generalize out ++ L.flatMap chN = O at *
   have hOm : (O.map (D.arr 32)).length = O.length := WY _
   have hE := vV
   unfold Wh at hR
   cases hb : bdB val with
   | none =>
    rw [hb] at hR
    rw [XB]
    repeat
     (first
      | (apply aC (hV); rfl; exact aj.refl _ _; exact enA; iterate 2 rfl) | (apply aC (hR); rfl; exact aj.refl _ _; exact enA; iterate 2 rfl)
      | (apply ak; iterate 3 rfl) | (apply ah; iterate 3 rfl) | (apply aA; iterate 4 rfl)
      | (apply aF (b := false); (iterate 2 rfl); exact aQ; iterate 2 rfl) | (apply aT; rfl; rfl; rfl; intro _)
      | (apply aO; rfl; exact saA; iterate 4 rfl) | apply EL.nil
      | (apply EC.f0; rfl) | (with_reducible first | apply EK.nc | apply EC.seq | apply EC.r0 | apply EC.x0 | apply EK.s0 | apply EK.aJ))
    refine EC.draw 7 (by kernel_rfl) ?_
    simp only [WH, WO, WG, WM]
    repeat
     (first
      | (apply tZ; iterate 2 rfl) | (apply bV; iterate 3 rfl) | (apply kY (b := false); (iterate 2 rfl); exact aQ; iterate 2 rfl)
      | ((with_reducible apply EH.nil); rfl))
    repeat
     (first
      | (apply ak; iterate 3 rfl) | (apply ah; iterate 3 rfl) | (apply aK; iterate 4 rfl) | apply EL.nil
      | (apply EC.f0; rfl) | (with_reducible first | apply EK.nc | apply EC.seq | apply EC.r0 | apply EC.k0 | apply EC.ret))
    exact EK.aW [wdO vi O] rfl rfl (by (repeat first | exact WI _ | apply List.Sublist.cons_cons | apply List.Sublist.cons)) ⟨vi, rfl, rfl⟩
   | some q =>
    obtain ⟨n, w, r, c⟩ := q
    rw [hb] at hR hOl
    dsimp only [dBo] at hR
    unfold dBd at hR
    have hw := (oH r iY).2
    dsimp only at hOl ⊢
    by_cases hr : r = iY
    ·
     rw [if_pos hr] at hOl ⊢
     rw [show (r != iY) = false by simp [hr]] at hw
     rw [XB]
     clear hr
     generalize iY = r0 at *
     repeat
      (first
       | (apply aC (hV); rfl; exact aj.refl _ _; exact enA; iterate 2 rfl) | (apply aC (hR); rfl; exact aj.refl _ _; exact enA; iterate 2 rfl)
       | (apply ak; iterate 3 rfl) | (apply ah; iterate 3 rfl) | (apply aA; iterate 4 rfl)
       | (apply aF (b := false); (iterate 2 rfl); exact aQ; iterate 2 rfl) | (apply aT; rfl; rfl; rfl; intro _)
       | (apply aO; rfl; exact saA; iterate 4 rfl) | apply EL.nil
       | (apply EC.f0; rfl) | (with_reducible first | apply EK.nc | apply EC.seq | apply EC.r0 | apply EC.x0 | apply EK.s0 | apply EK.aJ))
     refine EC.draw 7 (by kernel_rfl) ?_
     simp only [WH, WO, WG, WM]
     repeat
      (first
       | (apply jv (hE); rfl; exact aj.refl _ _; exact enA; iterate 2 rfl) | (apply kV; (iterate 2 rfl); exact hw; iterate 2 rfl) | (apply bV; iterate 3 rfl)
       | (apply dJ; iterate 6 rfl) | (apply dP; rfl; exact I.a; iterate 4 rfl) | (apply kY (b := true); (iterate 2 rfl); exact aQ; iterate 2 rfl)
       | ((with_reducible apply EH.nil); rfl))
     repeat
      (first
       | (apply ak; iterate 3 rfl) | (apply ah; iterate 3 rfl) | (apply aK; iterate 4 rfl) | apply EL.nil
       | (apply EC.f0; rfl) | (with_reducible first | apply EK.nc | apply EC.seq | apply EC.r0 | apply EC.k0 | apply EC.ret))
     exact EK.aW [wdO vi O] rfl rfl (by (repeat first | exact WI _ | apply List.Sublist.cons_cons | apply List.Sublist.cons)) ⟨vi, rfl, rfl⟩
    ·
     rw [if_neg hr] at hOl ⊢
     rw [show (r != iY) = true by simp [hr]] at hw
     have hom : O.map (D.arr 32) ++ [D.arr 32 r] = (O ++ [r]).map (D.arr 32) := by rw [XK]; rfl
     clear hr
     generalize iY = r0 at *
     repeat
      (first
       | (apply aC (hV); rfl; exact aj.refl _ _; exact enA; iterate 2 rfl) | (apply aC (hR); rfl; exact aj.refl _ _; exact enA; iterate 2 rfl)
       | (apply ak; iterate 3 rfl) | (apply ah; iterate 3 rfl) | (apply aA; iterate 4 rfl)
       | (apply aF (b := false); (iterate 2 rfl); exact aQ; iterate 2 rfl) | (apply aT; rfl; rfl; rfl; intro _)
       | (apply aO; rfl; exact saA; iterate 4 rfl) | apply EL.nil
       | (apply EC.f0; rfl) | (with_reducible first | apply EK.nc | apply EC.seq | apply EC.r0 | apply EC.x0 | apply EK.s0 | apply EK.aJ))
     refine EC.draw 7 (by kernel_rfl) ?_
     simp only [WH, WO, WG, WM]
     repeat
      (first
       | (apply jv (hE); rfl; exact aj.refl _ _; exact enA; iterate 2 rfl) | (apply kV; (iterate 2 rfl); exact hw; iterate 2 rfl) | (apply bV; iterate 3 rfl)
       | (apply dJ; iterate 6 rfl) | (apply dP; rfl; exact I.a; iterate 4 rfl) | (apply kY (b := true); (iterate 2 rfl); exact aQ; iterate 2 rfl)
       | ((with_reducible apply EH.nil); rfl))
     repeat
      (first
       | (apply ak; iterate 3 rfl) | (apply ah; iterate 3 rfl) | (apply aH; iterate 6 rfl) | (apply aK; iterate 4 rfl)
       | (apply aI; rfl; exact I.a; iterate 4 rfl) | (apply mG; iterate 9 rfl)
       | ((apply jB; rfl; exact saA; (iterate 5 rfl); (focus (constructor <;> (first | (simp; done) | (simp; omega))))); intro _)
       | apply EL.nil | (apply EC.t0; rfl) | (with_reducible first | apply EK.nc | apply EC.seq | apply EC.r0 | apply EC.ret))
     rename_i v'
     simp only [hom]
     exact EK.aW [wdO v' (O ++ [r])] rfl rfl (by (repeat first | exact WI _ | apply List.Sublist.cons_cons | apply List.Sublist.cons)) ⟨v', rfl, rfl⟩
theorem Jb : ∀ (t : Nd) (v : Value) (out : List (List UInt8)), out.length + (chN t).length ≤ 1099511627776 → FnM 65 [dN t, .v v] [wdO v out] (fun r os' => ∃ v', r = .val (.v v') ∧ os' = [wdO v' (out ++ chN t)]) := by
 intro t
 induction t with
 | nil => exact fun v out h => kU .nil v out h fun k hk => by cases hk
 | hash w => exact fun v out h => kU (.hash w) v out h fun k hk => by cases hk
 | leaf p b => exact fun v out h => kU (.leaf p b) v out h fun k hk => by cases hk
 | ext p k ih =>
  intro v out h
  refine kU (.ext p k) v out h fun k' hk => ?_
  rw [XQ.1 hk]
  exact ih
 | br ks b ih =>
  intro v out h
  refine kU (.br ks b) v out h fun k' hk => ?_
  obtain ⟨i, _, e⟩ := Xg.1 (Yp.1 hk).1
  rw [← e]
  exact ih i
theorem Ic {b : List UInt8} (h : (E8 b).2 = false) : (E8 b).1 = .nil := by
 unfold E8 at h ⊢
 split
 ·
  rename_i h2
  rw [if_pos h2, oz 40 _ (xH b), h2.2] at h
  cases h
 · rfl
theorem zH (b : List UInt8) (hb : b.length ≤ 536870912) : Fn 27 [.bs b] (· = .val (.sl 32 ((ldB b).map (D.arr 32)))) := by
 have hR := Sm b
 have hl := xI b
 have hf := Ic (b := b)
 unfold jR at hR
 unfold ldB at hl ⊢
 generalize E8 b = q at *
 obtain ⟨t, ok⟩ := q
 have hC := Jb t (.slice none 0 0) [] (by rw [XP]; dsimp only at hl; omega)
 rw [WJ] at hC
 dsimp only at hR hC hf ⊢
 refine FnM.toFn ?_
 refine FnM.walk 14 Tryz.func27 rfl Tryz.ntmps27 (by simp) fun X => ?_
 cases ok with
 | false =>
  rw [hf rfl] at hR ⊢
  rw [chN]
  rw [dN] at hR
  repeat
   (first
    | (apply aC (hR); rfl; exact aj.refl _ _; exact enA; iterate 2 rfl) | (apply ak; iterate 3 rfl) | (apply ah; iterate 3 rfl)
    | (apply aA; iterate 4 rfl) | (apply bM; iterate 3 rfl) | apply EL.nil | (apply EC.t0; rfl)
    | (with_reducible first | apply EK.nc | apply EC.seq | apply EC.r0 | apply EC.ret | apply EK.aB))
  exact EK.iZ [] rfl rfl (RL.cons Rf.sl0 RL.nil) (WI _) ⟨rfl, rfl⟩
 | true =>
  generalize dN t = dt at *
  generalize chN t = O at *
  repeat
   (first
    | (apply aC (hR); rfl; exact aj.refl _ _; exact enA; iterate 2 rfl) | (apply ak; iterate 3 rfl) | (apply ah; iterate 3 rfl)
    | (apply aA; iterate 4 rfl) | (apply bM; iterate 3 rfl) | apply EL.nil | (apply EC.f0; rfl)
    | (with_reducible first | apply EK.nc | apply EC.seq | apply EC.r0 | apply EC.k0))
  refine EL.le (Le.row 29 32) ?_
  refine dD (os := [wdO (.slice none 0 0) []]) hC rfl rfl (aj.refl _ _) (by intro _ _; simp [go_sem]) rfl rfl ?_
  rintro _ _ ⟨v', rfl, rfl⟩
  simp only [WL, WJ]
  refine EL.le (Le.freeze (pre := []) rfl) ?_
  repeat
   (first
    | (apply ah; iterate 3 rfl) | apply EL.nil | ((with_reducible apply EK.h0); apply EK.code) | (with_reducible apply EC.ret))
  exact EK.iZ [] rfl rfl (RL.cons (Rf.fact WT rfl) RL.nil) (WI _) ⟨rfl, rfl⟩

def pY : List Ent → List UInt8 → Nat
 | [], _ => 0
 | x :: es, l => if x.2.1 == l then x.1 else pY es l
def rZ (c : Nat) (es : List Ent) (l : List UInt8) (dz : D) : List Ent := if eG es l then es else es ++ [(c, l, dz)]
theorem FW (es es' : List Ent) (l : List UInt8) : eG (es ++ es') l = (eG es l || eG es' l) := by
 unfold eG
 rw [List.any_append]
theorem ig (c : Nat) (es : List Ent) (l : List UInt8) (dz : D) : eG (rZ c es l dz) l = true := by
 unfold rZ
 cases h : eG es l with
 | true => exact h
 | false =>
  rw [if_neg Bool.false_ne_true, FW, h]
  simp [eG]
theorem EJ : ∀ (es : List Ent) (c : Nat) (l : List UInt8) (dz d : D), eG es l = false → lS (es ++ [(c, l, dz)]) l d = es ++ [(c, l, d)]
 | [], c, l, dz, d, _ => by simp [lS]
 | x :: es, c, l, dz, d, h => by
  unfold eG at h
  rw [YN, Bool.or_eq_false_iff] at h
  rw [WL, lS, if_neg (by rw [h.1]; decide), EJ es c l dz d h.2]
  rfl
theorem gZ (c : Nat) (es : List Ent) (l : List UInt8) (dz d : D) : lS (rZ c es l dz) l d = iQ c es l d := by
 unfold rZ iQ
 cases h : eG es l with
 | true => rfl
 | false =>
  rw [if_neg Bool.false_ne_true, if_neg Bool.false_ne_true]
  exact EJ es c l dz d h
theorem CP : ∀ (es : List Ent) (c : Nat) (l : List UInt8) (dz : D), eG es l = false → pY (es ++ [(c, l, dz)]) l = c
 | [], c, l, dz, _ => by simp [pY]
 | x :: es, c, l, dz, h => by
  unfold eG at h
  rw [YN, Bool.or_eq_false_iff] at h
  rw [WL, pY, if_neg (by rw [h.1]; decide), CP es c l dz h.2]
theorem qZ.ent {c : Nat} {es : List Ent} (h : qZ c es) (l : List UInt8) (dz : D) : qZ (iR c es l) (rZ c es l dz) := by
 have := h.put l dz
 unfold rZ
 unfold iQ iR at *
 cases hh : eG es l with
 | true =>
  rw [if_pos rfl, if_pos rfl]
  exact h
 | false =>
  rw [hh] at this
  exact this
section
variable {K n : Nat} {ok : Nat → Prop} {w : World}
theorem zA : ∀ (arr : List MapEntry) (es : List Ent) (i : Nat) (l : List UInt8), jY (nD ok w n) arr es →
  match hit l arr es i with
  | some (j, v) => ∃ k x, j = i + k ∧ es[k]? = some x ∧ pY es l = x.1
  | none => True
 | [], [], i, l, _ => by simp [hit]
 | e :: arr, x :: es, i, l, .cons h1 h2 => by
  rw [hit]
  by_cases h : l = x.2.1
  ·
   subst h
   simp only [beq_self_eq_true, if_true]
   exact ⟨0, x, rfl, rfl, by simp [pY]⟩
  ·
   rw [if_neg (by simpa using h)]
   have h' : (x.2.1 == l) = false := by simpa using fun e => h e.symm
   have := zA arr es (i + 1) l h2
   cases hh : hit l arr es (i + 1) with
   | none => trivial
   | some p =>
    rw [hh] at this
    obtain ⟨k, x', e1, e2, e3⟩ := this
    exact ⟨k + 1, x', by omega, by simpa using e2, by rw [pY, h', if_neg (by simp)]; exact e3⟩
theorem Dp {T E g c : Nat} {base : Nat → Prop} {es : List Ent} {dz : D} (hT : Tryz.prog.underlying T = some (.map K E)) (hK : Aw K n) (hz : CU E dz) (h : Obj.At base ok w (.map g n c es)) (l : List UInt8) (hl : l.length = n) (hg : ¬ ok g) :
  ∃ w' v, (Instr.mapEntry T (.map (some g)) (dG l)).run Tryz.prog w = .ok (.tuple #[v, .int .i64 (pY (rZ c es l dz) l : Nat)]) w' ∧ w.grownBy w' (some g) ∧ Obj.At base ok w' (.map g n (iR c es l) (rZ c es l dz)) ∧ bW ok w ((dW es l).getD dz) v := by
 obtain ⟨hb, hE, arr, hw, hf⟩ := h
 obtain ⟨z, hz1, hz2⟩ := hz.get
 have hx := zy arr.toList es 0 l hf
 have hx2 := zA arr.toList es 0 l hf
 have hx3 := DX arr.toList es 0 l hf
 have hk := run_findKey hK l hl arr.toList es hf
 have hE' := hE.ent l dz
 have hf' := fun (o' : Go.Obj) => je (fun e x h => nD.mono (w' := { w with heap := w.heap.setIfInBounds g o' }) h (fun _ h => h) (oG hg)) hf
 unfold Instr.mapEntry
 simp only [WX, run_underlying hT, WV, YE hw, iK hK _ l hl, hk]
 cases hh : hit l arr.toList es 0 with
 | none =>
  rw [hh] at hx hx3
  obtain ⟨h1, _⟩ := hx
  have e1 : rZ c es l dz = es ++ [(c, l, dz)] := by unfold rZ; rw [h1, if_neg Bool.false_ne_true]
  refine ⟨{ w with heap := w.heap.setIfInBounds g (.map (arr.push { key := dG l, val := z, born := c }) (c + 1)) }, z, ?_, jd hw, ⟨hb, hE', arr.push { key := dG l, val := z, born := c }, ?_, ?_⟩, ?_⟩
  ·
   rw [e1, CP es c l dz h1]
   simp only [hz1, WX, WV, Yg _ hw, Xc]
   rfl
  ·
   simp only [iR, h1]
   exact heap_put hw
  ·
   rw [e1, Array.toList_push]
   exact l7 (hf' _) (.cons ⟨rfl, rfl, hl, hz2 _ _⟩ .nil)
  ·
   rw [show dW es l = none from hx3]
   exact hz2 _ _
 | some p =>
  rw [hh] at hx hx2 hx3
  obtain ⟨h1, k, e, x, e1, e2, e3, e4, e5, _⟩ := hx
  obtain ⟨k2, x2, f1, f2, f3⟩ := hx2
  obtain ⟨k3, d, g1, g2, g3, _⟩ := hx3
  obtain ⟨j, u⟩ := p
  obtain rfl : j = k := by simpa using e1
  obtain rfl : k2 = j := by simpa using f1.symm
  obtain rfl : x2 = x := by rw [e3] at f2; exact (Xr f2).symm
  have hat := jJ hf e2 e3
  have hek : e.key = dG l := by rw [hat.key, e4]
  have e2' : arr[k2]? = some e := by simpa using e2
  have ee : rZ c es l dz = es := by unfold rZ; rw [h1, if_pos rfl]
  refine ⟨{ w with heap := w.heap.setIfInBounds g (.map (arr.modify k2 fun e => { e with key := dG l }) c) }, u, ?_, jd hw, ⟨hb, hE', arr.modify k2 (fun e => { e with key := dG l }), ?_, ?_⟩, ?_⟩
  ·
   rw [ee, f3]
   simp only [e2', XW, Option.getD_some, hek, Instr.keyThatStays, qp 9999 l, if_true, WX, Xc, WV, Yg _ hw, hat.born]
   rfl
  ·
   simp only [iR, h1, if_true]
   exact heap_put hw
  ·
   rw [ee, Array.toList_modify]
   have hset : arr.toList.modify k2 (fun e => { e with key := dG l }) = arr.toList := by
    have he : ({ e with key := dG l } : MapEntry) = e := by rw [← hek]
    rw [List.modify_eq_set, e2]
    show arr.toList.set k2 { e with key := dG l } = _
    rw [he]
    exact Go.WideElems.set_self _ _ _ e2
   rw [hset]
   exact hf' _
  ·
   rw [g2]
   exact g3
theorem yC {T g c : Nat} {base : Nat → Prop} {es : List Ent} {d : D} {v : Value} (h : Obj.At base ok w (.map g n c es)) (l : List UInt8) (hl : l.length = n) (hh : eG es l = true) (hv : bW ok w d v) (hg : ¬ ok g) :
  ∃ w', (Instr.entryStore T (.map (some g)) (.int .i64 (pY es l : Nat)) v).run Tryz.prog w = .ok () w' ∧ w.grownBy w' (some g) ∧ Obj.At base ok w' (.map g n c (lS es l d)) := by
 obtain ⟨hb, hE, arr, hw, hf⟩ := h
 have hx := zy arr.toList es 0 l hf
 have hx2 := zA arr.toList es 0 l hf
 have hf' := fun (o' : Go.Obj) => je (fun e x h => nD.mono (w' := { w with heap := w.heap.setIfInBounds g o' }) h (fun _ h => h) (oG hg)) hf
 have hv' := fun (o' : Go.Obj) => bW.mono (w' := { w with heap := w.heap.setIfInBounds g o' }) (fun _ h => h) (oG hg) hv
 cases h0 : hit l arr.toList es 0 with
 | none =>
  rw [h0] at hx
  rw [hh] at hx
  cases hx.1
 | some p =>
  rw [h0] at hx hx2
  obtain ⟨h1, k, e, x, e1, e2, e3, e4, e5, _⟩ := hx
  obtain ⟨k2, x2, f1, f2, f3⟩ := hx2
  obtain ⟨j, u⟩ := p
  obtain rfl : j = k := by simpa using e1
  obtain rfl : k2 = j := by simpa using f1.symm
  obtain rfl : x2 = x := by rw [e3] at f2; exact (Xr f2).symm
  have hat := jJ hf e2 e3
  have hnd : (arr.toList.map (·.born)).Nodup := by
   rw [zS hf]
   exact hE.borns
  have hix : arr.findIdx? (fun e => ((e.born : Nat) : Int) == ((pY es l : Nat) : Int)) = some k2 := by
   rw [Go.WideElems.findIdx_arr, f3, ← hat.born]
   exact Go.WideElems.findIdx_born hnd e2
  refine ⟨{ w with heap := w.heap.setIfInBounds g (.map (arr.modify k2 fun e => { e with val := v }) c) }, ?_, jd hw, hb, hE.set l d, arr.modify k2 (fun e => { e with val := v }), heap_put hw, ?_⟩
  ·
   unfold Instr.entryStore
   simp only [WX, YE hw, WV, asInt, asIntOf, Xc, hix, Yg _ hw]
  ·
   rw [e5 d, Array.toList_modify]
   have hset : arr.toList.modify k2 (fun e => { e with val := v }) = arr.toList.set k2 { e with val := v } := by
    rw [List.modify_eq_set, e2]
    rfl
   rw [hset]
   have he := jJ (hf' (.map (arr.modify k2 fun e => { e with val := v }) c)) e2 e3
   exact qN ⟨he.born, he.key, he.len, hv' _⟩ k2 (hf' _)
end
section
variable {N : Nat} {X : Cx N} {S : St} {ops : Array Oper} {o : Oper} {Q : Exit → Act → World → Prop} {l : List Oper} {rs : List (Tmp × R)} {os os' : List Obj} {fs : List (Value × D)}
def TP (ops : Array Oper) (S : St) (o : Oper) (p q : Obj) (u1 u2 : Value) : Prop :=
 q.blk = p.blk ∧ ∀ base ok a w, Kn base ok (fun t => t ∈ o.looksAt ops) S a w → (∀ g, p.blk = some g → ¬ ok g) → p.At base ok w → ∃ w' g, (execOp a.eval o).run Tryz.prog w = .ok (.value (.tuple #[u1, u2])) w' ∧ p.blk = some g ∧ w.grownBy w' (some g) ∧ q.At base ok w'
theorem vJ {p q : Obj} {u1 u2 : Value} (hu1 : u1.oneCell' = true) (hu2 : u2.oneCell' = true) (hP : TP ops S o p q u1 u2) : wB ops S o [p] (fun r os' => r = .tpl [.v u1, .v u2] ∧ os' = [q]) := .mk fun base ok a w ha hown => by
 obtain ⟨hq, hP⟩ := hP
 obtain ⟨w', g, h1, h2, h3, h4⟩ := hP (fun _ => True) ok a w ⟨fun o ho => (ha.objs o ho).ku fun _ _ => trivial, ha.facts, ha.lt, ha.regs⟩ (fun g hb => hown.off g ⟨p, by simp, hb⟩) (hown.at_ p (by simp))
 rw [h1]
 have hB : ∀ b, oO [p] b ↔ b = g := fun b => ⟨fun ⟨o, ho, e⟩ => by
  obtain rfl : o = p := by simpa using ho
  rw [h2] at e
  injection e with e
  exact e.symm, fun e => ⟨p, by simp, by rw [e]; exact h2⟩⟩
 refine ⟨.tpl [.v u1, .v u2], [q], ⟨rfl, rfl⟩, ⟨⟨h3.os, h3.tape, h3.output, h3.size, fun k hk hn => h3.block k hk fun e => hn ((hB k).2 (by injection e))⟩, by simp, fun o ho => ?_⟩, ⟨[u1, u2], rfl, _, _, rfl, aY.2 ⟨hu1, rfl⟩, _, _, rfl, aY.2 ⟨hu2, rfl⟩, rfl⟩⟩
 obtain rfl : o = q := by simpa using ho
 refine (h4.move (fun b hb => ⟨.inl hb, Xd (ha.lt b hb) h3.size, fun o' ho' e => ?_⟩) (fun _ _ => rfl) fun _ _ => rfl).ku fun b e => .inl ⟨p, by simp, by rw [← hq]; exact e⟩
 obtain rfl : o' = o := by simpa using ho'
 exact hown.off b ⟨p, by simp, by rw [← hq]; exact e⟩ hb
theorem jm {T K n E g c : Nat} {x y : Operand} {es : List Ent} {l1 : List UInt8} {dz : D} {u : Value} (hu : (dW es l1).getD dz = .v u) (ho : o.op = .mapEntry T x y) (hx : ev S x = some (.val (.v (.map (some g))))) (hy : ev S y = some (.val (.arr n l1))) (hT : assoc rX T = some (K, n, E)) (hz : assoc iy E = some dz) : TP ops S o (.map g n c es) (.map g n (iR c es l1) (rZ c es l1 dz)) u (.int .i64 (pY (rZ c es l1 dz) l1 : Nat)) := by
 refine ⟨rfl, fun base ok a w ha hno hat => ?_⟩
 have h1 := gW ha hx (bD (by rw [ho]; simp [Op.operands]))
 obtain ⟨h2, h3⟩ := pJ (ha.ev hy (bD (by rw [ho]; simp [Op.operands])))
 obtain ⟨w', v, h4, h5, h6, h7⟩ := Dp (dz := dz) (zf hT).1 (zf hT).2 (zvI hz) hat l1 h2 (hno g rfl)
 rw [hu] at h7
 obtain rfl := (aY.1 h7).2
 refine ⟨w', g, ?_, rfl, h5, h6⟩
 unfold execOp
 simp only [ho, h1, h3, WX, h4, WV, Xc]
theorem dQ {T n g c : Nat} {x y z : Operand} {es : List Ent} {l1 : List UInt8} {d : D} (hl : l1.length = n) (hh : eG es l1 = true) (ho : o.op = .entryStore T x y z) (hx : ev S x = some (.val (.v (.map (some g))))) (hy : ev S y = some (.val (.v (.int .i64 (pY es l1 : Nat))))) (hz : ev S z = some (.val d)) : Puts ops S o (.map g n c es) (.map g n c (lS es l1 d)) := by
 refine ⟨rfl, fun base ok a w ha hno hat => ?_⟩
 have h1 := gW ha hx (bD (by rw [ho]; simp [Op.operands]))
 have h2 := gW ha hy (bD (by rw [ho]; simp [Op.operands]))
 obtain ⟨w', h4, h5, h6⟩ := yC (T := T) hat l1 hl hh (ha.ev hz (bD (by rw [ho]; simp [Op.operands]))) (hno g rfl)
 refine ⟨w', g, ?_, rfl, h5, h6⟩
 unfold execOp
 simp only [ho, h1, h2, WX, h4, WV, Xc]
end
abbrev Mp := Nat × List Ent
def dNd (x : List UInt8 × List UInt8) : D := .tup [.arr 32 x.1, .bs x.2]
end E
end Go.Proofs.YtelbhdobjdnglaaGreat
