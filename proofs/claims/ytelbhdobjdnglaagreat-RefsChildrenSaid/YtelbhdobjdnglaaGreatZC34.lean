/-
 Merged: lemmas of this claim.
 Conditions: none.
-/
import Derived.Test.YtelbhdobjdnglaaGreatZC30
import Derived.Test.YtelbhdobjdnglaaGreatZC31
import Derived.Test.YtelbhdobjdnglaaGreatZC32
import Derived.Test.YtelbhdobjdnglaaGreatZC33
import Derived.Test.YtelbhdobjdnglaaGreatZC2
import Derived.OpenShut
import Derived.Deep.Slices
import Derived.ChangeSame
import Derived.Test.YtelbhdobjdnglaaGreatZC7
import Derived.Below
import Derived.Test.YtelbhdobjdnglaaGreatZC0
namespace Go.Proofs.YtelbhdobjdnglaaGreat
set_option linter.unusedVariables false
set_option maxRecDepth 20000
set_option maxHeartbeats 16000000
open Go.RowKit Mono Rlp
namespace E
theorem D8 (a b : List (List UInt8)) (hal : a.length ≤ 1099511627776) : Fn 26 [.sl 32 (a.map (D.arr 32)), .sl 32 (b.map (D.arr 32))] (· = .val (.v (.bool (a == b)))) := by
 have ha : (a.map (D.arr 32)).length = a.length := WY _
 have hb : (b.map (D.arr 32)).length = b.length := WY _
 refine FnM.toFn ?_
 refine FnM.walk 26 Tryz.func26 rfl Tryz.ntmps26 (by simp) fun X => ?_
 by_cases hl : a.length = b.length
 ·
  have hc : gq .neq ((a.map (D.arr 32)).length : Int) ((b.map (D.arr 32)).length : Int) = some false := by
   rw [ha, hb, hl]
   simp [gq]
  repeat
   (first
    | (apply aF (b := false); (iterate 2 rfl); exact hc; iterate 2 rfl) | (apply ak; iterate 3 rfl) | (apply ah; iterate 3 rfl)
    | (apply bC; iterate 4 rfl) | apply EL.nil | (apply EC.f0; rfl)
    | (with_reducible first | apply EK.nc | apply EC.seq | apply EC.r0 | apply EC.k0 | apply EC.b0))
  refine EC.loop (ι := {i : Nat // i ≤ a.length ∧ a.take i = b.take i})
   (fun i => ⟨[(5, .val (.v (.int .i64 (i.1 : Int)))), (1, .val (.sl 32 (b.map (D.arr 32)))), (0, .val (.sl 32 (a.map (D.arr 32))))], [], []⟩)
   (fun i => a.length - i.1) ⟨0, Xo _, rfl⟩ ?_ ?_
  · exact Le.kp
  rintro ⟨i, hi, heq⟩
  dsimp only at hi heq ⊢
  by_cases hlt : i < a.length
  ·
   have hib : i < b.length := by omega
   have hda : (a.map (D.arr 32))[i]? = some (.arr 32 a[i]) := by rw [Xl, List.getElem?_eq_getElem hlt]; rfl
   have hdb : (b.map (D.arr 32))[i]? = some (.arr 32 b[i]) := by rw [Xl, List.getElem?_eq_getElem hib]; rfl
   have hw := (oH a[i] b[i]).2
   by_cases he : a[i] = b[i]
   ·
    rw [show (a[i] != b[i]) = false by simp [he]] at hw
    have heq2 : a.take (i + 1) = b.take (i + 1) := by rw [Xa hlt, Xa hib, heq, he]
    repeat
     (first
      | (apply ak; iterate 3 rfl) | (apply aF (b := true); (iterate 2 rfl); exact aQ; iterate 2 rfl) | (apply bC; iterate 4 rfl) | apply EL.nil
      | (apply EC.t0; rfl) | (with_reducible first | apply EK.nc | apply EC.seq | apply EC.r0 | apply EC.k0 | apply EC.b0))
    refine EC.draw 9 (by kernel_rfl) ?_
    simp only [WH, WO, WG, WM]
    repeat
     (first
      | (apply kV; (iterate 2 rfl); exact hw; iterate 2 rfl)
      | (apply gU (d := .arr 32 a[i]); (iterate 4 rfl); exact ⟨by omega, by rw [Xy]; exact hda⟩; iterate 2 rfl)
      | (apply gU (d := .arr 32 b[i]); (iterate 4 rfl); exact ⟨by omega, by rw [Xy]; exact hdb⟩; iterate 2 rfl) | (apply bV; iterate 3 rfl)
      | (apply fA; iterate 5 rfl) | ((with_reducible apply EH.nil); rfl))
    repeat
     (first
      | (apply ak; iterate 3 rfl) | (apply ah; iterate 3 rfl) | (apply jM; (iterate 3 rfl); (focus omega); (focus omega); iterate 2 rfl) | apply EL.nil
      | (apply EC.f0; rfl) | (with_reducible first | apply EK.nc | apply EC.r0 | apply EC.k0 | apply EK.n0))
    refine EK.again ⟨i + 1, hlt, heq2⟩ (by dsimp only; omega) ?_
    simp only [XA]
    exact Le.kp
   ·
    rw [show (a[i] != b[i]) = true by simp [he]] at hw
    have hne : (a == b) = false := beq_eq_false_iff_ne.2 fun e => he (by subst e; rfl)
    rw [hne]
    repeat
     (first
      | (apply ak; iterate 3 rfl) | (apply aF (b := true); (iterate 2 rfl); exact aQ; iterate 2 rfl) | (apply bC; iterate 4 rfl) | apply EL.nil
      | (apply EC.t0; rfl) | (with_reducible first | apply EK.nc | apply EC.seq | apply EC.r0 | apply EC.k0 | apply EC.b0))
    refine EC.draw 9 (by kernel_rfl) ?_
    simp only [WH, WO, WG, WM]
    repeat
     (first
      | (apply kV; (iterate 2 rfl); exact hw; iterate 2 rfl)
      | (apply gU (d := .arr 32 a[i]); (iterate 4 rfl); exact ⟨by omega, by rw [Xy]; exact hda⟩; iterate 2 rfl)
      | (apply gU (d := .arr 32 b[i]); (iterate 4 rfl); exact ⟨by omega, by rw [Xy]; exact hdb⟩; iterate 2 rfl) | (apply bV; iterate 3 rfl)
      | (apply fA; iterate 5 rfl) | ((with_reducible apply EH.nil); rfl))
    repeat
     (first
      | (apply ah; iterate 3 rfl) | apply EL.nil | (apply EC.t0; rfl)
      | (with_reducible first | apply EK.nc | apply EC.seq | apply EC.r0 | apply EC.ret | apply EK.bK | apply EK.aB))
    exact EK.aW [] rfl rfl (WI _) ⟨rfl, rfl⟩
  ·
   have hie : i = a.length := by omega
   have hab : a = b := by
    have h := heq
    rw [hie, Yb, hl, Yb] at h
    exact h
   rw [show (a == b) = true by simp [hab]]
   repeat
    (first
     | (apply ak; iterate 3 rfl) | (apply ah; iterate 3 rfl) | (apply aF (b := false); (iterate 2 rfl); exact aQ; iterate 2 rfl)
     | (apply bC; iterate 4 rfl) | apply EL.nil | (apply EC.f0; rfl)
     | (with_reducible first | apply EK.nc | apply EC.seq | apply EC.r0 | apply EC.x0 | apply EC.ret | apply EK.s0 | apply EK.aJ))
   exact EK.aW [] rfl rfl (WI _) ⟨rfl, rfl⟩
 ·
  have hc : gq .neq ((a.map (D.arr 32)).length : Int) ((b.map (D.arr 32)).length : Int) = some true := by
   rw [ha, hb]
   have : (a.length : Int) ≠ (b.length : Int) := by omega
   simp [gq, this]
  have hne : (a == b) = false := beq_eq_false_iff_ne.2 fun e => hl (by rw [e])
  rw [hne]
  repeat
   (first
    | (apply aF (b := true); (iterate 2 rfl); exact hc; iterate 2 rfl) | (apply ak; iterate 3 rfl) | (apply ah; iterate 3 rfl)
    | (apply bC; iterate 4 rfl) | apply EL.nil | (apply EC.t0; rfl)
    | (with_reducible first | apply EK.nc | apply EC.seq | apply EC.r0 | apply EC.ret | apply EK.aB))
  exact EK.aW [] rfl rfl (WI _) ⟨rfl, rfl⟩
theorem zF {x : Pr} : ∀ (l : List Pr) (s : Mp), (∀ y ∈ l, y = x) → eG s.2 x.1 = true → l.foldl uT s = s
 | [], s, _, _ => rfl
 | y :: l, s, h, hs => by
  obtain rfl := h y WT
  rw [XJ, show uT s y = s by unfold uT; rw [hs, if_pos rfl]]
  exact zF l s (fun z hz => h z (WZ _ hz)) hs
theorem Nk {x : Pr} {l : List Pr} (h : ∀ y ∈ l, y = x) (hn : l ≠ []) : l.foldl uT (0, []) = (1, [(0, x.1, .bs x.2)]) := by
 cases l with
 | nil => exact absurd rfl hn
 | cons y l =>
  obtain rfl := h y WT
  rw [XJ]
  have h1 : uT (0, []) y = (1, [(0, y.1, .bs y.2)]) := rfl
  rw [h1]
  exact zF l _ (fun z hz => h z (WZ _ hz)) (by simp [eG])
theorem Me {l : List (List UInt8)} {w : List UInt8} (hn : l.Nodup) (h : ∀ y, y ∈ l ↔ y = w) : l = [w] :=
 Zk.1 ((List.perm_ext_iff_of_nodup hn (by simp)).2 fun y => by rw [h, XQ])
theorem Wv : ldB b8 = [] := by decide +kernel
theorem Vp : ug 200 (l8.map sp) ++ [pkB (iH 200 (l8.map sp))] = [b8] := by decide +kernel
theorem Ud : EU l8 = hash b8 := by rw [Ol, Vu]
theorem VF : wQ (hash b8) = false := by
 unfold wQ
 rw [show hash b8 = Kec.QA from Kec.Tc, show iY = Kec.P8 from Kec.SQ]
 decide
theorem ns8 {ns : List Pr} (h : QH l8 ns) : (∀ y ∈ ns, y = (hash b8, b8)) ∧ ns ≠ [] ∧ ns.length ≤ 201 := by
 obtain ⟨h1, h2, h3⟩ := h
 rw [Vp] at h2 h3
 refine ⟨fun y hy => ?_, fun e => ?_, h1⟩
 ·
  obtain ⟨u, hu, rfl⟩ := h2 y hy
  rw [XQ.1 hu]
 ·
  obtain ⟨y, hy, _⟩ := h3 (by decide) b8 (XQ.2 rfl)
  rw [e] at hy
  cases hy
theorem VU {w : List UInt8} {R S' ns' W : List Ent} (hR : Rcd [(0, w, .bs b8)] [w] R) (hW : Rcd [(0, w, .bs b8)] [] W) (hD : Dif R W S') (hM : Rem [(0, w, .bs b8)] S' ns') : S'.map (·.2.1) = [w] ∧ ns' = [] := by
 have hF : ∀ {y b}, nbF [(0, w, .bs b8)] y = some b → y = w ∧ b = b8 := fun {y b} h => by
  unfold nbF at h
  rw [dW] at h
  by_cases e : w = y
  ·
   rw [if_pos (by simp [e])] at h
   exact ⟨e.symm, by simpa using h.symm⟩
  ·
   rw [if_neg (by simp [e]), dW] at h
   cases h
 have hWn : ∀ y, eG W y = false := fun y => by
  cases h : eG W y with
  | false => rfl
  | true =>
   have h2 := (hW.all y).1 (kQ.2 h)
   have : ∀ {z}, Rch (nbF [(0, w, .bs b8)]) [] z → False := fun {z} h => by
    induction h with
    | root h1 _ => cases h1
    | step _ _ _ _ ih => exact ih
   exact (this h2).elim
 have hRw : ∀ y, y ∈ R.map (·.2.1) ↔ y = w := fun y => by
  rw [hR.all y]
  constructor
  ·
   intro h
   induction h with
   | root h1 _ => exact XQ.1 h1
   | step _ h2 h3 _ _ =>
    rw [(hF h2).2, Wv] at h3
    cases h3
  ·
   rintro rfl
   exact .root (XQ.2 rfl) (b := b8) (by unfold nbF; rw [dW, if_pos (by simp)])
 have hSw : ∀ y, y ∈ S'.map (·.2.1) ↔ y = w := fun y => by
  rw [hD.all y, hRw y, hWn y]
  simp
 have hSe := Me (hD.set hR.set).nd hSw
 refine ⟨hSe, ?_⟩
 have hno : ∀ e ∈ ns', False := fun e he => by
  have h1 := hM.sub.subset he
  have h2 := (hM.all e h1).1 he
  rw [XQ.1 h1] at h2
  rw [kQ.1 ((hSw w).2 rfl)] at h2
  cases h2
 cases ns' with
 | nil => rfl
 | cons e l => exact (hno e WT).elim
theorem SE (n : Int) : Fn 34 [.v (.int .i64 n)] (· = .val (.v (.int .i64 n))) := by
 refine Fn.walk 4 Tryz.func34 rfl Tryz.ntmps34 (by simp) fun X => ?_
 repeat
  (first
   | (apply ak; iterate 3 rfl) | (apply ah; iterate 3 rfl) | apply EL.nil
   | (with_reducible first | apply EK.nc | apply EC.seq | apply EC.r0 | apply EC.ret))
 exact EK.Ak rfl rfl rfl
theorem CJ : Fn 25 [] (· = .val (.v (.bool true))) := by
 have hT := Nu l8 fun _ _ gb => OU (Wy gb) 199 (sp ([97], [49])) ([] : List Pr) (by decide)
 have n0 := SE 0
 rw [TJ, Ud] at hT
 have hwl : (hash b8).length = 32 := qK _
 have hwn := VF
 have h8 : ∀ {ns}, QH l8 ns → (∀ y ∈ ns, y = (hash b8, b8)) ∧ ns ≠ [] ∧ ns.length ≤ 201 := ns8
 generalize hash b8 = w at hT hwl hwn h8
 refine FnM.toFn ?_
 refine FnM.walk 56 Tryz.func25 rfl Tryz.ntmps25 (by simp) fun X => ?_
 repeat
  (first
   | (apply ah; iterate 3 rfl) | apply EL.nil | (with_reducible first | apply EK.nc | apply EC.seq | apply EC.r0))
 refine dD (os := []) Sz rfl rfl (aj.refl _ _) (by intro _ _; simp [go_sem]) rfl rfl ?_
 rintro _ _ ⟨g, m, h, rfl, rfl⟩
 simp only [WL, WJ]
 repeat
  (first
   | (apply nC; (iterate 2 rfl); exact (Ku (T := 62) rfl (some ⟨g, 0, none⟩)).1; iterate 2 rfl)
   | (apply GZ [97]; rfl; (focus (intro a w; kernel_rfl)); rfl; decide; rfl; rfl)
   | (apply GZ [49]; rfl; (focus (intro a w; kernel_rfl)); rfl; decide; rfl; rfl)
   | (apply Tm (hT); rfl; exact aj.refl _ _; exact enA; (iterate 2 rfl); rintro _ ⟨ns, hns, rfl⟩) | (apply ak; iterate 3 rfl) | (apply ah; iterate 3 rfl)
   | (apply aA; iterate 4 rfl) | (apply dX; iterate 7 rfl) | (apply mG; iterate 9 rfl) | (apply aT; rfl; rfl; rfl; intro _)
   | (apply aO; rfl; exact saA; iterate 4 rfl) | apply EL.nil
   | (apply EC.f0; rfl) | (with_reducible first | apply EK.nc | apply EC.seq | apply EC.r0 | apply EC.k0))
 obtain ⟨hx1, hx2, hx3⟩ := h8 (hns rfl)
 have hfold := Nk hx1 hx2
 have hA := SA g m h ns (fun x hx => by rw [hx1 x hx]; show b8.length ≤ _; decide) (by omega) (0, [])
 rw [hfold] at hA
 refine EL.le (Le.pick [1, 2, 0, 3] [_, _, _, _] rfl (by decide) rfl) ?_
 refine dD (os := [rfO g m h, .map m 32 0 []]) hA rfl rfl (aj.refl _ _) (by intro _ _; simp [go_sem]) rfl rfl ?_
 rintro _ _ ⟨rfl, rfl⟩
 simp only [WL, WJ]
 have hh : eG [(0, w, D.bs b8)] w = true := by simp [eG]
 have hH : FnM 33 [.v (ptr g), .arr 32 w] [rfO g m h, .map m 32 1 [(0, w, .bs b8)], .map h 32 0 []] (fun r os' => r = .val (.v (.int .i64 0)) ∧ os' = [rfO g m h, .map m 32 1 [(0, w, .bs b8)], .map h 32 1 [(0, w, .v (.int .i64 1))]]) := by
  have h1 := PS g m h w hwl 1 [(0, w, .bs b8)] 0 [] 0 rfl (by decide) (by decide)
  rw [hwn, hh] at h1
  exact h1
 have hdel : kG (iQ 1 [(0, w, D.v (.int .i64 1))] w (.v (.int .i64 0))) w = [] := by simp [iQ, eG, lS, kG]
 have hRl := Ja g m h w hwl hwn 1 [(0, w, .bs b8)] (fun k d hk => by
  rw [dW] at hk
  split at hk
  ·
   obtain rfl : D.bs b8 = d := by simpa using hk
   exact ⟨b8, rfl, by decide⟩
  · cases hk) 1 [(0, w, .v (.int .i64 1))] (by simp [UY, dW]) (by show pW 1 0 + 1 ≤ _; decide) (by show 1 ≤ _; decide)
 rw [hdel] at hRl
 repeat
  (first
   | (apply ak; iterate 3 rfl) | (apply ah; iterate 3 rfl) | (apply aI; rfl; exact I.a; iterate 4 rfl) | apply EL.nil
   | (with_reducible first | apply EK.nc | apply EC.seq | apply EC.r0))
 refine EL.le (Le.pick [0, 1, 3, 2] [_, _, _, _] rfl (by decide) rfl) ?_
 refine dD (os := [rfO g m h, .map m 32 1 [(0, w, .bs b8)], .map h 32 0 []]) hH rfl rfl (aj.refl _ _) (by intro _ _; simp [go_sem]) rfl rfl ?_
 rintro _ _ ⟨rfl, rfl⟩
 simp only [WL, WJ]
 repeat
  (first
   | (apply ak; iterate 3 rfl) | (apply ah; iterate 3 rfl) | (apply aI; rfl; exact I.a; iterate 4 rfl) | apply EL.nil
   | (with_reducible first | apply EK.nc | apply EC.seq | apply EC.r0))
 refine dD (os := [rfO g m h, .map m 32 1 [(0, w, .bs b8)], .map h 32 1 [(0, w, .v (.int .i64 1))]]) hRl rfl rfl (aj.refl _ _) (by intro _ _; simp [go_sem]) rfl rfl ?_
 rintro _ _ ⟨R, S', ns', W, q1, q2, q3, q4, rfl, rfl⟩
 simp only [WL, WJ]
 obtain ⟨hS, rfl⟩ := VU q1 q2 q3 q4
 rw [hS, show sortL [w] = [w] from Zk.1 (lQ _)]
 have hNo := Nr g m h 1 [] (fun _ => []) (fun k hk => by cases hk) (fun _ => by decide) (by decide)
 rw [show sortL (([] : List Ent).map (·.2.1)) = [] from List.perm_nil.1 (lQ _)] at hNo
 repeat
  (first
   | (apply aC (n0); rfl; exact aj.refl _ _; exact enA; iterate 2 rfl) | (apply ak; iterate 3 rfl) | (apply ah; iterate 3 rfl)
   | (apply aA; iterate 4 rfl) | (apply aK; iterate 4 rfl) | (apply aF (b := true); (iterate 2 rfl); exact aQ; iterate 2 rfl)
   | (apply jM; (iterate 3 rfl); (focus omega); (focus omega); iterate 2 rfl) | (apply bC; iterate 4 rfl) | apply EL.nil
   | (with_reducible first | apply EK.nc | apply EC.seq | apply EC.r0))
 refine dD (os := [rfO g m h, .map m 32 1 []]) hNo rfl rfl (aj.refl _ _) (by intro _ _; simp [go_sem]) rfl rfl ?_
 rintro _ _ ⟨rfl, rfl⟩
 simp only [WL, WJ]
 repeat
  (first
   | (apply ah; iterate 3 rfl) | (apply aK; iterate 4 rfl) | (apply aF (b := true); (iterate 2 rfl); exact aQ; iterate 2 rfl)
   | (apply bC; iterate 4 rfl) | apply EL.nil | ((with_reducible apply EK.h0); apply EK.code) | (with_reducible apply EC.ret))
 exact EK.aW [] rfl rfl (WI _) ⟨rfl, rfl⟩
theorem DT (b : List UInt8) : Fn 4 [.bs b] (· = .val (.v (.bool true))) := by
 refine FnM.toFn ?_
 refine FnM.walk 18 Tryz.func4 rfl Tryz.ntmps4 (by simp) fun X => ?_
 by_cases hl : 3000 < b.length
 ·
  skip
  repeat
   (first
    | (apply aC (CJ); rfl; exact aj.refl _ _; exact enA; iterate 2 rfl) | (apply ak; iterate 3 rfl) | (apply ah; iterate 3 rfl)
    | (apply aK; iterate 4 rfl) | (apply bM; iterate 3 rfl) | (apply aF (b := true); (iterate 2 rfl); exact aQ; iterate 2 rfl)
    | (apply aV; iterate 4 rfl) | apply EL.nil | (apply EC.t0; rfl)
    | (with_reducible first | apply EK.nc | apply EC.seq | apply EC.r0 | apply EC.ret | apply EK.aB))
  exact EK.aW [] rfl rfl (WI _) ⟨rfl, rfl⟩
 ·
  have h1 := zH b (by omega)
  have h2 := Gp b (by omega)
  have hlb := xI b
  have h3 := D8 (ldB b) (ldB b) (by omega)
  rw [beq_self_eq_true] at h3
  generalize (ldB b).map (D.arr 32) = L at *
  repeat
   (first
    | (apply aC (CJ); rfl; exact aj.refl _ _; exact enA; iterate 2 rfl) | (apply aC (h1); rfl; exact aj.refl _ _; exact enA; iterate 2 rfl)
    | (apply aC (h2); rfl; exact aj.refl _ _; exact enA; iterate 2 rfl) | (apply aC (h3); rfl; exact aj.refl _ _; exact enA; iterate 2 rfl)
    | (apply ak; iterate 3 rfl) | (apply ah; iterate 3 rfl) | (apply aK; iterate 4 rfl) | (apply bM; iterate 3 rfl)
    | (apply aF (b := false); (iterate 2 rfl); exact aQ; iterate 2 rfl) | (apply aV; iterate 4 rfl) | apply EL.nil
    | (apply EC.f0; rfl) | (with_reducible first | apply EK.nc | apply EC.seq | apply EC.r0 | apply EC.k0 | apply EC.ret))
  exact EK.aW [] rfl rfl (WI _) ⟨rfl, rfl⟩
end E
end Go.Proofs.YtelbhdobjdnglaaGreat
namespace Go.Proofs.YtelbhdobjdnglaaGreat
open Go.RowKit Mono

end Go.Proofs.YtelbhdobjdnglaaGreat
namespace Go.Proofs.YtelbhdobjdnglaaGreat
open Go.RowKit Mono Go.ChangeShapes Go.WideShapes Go.Deep
theorem cell_spot {w : World} {p : Addr} {v : Value} (h : w.cell? p = some v) : p.block < w.heap.size ∧ ∃ b o, p = ⟨b, o, none⟩ := by
 obtain ⟨blk, off, spot⟩ := p
 have hspot : spot = none := by
  simp only [World.cell?] at h
  cases spot with
  | none => rfl
  | some s =>
   simp at h
   split at h <;> simp at h
 subst hspot
 refine ⟨?_, blk, off, rfl⟩
 rcases Xx blk w.heap.size with hlt | hge
 · exact hlt
 · simp [World.cell?, Array.getElem?_eq_none hge] at h
theorem flat_get {n : Nat} {u : Value} : ∀ (rows : List (List Value)) (j : Nat), (∀ r ∈ rows, r.length = n) → rows.flatten[j]? = some u → ∃ i r row, j = i * n + r ∧ r < n ∧ rows[i]? = some row ∧ row[r]? = some u
 | [], j, _, h => by simp at h
 | row :: rows, j, hn, h => by
  have hr : row.length = n := hn row (by simp)
  rw [Xv] at h
  by_cases hj : j < n
  ·
   rw [XZ (by omega)] at h
   exact ⟨0, j, row, by simp, hj, rfl, h⟩
  ·
   rw [XY (by omega), hr] at h
   obtain ⟨i, r, row', h1, h2, h3, h4⟩ := flat_get rows (j - n) (fun r hr => hn r (by simp [hr])) h
   exact ⟨i + 1, r, row', by rw [X5]; omega, h2, by simpa using h3, h4⟩
section
variable {H : Type} {enc : TypeId × Value → H} {w : World} {spare : Nat → Bool} {held : Bool}
theorem H8 {t e n : TypeId} {fuel : Nat} {v : Value} {x : DataW H × List MemPlace} (ht : Tryz.prog.underlying t = some (.slice e)) (hn : Tryz.prog.cellsOf e = n) (h : DataW.trod enc Tryz.prog w 0 spare held fuel t [v] = some x) :
  ∃ (A : Option Addr) (c f : Nat) (rows : List (List Value)), v = .slice A rows.length c ∧ rows.length ≤ c ∧ c ≤ maxLen ∧ Rd w w.heap.size A rows.flatten ∧ (∀ r ∈ rows, r.length = n) ∧ (A = none → rows = [] ∧ c = 0) ∧ ∀ r ∈ rows, ∃ y, DataW.trod enc Tryz.prog w 0 spare held f e r = some y := by
 rcases open_slice ht h with ⟨hcs, _⟩ | ⟨a, len, cap, m, f, D, Pl, hcs, _, hl, hm, hmm, _, hi⟩
 ·
  simp at hcs
  subst hcs
  exact ⟨none, 0, 0, [], rfl, Nat.le_refl _, by simp [maxLen], Rd.nil, by simp, fun _ => ⟨rfl, rfl⟩, by simp⟩
 ·
  simp at hcs
  subst hcs
  have hlm : len ≤ m := by rw [hmm]; split <;> omega
  rw [hn] at hi
  let row : Nat → List Value := fun i => (w.cells? 0 (a.add (i * n)) n).getD []
  have hrow : ∀ i, i < len → w.cells? 0 (a.add (i * n)) n = some (row i) ∧ ∃ y, DataW.trod enc Tryz.prog w 0 spare held f e (row i) = some y := fun i hil => by
   obtain ⟨cs', h1, h2⟩ := hi i (by omega)
   have : row i = cs' := by simp only [row]; rw [h1]; rfl
   rw [this]
   exact ⟨h1, _, h2⟩
  have hmem : ∀ r ∈ (List.range len).map row, ∃ i, i < len ∧ r = row i := fun r hr => by
   obtain ⟨i, h1, h2⟩ := Xg.1 hr
   exact ⟨i, X7.1 h1, h2.symm⟩
  have hlen : ∀ r ∈ (List.range len).map row, r.length = n := fun r hr => by
   obtain ⟨i, h1, rfl⟩ := hmem r hr
   exact (World.cells?_some (hrow i h1).1).2.1
  refine ⟨some a, cap, f, (List.range len).map row, by simp, by simpa using hl, hm, ?_, hlen, (fun e => by cases e), fun r hr => ?_⟩
  ·
   have hcell : ∀ j u, ((List.range len).map row).flatten[j]? = some u → w.cell? (a.add j) = some u := fun j u hu => by
    obtain ⟨i, r, row', rfl, h2, h3, h4⟩ := flat_get _ j hlen hu
    have hil : i < len := by
     have := (Xf.1 h3).1
     simpa using this
    have h5 : row' = row i := by
     rw [Xl, YA hil] at h3
     exact (Xr h3).symm
    subst h5
    have h6 := (World.cells?_some (hrow i hil).1).2.2 r h2
    rw [h4, Go.Deep.add_add] at h6
    exact h6
   intro hne
   obtain ⟨u0, rest, he⟩ := List.exists_cons_of_ne_nil hne
   have h0 := hcell 0 u0 (by rw [he]; rfl)
   rw [show a.add 0 = a from if_pos rfl] at h0
   obtain ⟨h1, b, o, rfl⟩ := cell_spot h0
   refine ⟨b, o, rfl, h1, fun j u hu => ?_⟩
   have := hcell j u hu
   rw [eu] at this
   exact this
  ·
   obtain ⟨i, h1, rfl⟩ := hmem r hr
   exact (hrow i h1).2
theorem int_of_trod {t : TypeId} {k : IntKind} {fuel : Nat} {cs : List Value} {x : DataW H × List MemPlace} (ht : Tryz.prog.underlying t = some (.int k)) (h : DataW.trod enc Tryz.prog w 0 spare held fuel t cs = some x) : ∃ n, cs = [.int k n] ∧ (Lit.int k n).wf = true := by
 obtain ⟨n, h1, _, h2⟩ := DataW.trod_int ht h
 exact ⟨n, h1, h2⟩
theorem Hl {fuel : Nat} {cs : List Value} {x : DataW H × List MemPlace} (h : DataW.trod enc Tryz.prog w 0 spare held fuel 5 cs = some x) : ∃ b : UInt8, cs = [bv b] := by
 obtain ⟨n, rfl, hw⟩ := int_of_trod Tryz.underlying5 h
 have hb := bounds_u8 hw
 refine ⟨UInt8.ofNat n.toNat, ?_⟩
 unfold bv
 rw [Zp]
 have : ((n.toNat % 2 ^ 8 : Nat) : Int) = n := by omega
 rw [this]
theorem Aq {rows : List (List Value)} (h : ∀ r ∈ rows, ∃ b : UInt8, r = [bv b]) : ∃ l : List UInt8, l.length = rows.length ∧ rows.flatten = bvs l := by
 induction rows with
 | nil => exact ⟨[], rfl, rfl⟩
 | cons r rows ih =>
  obtain ⟨l, h1, h2⟩ := ih fun r hr => h r (by simp [hr])
  obtain ⟨b, rfl⟩ := h r (by simp)
  exact ⟨b :: l, by simp [h1], by simp [h2, bvs]⟩
theorem Ap {fuel : Nat} {v : Value} {x : DataW H × List MemPlace} (h : DataW.trod enc Tryz.prog w 0 spare held fuel 38 [v] = some x) : ∃ l, IsB w v l := by
 obtain ⟨A, c, f, rows, rfl, h1, h2, h3, _, _, h5⟩ := H8 Tryz.underlying38 (by kernel_rfl : Tryz.prog.cellsOf 5 = 1) h
 obtain ⟨l, h6, h7⟩ := Aq fun r hr => by
  obtain ⟨y, hy⟩ := h5 r hr
  exact Hl hy
 rw [h7] at h3
 exact ⟨l, A, c, by rw [h6], by rw [h6]; exact h1, h2, h3⟩
set_option maxRecDepth 100000
variable {r : Reach} {b0 : Nat} {v : Value} {d : DataW H} {ps : List MemPlace}
theorem Rq (hv : Value.okWide Tryz.prog w r b0 38 v) (h : DataW.Trod enc Tryz.prog w 0 spare held 38 v d ps) : ∃ l, IsB w v l := by
 obtain ⟨a, n, c, rfl⟩ := okWide_slice Tryz.underlying38 hv
 obtain ⟨fuel, hf⟩ := h
 exact Ap hf
end
end Go.Proofs.YtelbhdobjdnglaaGreat
namespace Go.Proofs.YtelbhdobjdnglaaGreat
set_option linter.unusedVariables false
open Go.RowKit Mono
namespace E
theorem MC {f : FuncId} {ds : List D} {xs : List Value} {w : World} (h : Fn f ds (· = .val (.v (.bool true)))) (hr : fH (fun b => b < w.heap.size) w ds xs) : Calls Tryz.prog f xs.toArray w fun e w' => e = .returned (.bool true) ∧ Below w.heap.size w w' :=
 (h.go _ w xs (fun b hb => hb) hr).mono fun e w' ⟨hg, v, r, he, hΦ, hv⟩ => by
  subst he hΦ
  exact ⟨by rw [(aY.1 hv).2], hg⟩
end E
end Go.Proofs.YtelbhdobjdnglaaGreat
