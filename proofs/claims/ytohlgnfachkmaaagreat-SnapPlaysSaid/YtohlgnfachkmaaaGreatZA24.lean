/-
 Merged: lemmas of this claim.
 Conditions: none.
-/
import Derived.Test.YtohlgnfachkmaaaGreatZA11
import Derived.Test.YtohlgnfachkmaaaGreatZA23
import Derived.Test.YtohlgnfachkmaaaGreatZA17
import Derived.Test.YtohlgnfachkmaaaGreatZA21
import Derived.Test.YtohlgnfachkmaaaGreatZA2
import Derived.OpenShut
import Derived.Deep.Slices
import Derived.ChangeSame
import Derived.SizedLaws
import Derived.Test.YtohlgnfachkmaaaGreatZA12
import Derived.Below
import Derived.Test.YtohlgnfachkmaaaGreatZA0
namespace Go.Proofs.YtohlgnfachkmaaaGreat
set_option linter.unusedVariables false
set_option maxRecDepth 20000
set_option maxHeartbeats 8000000
open Go.RowKit Mono Rlp Wd Go.Sort
namespace E
def ED (l : List AcL) : Bool := decide (20 < l.length) || l.any fun x => decide (300 < x.cd.length) || decide (20 < x.sl.length)
def Ez (l : List ChL) : Bool := decide (20 < l.length) || l.any fun x => decide (200 < x.cd.length) || decide (20 < x.sl.length)
theorem EG {α : Type} {p : α → Bool} {l : List α} {i : Nat} (h : i < l.length) (hp : p l[i] = true) : l.any p = true := List.any_eq_true.2 ⟨l[i], MB h, hp⟩
theorem Jg (l : List AcL) : Fn 6 [.sl 55 (l.map ak)] (· = .val (.v (.bool (ED l)))) := by
 have hml : (l.map ak).length = l.length := Lc _
 refine Fn.walk 29 Tryz.func6 rfl Tryz.ntmps6 (by simp) fun X => ?_
 unfold ED
 by_cases h20 : 20 < l.length
 ·
  rw [show decide (20 < l.length) = true by simp [h20], Bool.true_or]
  repeat (refine stp ?_; intros)
  exact EK.jg rfl rfl rfl
 ·
  rw [show decide (20 < l.length) = false by simp [h20], Bool.false_or]
  repeat (refine stp ?_; intros)
  refine EC.loop (ι := {i : Nat // i ≤ l.length ∧ (l.take i).any (fun x => decide (300 < x.cd.length) || decide (20 < x.sl.length)) = false})
   (fun i => ⟨[(3, .val (.v (.int .i64 (i.1 : Int)))), (0, .val (.sl 55 (l.map ak)))], [], []⟩)
   (fun i => l.length - i.1) ⟨0, LH _, rfl⟩ ?_ ?_
  · exact Le.kp
  rintro ⟨i, hi, hno⟩
  dsimp only at hi ⊢
  by_cases hlt : i < l.length
  ·
   have hd : (l.map ak)[i]? = some (ak l[i]) := by rw [Ls, La hlt]; rfl
   have htk : l.take (i + 1) = l.take i ++ [l[i]] := Lm hlt
   have hat := EG (p := fun x : AcL => decide (300 < x.cd.length) || decide (20 < x.sl.length)) hlt
   generalize l[i] = x at hd htk hat
   have hsl : (x.sl.map aA).length = x.sl.length := Lc _
   unfold ak at hd
   by_cases hc : 300 < x.cd.length
   ·
    rw [hat (by simp [hc])]
    repeat (refine stp ?_; intros)
    exact EK.jg rfl rfl rfl
   ·
    by_cases hs : 20 < x.sl.length
    ·
     rw [hat (by simp [hs])]
     repeat (refine stp ?_; intros)
     exact EK.jg rfl rfl rfl
    ·
     skip
     repeat (refine stp ?_; intros)
     refine EK.again ⟨i + 1, hlt, ?_⟩ (by dsimp only; omega) ?_
     ·
      rw [htk, List.any_append, hno]
      simp [hc, hs]
     ·
      simp only [LK]
      exact Le.kp
  ·
   have hiE : i = l.length := by omega
   subst hiE
   rw [L9] at hno
   rw [hno]
   repeat (refine stp ?_; intros)
   exact EK.jg rfl rfl rfl
theorem Jf (l : List ChL) : Fn 9 [.sl 56 (l.map fV)] (· = .val (.v (.bool (Ez l)))) := by
 have hml : (l.map fV).length = l.length := Lc _
 refine Fn.walk 29 Tryz.func9 rfl Tryz.ntmps9 (by simp) fun X => ?_
 unfold Ez
 by_cases h20 : 20 < l.length
 ·
  rw [show decide (20 < l.length) = true by simp [h20], Bool.true_or]
  repeat (refine stp ?_; intros)
  exact EK.jg rfl rfl rfl
 ·
  rw [show decide (20 < l.length) = false by simp [h20], Bool.false_or]
  repeat (refine stp ?_; intros)
  refine EC.loop (ι := {i : Nat // i ≤ l.length ∧ (l.take i).any (fun x => decide (200 < x.cd.length) || decide (20 < x.sl.length)) = false})
   (fun i => ⟨[(3, .val (.v (.int .i64 (i.1 : Int)))), (0, .val (.sl 56 (l.map fV)))], [], []⟩)
   (fun i => l.length - i.1) ⟨0, LH _, rfl⟩ ?_ ?_
  · exact Le.kp
  rintro ⟨i, hi, hno⟩
  dsimp only at hi ⊢
  by_cases hlt : i < l.length
  ·
   have hd : (l.map fV)[i]? = some (fV l[i]) := by rw [Ls, La hlt]; rfl
   have htk : l.take (i + 1) = l.take i ++ [l[i]] := Lm hlt
   have hat := EG (p := fun x : ChL => decide (200 < x.cd.length) || decide (20 < x.sl.length)) hlt
   generalize l[i] = x at hd htk hat
   have hsl : (x.sl.map aA).length = x.sl.length := Lc _
   unfold fV at hd
   by_cases hc : 200 < x.cd.length
   ·
    rw [hat (by simp [hc])]
    repeat (refine stp ?_; intros)
    exact EK.jg rfl rfl rfl
   ·
    by_cases hs : 20 < x.sl.length
    ·
     rw [hat (by simp [hs])]
     repeat (refine stp ?_; intros)
     exact EK.jg rfl rfl rfl
    ·
     skip
     repeat (refine stp ?_; intros)
     refine EK.again ⟨i + 1, hlt, ?_⟩ (by dsimp only; omega) ?_
     ·
      rw [htk, List.any_append, hno]
      simp [hc, hs]
     ·
      simp only [LK]
      exact Le.kp
  ·
   have hiE : i = l.length := by omega
   subst hiE
   rw [L9] at hno
   rw [hno]
   repeat (refine stp ?_; intros)
   exact EK.jg rfl rfl rfl
theorem FT {l : List AcL} (h : ED l = false) : l.length ≤ 20 ∧ ∀ x ∈ l, x.cd.length ≤ 300 ∧ x.sl.length ≤ 20 := by
 unfold ED at h
 rw [Bool.or_eq_false_iff, decide_eq_false_iff_not, List.any_eq_false] at h
 refine ⟨by omega, fun x hx => ?_⟩
 have := h.2 x hx
 simp only [NH, decide_eq_true_eq, not_or] at this
 omega
theorem FQ {l : List ChL} (h : Ez l = false) : l.length ≤ 20 ∧ ∀ x ∈ l, x.cd.length ≤ 200 ∧ x.sl.length ≤ 20 := by
 unfold Ez at h
 rw [Bool.or_eq_false_iff, decide_eq_false_iff_not, List.any_eq_false] at h
 refine ⟨by omega, fun x hx => ?_⟩
 have := h.2 x hx
 simp only [NH, decide_eq_true_eq, not_or] at this
 omega
end E
end Go.Proofs.YtohlgnfachkmaaaGreat
namespace Go.Proofs.YtohlgnfachkmaaaGreat
set_option linter.unusedVariables false
open Go.RowKit Mono Rlp Wd
namespace E

end E
end Go.Proofs.YtohlgnfachkmaaaGreat
namespace Go.Proofs.YtohlgnfachkmaaaGreat
set_option linter.unusedVariables false
set_option maxRecDepth 20000
set_option maxHeartbeats 16000000
open Go.RowKit Mono Rlp Wd Go.Sort
namespace E
structure SaL where
 way : Int
 id : List UInt8
 par : List UInt8
 ch : List ChL
 to : List UInt8
 a : List UInt8
 k : List UInt8
def uQ (x : SaL) : D := .tup [.v (.int .i64 x.way), dDf x.id x.par x.ch, .arr 32 x.to, .arr 20 x.a, .arr 32 x.k]
theorem EC.via {N : Nat} {X : Cx N} {Q : Exit → Act → World → Prop} {c : Code} {S : St} {ι : Type} (J : ι → St) (h : EC X (Exit.then (fun a w => ∃ i, At X (J i) a w) Q) c S) (k : ∀ i, EK X (Q .normal) (J i)) : EC X Q c S := ⟨fun a w ha => wp_mono (h.go a w ha) fun e a w hq => by
 cases e with
 | normal =>
  obtain ⟨i, hi⟩ := hq
  exact (k i).go a w hi
 | _ => exact hq⟩
structure Two (i : Nat) (base : List UInt8) (ls : List Ly) (es : List Ent) : Prop where
 t : Trs base ls (20 + 20 * i) (400 + 400 * i)
 m : Mpd es ls
 l : ls.length ≤ 1 + i
theorem Two.next {i : Nat} {base : List UInt8} {ls : List Ly} {es : List Ent} (h : Two i base ls es) : Two (i + 1) base ls es := ⟨h.t.mono (by omega) (by omega), h.m, by have := h.l; omega⟩
theorem AQ (id : List UInt8) (l : List AcL) (acts : List SaL) : FnM 3 [.arr 32 id, .sl 55 (l.map ak), .sl 150 (acts.map uQ)] [] (fun r os' => r = .val (.v (.bool true)) ∧ os' = []) := by
 have hA := Jg l
 have hul : (acts.map uQ).length = acts.length := Lc _
 refine FnM.walk 197 Tryz.func3 rfl Tryz.ntmps3 (by simp) fun X => ?_
 cases hba : ED l with
 | true =>
  rw [hba] at hA
  repeat
   (first
    | (refine eU (uX) (kk := ?_)) | (refine dQ (hA) (kk := ?_))
    | (refine stp ?_; intros))
  exact EK.aI [] rfl rfl (KZ _) ⟨rfl, rfl⟩
 | false =>
 rw [hba] at hA
 by_cases c1 : 40 < acts.length
 ·
  skip
  repeat
   (first
    | (refine eU (uX) (kk := ?_)) | (refine dQ (hA) (kk := ?_))
    | (refine stp ?_; intros))
  exact EK.aI [] rfl rfl (KZ _) ⟨rfl, rfl⟩
 obtain ⟨hl1, hl2⟩ := FT hba
 have hs1 := JI l id (by omega) fun x hx => by have := hl2 x hx; omega
 have hs2 := JK l id (by have := Ce 20 l fun x hx => (hl2 x hx).2; omega) fun x hx => by have := hl2 x hx; omega
 have hZ := Sz.new l 20 fun x hx => by have := hl2 x hx; omega
 repeat
  (first
   | (refine eU (uX) (kk := ?_)) | (refine dQ (hA) (kk := ?_))
   | (refine stp ?_; intros))
 rename_i g3
 refine aH (os := []) hs1 (kk := ?_)
 rintro _ _ ⟨g, m, L, hL, _, _, rfl, rfl⟩
 simp only [KN, KO]
 repeat (refine stp ?_; intros)
 refine aH (os := []) hs2 (kk := ?_)
 rintro _ _ ⟨g2, v0, L', hL', rfl, rfl⟩
 obtain rfl := hL.eq hL'
 simp only [KN, KO]
 refine EL.le (Le.pick [2, 3, 0, 1, 4] [_, _, _, _, _] rfl (by decide) rfl) ?_
 have hW : Two 0 id [⟨id, zero32, L⟩] (aX 0 [] id (dJ zero32 L)) := ⟨(Trs.first hL hZ).mono (by omega) (by omega), Mpd.first id zero32 L, LG _⟩
 generalize aX 0 [] id (dJ zero32 L) = es0 at hW ⊢
 generalize aU 0 [] id = c0
 clear hL hL' hs1 hs2 hZ hA
 repeat (refine stp ?_; intros)
 refine EC.loop (ι := {x : Nat × List UInt8 × List Ly × Nat × List Ent × Value // x.1 ≤ acts.length ∧ Two x.1 x.2.1 x.2.2.1 x.2.2.2.2.1})
  (fun x => ⟨[(11, .val (.v (.int .i64 (x.1.1 : Int)))), (10, .val (.v (ptr g2))), (9, .val (.v (ptr g))), (2, .val (.sl 150 (acts.map uQ)))], [tO g m x.1.2.1, .map m 32 x.1.2.2.2.1 x.1.2.2.2.2.1, rtO g2 x.1.2.1 x.1.2.2.2.2.2, rlO x.1.2.2.2.2.2 x.1.2.2.1], []⟩)
  (fun x => acts.length - x.1.1) ⟨(0, id, [⟨id, zero32, L⟩], c0, es0, v0), LH _, hW⟩ ?_ ?_
 · exact Le.kp
 clear hW
 rintro ⟨⟨i, base, ls, c, es, v⟩, hi, hW⟩
 dsimp only at hi hW ⊢
 by_cases hlt : i < acts.length
 ·
  have hd : (acts.map uQ)[i]? = some (uQ acts[i]) := by rw [Ls, La hlt]; rfl
  generalize acts[i] = x at hd
  obtain ⟨way, did, par, ch, to, a, k⟩ := x
  unfold uQ at hd
  dsimp only at hd
  have hC := Jf ch
  cases hbc : Ez ch with
  | true =>
   rw [hbc] at hC
   repeat
    (first
     | (refine dQ (hC) (kk := ?_)) | (refine stp ?_; intros))
   exact EK.aI [] rfl rfl (KZ _) ⟨rfl, rfl⟩
  | false =>
  rw [hbc] at hC
  obtain ⟨hc1, hc2⟩ := FQ hbc
  have hWl := hW.l
  have hT := hW.t
  have hM := hW.m
  repeat
   (first
    | (refine dQ (hC) (kk := ?_)) | (refine stp ?_; intros))
  rename_i g12
  refine EC.le (Le.pick [1, 2, 0, 3, 4] [_, _, _, _, _] rfl (by decide) rfl) ?_
  refine EC.via (ι := {y : List UInt8 × List Ly × Nat × List Ent × Value // Two (i + 1) y.1 y.2.1 y.2.2.2.1})
   (fun y => ⟨[(14, .val (.v (.bool true))), (12, .val (.v (ptr g12))), (11, .val (.v (.int .i64 (i : Int)))), (10, .val (.v (ptr g2))), (9, .val (.v (ptr g))), (2, .val (.sl 150 (acts.map uQ)))], [tO g m y.1.1, .map m 32 y.1.2.2.1 y.1.2.2.2.1, .var g12 38 (.tup [.v (.int .i64 way), dDf did par ch, .arr 32 to, .arr 20 a, .arr 32 k]), rtO g2 y.1.1 y.1.2.2.2.2, rlO y.1.2.2.2.2 y.1.2.1], []⟩) ?_ fun y => ?_
  ·
   by_cases hw : way = 0
   ·
    rw [show (way == 0) = true by simp [hw]]
    repeat (refine stp ?_; intros)
    by_cases hk : did ∈ ls.map Ly.id
    ·
     skip
     obtain ⟨x1, hx1, rfl⟩ := Ll.1 hk
     have k1 := hM.get x1 hx1
     have hadd : FnM 11 [.v (ptr g), dDf x1.id par ch] [tO g m base, .map m 32 c es] (fun r os' => r = .val (.v (.int .i64 1)) ∧ os' = [tO g m base, .map m 32 c es]) := by
      by_cases hp : par ∈ ls.map Ly.id
      ·
       obtain ⟨x2, hx2, rfl⟩ := Ll.1 hp
       exact vY k1 (hM.get x2 hx2) ch
      · exact vZ k1 (hM.none hp) ch
     have hradd := yI (g := g2) (base := base) (v := v) (ls := ls) (by omega) (par := par) ch hk
     refine EC.aZ 8 [0, 1, 2, 5, 6, 7] [3, 4] [_, _] _ (by kernel_rfl) (by kernel_rfl) rfl ?_
     simp only [au, KW, KY, KT, KU]
     repeat (refine sth ?_; intros)
     refine EM.nil ?_
     repeat (first | rw [KN] | rw [KO])
     refine CH.bC (os := [tO g m base, .map m 32 c es]) (rest := []) hadd (k := ?_)
     rintro _ _ ⟨rfl, rfl⟩
     try simp only [St.put]
     repeat (first | rw [KN] | rw [KO])
     refine CH.cut 1 ?_
     simp only [KQ, KX, KP, KR]
     repeat
      (first
       | (refine dB (oO 1) (kk := ?_)) | (refine sth ?_; intros))
     refine EM.nil ?_
     repeat (first | rw [KN] | rw [KO])
     refine CH.nil ?_
     try simp only [KP, KR]
     refine dU hradd [_, _, _] [] rfl rfl (ah.refl _ _) (by intro _ _; simp [go_sem]) rfl rfl ?_
     rintro _ _ ⟨rfl, rfl⟩
     simp only [KN, KO]
     repeat (refine stp ?_; intros)
     refine EK.h0 (EK.meet ⟨(base, ls, c, es, v), hW.next⟩ ?_)
     exact Le.kp
    by_cases hp : par ∈ ls.map Ly.id
    ·
     skip
     obtain ⟨x2, hx2, rfl⟩ := Ll.1 hp
     obtain ⟨A, hA1, hA2⟩ := hT.acc x2 hx2
     have hlen := hA2.len hA1
     have heach := hA2.each hA1
     have hwt := hA2.wt hA1
     have hadd := Ik (g := g) (m := m) (c := c) (base := base) ch (hM.none hk) (hM.get x2 hx2) (by omega) (fun y hy => by have := heach y hy; omega) (by omega) fun y hy => by have := hc2 y hy; omega
     have hradd := F7 (g := g2) (base := base) (v := v) (ls := ls) (by omega) hT.nod ch hk hx2 (by omega) (fun y hy => (heach y hy).2) (by omega) fun y hy => by have := hc2 y hy; omega
     rw [hA1.new hA2.nn] at hadd hradd
     have hA3 := hA2.apply ch (m := 20) fun y hy => by have := hc2 y hy; omega
     refine EC.aZ 8 [0, 1, 2, 5, 6, 7] [3, 4] [_, _] _ (by kernel_rfl) (by kernel_rfl) rfl ?_
     simp only [au, KW, KY, KT, KU]
     repeat (refine sth ?_; intros)
     refine EM.nil ?_
     repeat (first | rw [KN] | rw [KO])
     refine CH.bC (os := [tO g m base, .map m 32 c es]) (rest := []) hadd (k := ?_)
     rintro _ _ ⟨L1, hL1, _, _, rfl, rfl⟩
     try simp only [St.put]
     repeat (first | rw [KN] | rw [KO])
     refine CH.cut 1 ?_
     simp only [KQ, KX, KP, KR]
     repeat
      (first
       | (refine dB (oO 0) (kk := ?_)) | (refine sth ?_; intros))
     refine EM.nil ?_
     repeat (first | rw [KN] | rw [KO])
     refine CH.nil ?_
     try simp only [KP, KR]
     refine dU hradd [_, _, _] [] rfl rfl (ah.refl _ _) (by intro _ _; simp [go_sem]) rfl rfl ?_
     rintro _ _ ⟨v1, L2, hL2, rfl, rfl⟩
     obtain rfl := hL1.eq hL2
     simp only [KN, KO]
     repeat (refine stp ?_; intros)
     refine EK.h0 (EK.meet ⟨(base, ls ++ [⟨did, x2.id, L1⟩], aU c es did, aX c es did (dJ x2.id L1), v1), ⟨hT.add hk hp hL1 hA3 (by omega) (by omega) |>.mono (by omega) (by omega), hM.add c hk, by rw [List.length_append, List.length_singleton]; omega⟩⟩ ?_)
     exact Le.kp
    ·
     skip
     have hadd := vX (g := g) (m := m) (c := c) (base := base) (hM.none hk) (hM.none hp) ch
     have hradd := wz (g := g2) (base := base) (v := v) (ls := ls) (by omega) ch hk hp
     refine EC.aZ 8 [0, 1, 2, 5, 6, 7] [3, 4] [_, _] _ (by kernel_rfl) (by kernel_rfl) rfl ?_
     simp only [au, KW, KY, KT, KU]
     repeat (refine sth ?_; intros)
     refine EM.nil ?_
     repeat (first | rw [KN] | rw [KO])
     refine CH.bC (os := [tO g m base, .map m 32 c es]) (rest := []) hadd (k := ?_)
     rintro _ _ ⟨rfl, rfl⟩
     try simp only [St.put]
     repeat (first | rw [KN] | rw [KO])
     refine CH.cut 1 ?_
     simp only [KQ, KX, KP, KR]
     repeat
      (first
       | (refine dB (oO 22) (kk := ?_)) | (refine sth ?_; intros))
     refine EM.nil ?_
     repeat (first | rw [KN] | rw [KO])
     refine CH.nil ?_
     try simp only [KP, KR]
     refine dU hradd [_, _, _] [] rfl rfl (ah.refl _ _) (by intro _ _; simp [go_sem]) rfl rfl ?_
     rintro _ _ ⟨rfl, rfl⟩
     simp only [KN, KO]
     repeat (refine stp ?_; intros)
     refine EK.h0 (EK.meet ⟨(base, ls, c, es, v), hW.next⟩ ?_)
     exact Le.kp
   ·
    rw [show (way == 0) = false by simp [hw]]
    by_cases hk : to ∈ ls.map Ly.id
    ·
     skip
     obtain ⟨x1, hx1, e1⟩ := Ll.1 hk
     have k1 := hM.get x1 hx1
     rw [e1] at k1
     have hfl := Ii (eH base to ls) (FP (g := g) (m := m) (c := c) (to := to) hT hM) k1 (by rw [hM.len]; omega)
     have hrf := JM (g := g2) (v := v) hT (by omega) hk
     rw [FN hM] at hfl
     have hT2 := hT.flat hk
     have hM2 := hM.flat (eH base to ls)
     have hK : (sortL ((ls.filter fun x => !eH base to ls x.id).map Ly.id)).length ≤ ls.length := by
      rw [(aW _).length_eq, Lc]
      exact MN _ _
     have hl2 : (ls.filter fun x => eH base to ls x.id).length ≤ ls.length := MN _ _
     generalize (ls.filter fun x => eH base to ls x.id) = ls2 at hrf hT2 hM2 hl2
     generalize (es.filter fun e => eH base to ls e.2.1) = es2 at hfl hM2
     generalize sortL ((ls.filter fun x => !eH base to ls x.id).map Ly.id) = K at hfl hrf hK
     have hsw := jG K K (by omega)
     rw [beq_self_eq_true] at hsw
     repeat (refine stp ?_; intros)
     refine aH (os := [tO g m base, .map m 32 c es]) hfl (kk := ?_)
     rintro _ _ ⟨rfl, rfl⟩
     simp only [KN, KO]
     repeat (refine stp ?_; intros)
     refine dU hrf [_, _, _] [] rfl rfl (ah.refl _ _) (by intro _ _; simp [go_sem]) rfl rfl ?_
     rintro _ _ ⟨v1, rfl, rfl⟩
     simp only [KN, KO]
     repeat
      (first
       | (refine dQ (oO 0) (kk := ?_)) | (refine dQ (hsw) (kk := ?_)) | (refine stp ?_; intros))
     refine EK.h0 (EK.meet ⟨(to, ls2, c, es2, v1), ⟨hT2.mono (by omega) (by omega), hM2, by dsimp only; omega⟩⟩ ?_)
     exact Le.kp
    ·
     skip
     have hfl := yA (g := g) (m := m) (c := c) (base := base) (hM.none hk)
     have hrf := yG (g := g2) (base := base) (v := v) (ls := ls) (by omega) hk
     have hsw : Fn 15 [.sl 32 [], .sl 32 []] (· = .val (.v (.bool true))) := jG [] [] (by decide)
     repeat (refine stp ?_; intros)
     refine aH (os := [tO g m base, .map m 32 c es]) hfl (kk := ?_)
     rintro _ _ ⟨rfl, rfl⟩
     simp only [KN, KO]
     repeat (refine stp ?_; intros)
     refine dU hrf [_, _, _] [] rfl rfl (ah.refl _ _) (by intro _ _; simp [go_sem]) rfl rfl ?_
     rintro _ _ ⟨rfl, rfl⟩
     simp only [KN, KO]
     repeat
      (first
       | (refine dQ (oO 6) (kk := ?_)) | (refine dQ (hsw) (kk := ?_)) | (refine stp ?_; intros))
     refine EK.h0 (EK.meet ⟨(base, ls, c, es, v), hW.next⟩ ?_)
     exact Le.kp
  ·
   obtain ⟨⟨base2, ls2, c2, es2, v2⟩, hW2⟩ := y
   dsimp only at hW2 ⊢
   clear hT hM hWl hC
   have hT := hW2.t
   have hM := hW2.m
   have hWl := hW2.l
   have h9 := Ij (g := g) (m := m) (c := c2) (base := base2) (es := es2)
   have h10 := Ai (g := g) (m := m) (c := c2) hT hM (by omega)
   have h11 := FZ (g := g2) (base := base2) (v := v2) (ls := ls2) (by omega)
   have hK : (sortL ((ls2.filter fun x => x.id != base2).map Ly.id)).length ≤ ls2.length := by
    rw [(aW _).length_eq, Lc]
    exact MN _ _
   generalize sortL ((ls2.filter fun x => x.id != base2).map Ly.id) = K at h10 h11 hK
   have h12 := jG K K (by omega)
   rw [beq_self_eq_true] at h12
   have hb2 := (aP base2 base2).2
   rw [bne_self_eq_false] at hb2
   by_cases hk : to ∈ ls2.map Ly.id
   ·
    skip
    obtain ⟨x, hx, rfl⟩ := Ll.1 hk
    obtain ⟨A, hA1, hA2⟩ := hT.acc x hx
    have hlen := hA2.len hA1
    have heach := fun y hy => (⟨by have := hA2.each hA1 y hy; omega, (hA2.each hA1 y hy).2⟩ : y.sl.length ≤ 1000000 ∧ y.cd.length ≤ 140737488355328)
    have q1 := Am (g := g) (m := m) (c := c2) (base := base2) (hM.get x hx) (by omega) heach
    have q2 := Au (g := g2) (base := base2) (v := v2) (ls := ls2) (by omega) hT.nod hx
    have q3 := vw (g := g) (m := m) (c := c2) (base := base2) hA1 (hM.get x hx) (by omega) heach a
    have q4 := Ci (g := g) (m := m) (c := c2) (base := base2) hA1 (hM.get x hx) (by omega) heach a k
    have q5 := GX x.L (by omega) a
    have h6 := kK x.L (by omega) fun y hy => by have := (heach y hy).1; omega
    have hpl := wB (n := 1000000) (fun y hy => (heach y hy).1) a
    have h7 := iW (fD x.L a) (by omega)
    have h8 := sW (fD x.L a) hpl k
    have hb1 := (aP (slotL (fD x.L a).sl k) (slotL (fD x.L a).sl k)).2
    generalize fD x.L a = pa at q3 q4 q5 h7 h8 hb1
    obtain ⟨xa, xn, xw, xc, xs⟩ := pa
    have hpa : ak ⟨xa, xn, xw, xc, xs⟩ = .tup [.arr 20 xa, .v (.int .i64 xn), .arr 32 xw, .bs xc, .sl 64 (xs.map aA)] := rfl
    rw [hpa] at q3 q5 h7 h8
    dsimp only at q4 h8 hb1
    rw [bne_self_eq_false] at hb1
    repeat (refine stp ?_; intros)
    refine aH (os := [tO g m base2, .map m 32 c2 es2]) q1 (kk := ?_)
    rintro _ _ ⟨rfl, rfl⟩
    simp only [KN, KO]
    repeat (refine stp ?_; intros)
    refine dU q2 [_, _, _] [] rfl rfl (ah.refl _ _) (by intro _ _; simp [go_sem]) rfl rfl ?_
    rintro _ _ ⟨rfl, rfl⟩
    simp only [KN, KO]
    repeat (refine stp ?_; intros)
    refine aH (os := [tO g m base2, .map m 32 c2 es2]) q3 (kk := ?_)
    rintro _ _ ⟨rfl, rfl⟩
    simp only [KN, KO]
    repeat (refine stp ?_; intros)
    refine dU q4 [_] [_, _, _] rfl rfl (ah.refl _ _) (by intro _ _; simp [go_sem]) rfl rfl ?_
    rintro _ _ ⟨rfl, rfl⟩
    simp only [KN, KO]
    repeat
     (first
      | (refine dQ (q5) (kk := ?_)) | (refine stp ?_; intros))
    refine EC.Em 56 (by kernel_rfl) ?_
    simp only [KQ, KX, KP, KR]
    refine EV.cut 42 ?_
    simp only [KQ, KX, KP, KR]
    repeat
     (first
      | (refine dB (oO 0) (kk := ?_)) | (refine dB (h6) (kk := ?_))
      | (refine dB (h7) (kk := ?_)) | (refine dB (h8) (kk := ?_))
      | (refine bM (hrun := hb1) (kk := ?_)) | (refine sth ?_; intros))
    refine EM.nil ?_
    refine EV.qR (h9) [3, 4, 0, 1, 2, 5, 6, 7] [_, _, _, _, _, _] rfl (by decide) rfl rfl (ah.refl _ _) (by intro _ _; simp [go_sem]) rfl rfl ?_
    refine EV.cut 8 ?_
    simp only [KQ, KX, KP, KR]
    repeat
     (first
      | (refine bM (hrun := hb2) (kk := ?_)) | (refine sth ?_; intros))
    refine EM.nil ?_
    refine EV.qR (h10) [3, 4, 0, 1, 2, 5, 6, 7] [_, _, _, _, _, _] rfl (by decide) rfl rfl (ah.refl _ _) (by intro _ _; simp [go_sem]) rfl rfl ?_
    refine EV.cut 1 ?_
    simp only [KQ, KX, KP, KR]
    repeat (refine sth ?_; intros)
    refine EM.nil ?_
    refine EV.qR (h11) [6, 7, 0, 1, 2, 3, 4, 5] [_, _, _, _, _, _] rfl (by decide) rfl rfl (ah.refl _ _) (by intro _ _; simp [go_sem]) rfl rfl ?_
    refine EV.cut 2 ?_
    simp only [KQ, KX, KP, KR]
    repeat
     (first
      | (refine dB (h12) (kk := ?_)) | (refine sth ?_; intros))
    refine EM.nil ?_
    refine EV.nil0 ?_
    repeat (refine stp ?_; intros)
    refine EK.again ⟨(i + 1, base2, ls2, c2, es2, v2), hlt, hW2⟩ (by dsimp only; omega) ?_
    simp only [LK]
    exact Le.kp
   ·
    skip
    have q1 := Ap (g := g) (m := m) (c := c2) (base := base2) (hM.none hk)
    have q2 := Aw (g := g2) (base := base2) (v := v2) (ls := ls2) (by omega) hk
    have q3 := vC (g := g) (m := m) (c := c2) (base := base2) (hM.none hk) a
    have q4 := Cj (g := g) (m := m) (c := c2) (base := base2) (hM.none hk) a k
    have h6 : Fn 21 [.sl 55 [], .sl 55 []] (· = .val (.v (.bool true))) := kK [] (by decide) fun y hy => by cases hy
    have h7 := iW nilA (by decide)
    have h8 := sW nilA (by decide) k
    have hb1 := (aP zero32 zero32).2
    have hpa : ak nilA = .tup [.arr 20 (List.replicate 20 0), .v (.int .i64 0), .arr 32 zero32, .bs [], .sl 64 []] := rfl
    have hsl : slotL nilA.sl k = zero32 := rfl
    rw [hpa] at q3 h7 h8
    rw [hsl] at h8
    rw [bne_self_eq_false] at hb1
    repeat (refine stp ?_; intros)
    refine aH (os := [tO g m base2, .map m 32 c2 es2]) q1 (kk := ?_)
    rintro _ _ ⟨rfl, rfl⟩
    simp only [KN, KO]
    repeat (refine stp ?_; intros)
    refine dU q2 [_, _, _] [] rfl rfl (ah.refl _ _) (by intro _ _; simp [go_sem]) rfl rfl ?_
    rintro _ _ ⟨rfl, rfl⟩
    simp only [KN, KO]
    repeat (refine stp ?_; intros)
    refine aH (os := [tO g m base2, .map m 32 c2 es2]) q3 (kk := ?_)
    rintro _ _ ⟨rfl, rfl⟩
    simp only [KN, KO]
    repeat (refine stp ?_; intros)
    refine dU q4 [_] [_, _, _] rfl rfl (ah.refl _ _) (by intro _ _; simp [go_sem]) rfl rfl ?_
    rintro _ _ ⟨rfl, rfl⟩
    simp only [KN, KO]
    repeat (refine stp ?_; intros)
    refine EC.Em 56 (by kernel_rfl) ?_
    simp only [KQ, KX, KP, KR]
    refine EV.cut 42 ?_
    simp only [KQ, KX, KP, KR]
    repeat
     (first
      | (refine dB (oO 6) (kk := ?_)) | (refine dB (h6) (kk := ?_))
      | (refine dB (h7) (kk := ?_)) | (refine dB (h8) (kk := ?_))
      | (refine bM (hrun := hb1) (kk := ?_)) | (refine sth ?_; intros))
    refine EM.nil ?_
    refine EV.qR (h9) [3, 4, 0, 1, 2, 5, 6, 7] [_, _, _, _, _, _] rfl (by decide) rfl rfl (ah.refl _ _) (by intro _ _; simp [go_sem]) rfl rfl ?_
    refine EV.cut 8 ?_
    simp only [KQ, KX, KP, KR]
    repeat
     (first
      | (refine bM (hrun := hb2) (kk := ?_)) | (refine sth ?_; intros))
    refine EM.nil ?_
    refine EV.qR (h10) [3, 4, 0, 1, 2, 5, 6, 7] [_, _, _, _, _, _] rfl (by decide) rfl rfl (ah.refl _ _) (by intro _ _; simp [go_sem]) rfl rfl ?_
    refine EV.cut 1 ?_
    simp only [KQ, KX, KP, KR]
    repeat (refine sth ?_; intros)
    refine EM.nil ?_
    refine EV.qR (h11) [6, 7, 0, 1, 2, 3, 4, 5] [_, _, _, _, _, _] rfl (by decide) rfl rfl (ah.refl _ _) (by intro _ _; simp [go_sem]) rfl rfl ?_
    refine EV.cut 2 ?_
    simp only [KQ, KX, KP, KR]
    repeat
     (first
      | (refine dB (h12) (kk := ?_)) | (refine sth ?_; intros))
    refine EM.nil ?_
    refine EV.nil0 ?_
    repeat (refine stp ?_; intros)
    refine EK.again ⟨(i + 1, base2, ls2, c2, es2, v2), hlt, hW2⟩ (by dsimp only; omega) ?_
    simp only [LK]
    exact Le.kp
 ·
  skip
  repeat (refine stp ?_; intros)
  exact EK.aI [] rfl rfl (KZ _) ⟨rfl, rfl⟩
end E
end Go.Proofs.YtohlgnfachkmaaaGreat
namespace Go.Proofs.YtohlgnfachkmaaaGreat
open Go.RowKit Mono

end Go.Proofs.YtohlgnfachkmaaaGreat
namespace Go.Proofs.YtohlgnfachkmaaaGreat
set_option linter.unusedVariables false
set_option maxRecDepth 100000
open Go.RowKit Mono Go.ChangeShapes Go.WideShapes Go.Deep
theorem cell_spot {w : World} {p : Addr} {v : Value} (h : w.cell? p = some v) : p.block < w.heap.size ∧ ∃ b o, p = ⟨b, o, none⟩ := by
 obtain ⟨blk, off, spot⟩ := p
 have hspot : spot = none := by
  simp only [World.cell?] at h
  cases spot with
  | none => rfl
  | some s =>
   simp at h
   split at h <;> simp at h
 subst hspot
 refine ⟨?_, blk, off, rfl⟩
 rcases MK blk w.heap.size with hlt | hge
 · exact hlt
 · simp [World.cell?, Array.getElem?_eq_none hge] at h
theorem flat_get {n : Nat} {u : Value} : ∀ (rows : List (List Value)) (j : Nat), (∀ r ∈ rows, r.length = n) → rows.flatten[j]? = some u → ∃ i r row, j = i * n + r ∧ r < n ∧ rows[i]? = some row ∧ row[r]? = some u
 | [], j, _, h => by simp at h
 | row :: rows, j, hn, h => by
  have hr : row.length = n := hn row (by simp)
  rw [MP] at h
  by_cases hj : j < n
  ·
   rw [MZ (by omega)] at h
   exact ⟨0, j, row, by simp, hj, rfl, h⟩
  ·
   rw [MV (by omega), hr] at h
   obtain ⟨i, r, row', h1, h2, h3, h4⟩ := flat_get rows (j - n) (fun r hr => hn r (by simp [hr])) h
   exact ⟨i + 1, r, row', by rw [Nq]; omega, h2, by simpa using h3, h4⟩
section
variable {H : Type} {enc : TypeId × Value → H} {w : World} {spare : Nat → Bool} {held : Bool}
theorem int_of_trod {t : TypeId} {k : IntKind} {fuel : Nat} {cs : List Value} {x : DataW H × List MemPlace} (ht : Tryz.prog.underlying t = some (.int k)) (h : DataW.trod enc Tryz.prog w 0 spare held fuel t cs = some x) : ∃ n, cs = [.int k n] ∧ (Lit.int k n).wf = true := by
 obtain ⟨n, h1, _, h2⟩ := DataW.trod_int ht h
 exact ⟨n, h1, h2⟩
theorem pO {fuel : Nat} {cs : List Value} {x : DataW H × List MemPlace} (h : DataW.trod enc Tryz.prog w 0 spare held fuel 5 cs = some x) : ∃ b : UInt8, cs = [bv b] := by
 obtain ⟨n, rfl, hw⟩ := int_of_trod Tryz.underlying5 h
 have hb := bounds_u8 hw
 refine ⟨UInt8.ofNat n.toNat, ?_⟩
 unfold bv
 rw [UInt8.toNat_ofNat']
 have : ((n.toNat % 2 ^ 8 : Nat) : Int) = n := by omega
 rw [this]
theorem rG {rows : List (List Value)} (h : ∀ r ∈ rows, ∃ b : UInt8, r = [bv b]) : ∃ l : List UInt8, l.length = rows.length ∧ rows.flatten = bvs l := by
 induction rows with
 | nil => exact ⟨[], rfl, rfl⟩
 | cons r rows ih =>
  obtain ⟨l, h1, h2⟩ := ih fun r hr => h r (by simp [hr])
  obtain ⟨b, rfl⟩ := h r (by simp)
  exact ⟨b :: l, by simp [h1], by simp [h2, bvs]⟩
set_option maxRecDepth 100000
variable {r : Reach} {b0 : Nat} {v : Value} {d : DataW H} {ps : List MemPlace}
end
section
variable {H : Type} {enc : TypeId × Value → H} {w : World} {spare : Nat → Bool} {held : Bool}
theorem Jm (cs : List Value) (h : ∀ u ∈ cs, ∃ b : UInt8, u = bv b) : ∃ l : List UInt8, cs = bvs l := by
 induction cs with
 | nil => exact ⟨[], rfl⟩
 | cons u cs ih =>
  obtain ⟨l, hl⟩ := ih fun u hu => h u (by simp [hu])
  obtain ⟨b, rfl⟩ := h u (by simp)
  exact ⟨b :: l, by rw [hl]; rfl⟩
theorem oQ {t : TypeId} {n fuel : Nat} {cs : List Value} {x : DataW H × List MemPlace} (ht : Tryz.prog.underlying t = some (.array n 5)) (hc : Tryz.prog.cellsOf t = n) (h : DataW.trod enc Tryz.prog w 0 spare held fuel t cs = some x) :
  ∃ l : List UInt8, l.length = n ∧ cs = bvs l := by
 obtain ⟨xs, m, _, _, hl, hxl, hg⟩ := DataW.trod_array ht h
 rw [hc] at hl
 obtain ⟨l, rfl⟩ := Jm cs fun u hu => by
  obtain ⟨i, hi, rfl⟩ := Ns hu
  have h1 := hg i (by omega)
  rw [(by kernel_rfl : Tryz.prog.cellsOf 5 = 1), Nat.mul_one, NQ hi, KQ, KX, La (by omega)] at h1
  obtain ⟨b, hb⟩ := pO h1
  exact ⟨b, by simpa using hb⟩
 exact ⟨l, by rw [← hl, aS], rfl⟩
variable {r : Reach} {b0 : Nat} {v : Value} {d : DataW H} {ps : List MemPlace}
theorem BA {t : TypeId} {n : Nat} (ht : Tryz.prog.underlying t = some (.array n 5)) (hc : Tryz.prog.cellsOf t = n) (hv : Value.okWide Tryz.prog w r b0 t v) (h : DataW.Trod enc Tryz.prog w 0 spare held t v d ps) : ∃ l : List UInt8, l.length = n ∧ v = aT l := by
 simp only [Value.okWide, ht] at hv
 obtain ⟨cs, rfl, _⟩ := hv
 obtain ⟨fuel, hf⟩ := h
 obtain ⟨l, h1, h2⟩ := oQ ht hc hf
 refine ⟨l, h1, ?_⟩
 unfold aT
 rw [← h2]
 simp [Value.cells]
theorem IZ (hv : Value.okWide Tryz.prog w r b0 23 v) (h : DataW.Trod enc Tryz.prog w 0 spare held 23 v d ps) : ∃ l : List UInt8, l.length = 32 ∧ v = aT l :=
 BA Tryz.underlying23 (by kernel_rfl) hv h
end
section
variable {H : Type} {enc : TypeId × Value → H} {w : World} {spare : Nat → Bool} {held : Bool}
theorem nX {P : Program} {e : TypeId} {d : DataW H} {k : Nat} : ∀ {ds : List (DataW H)}, d ∈ ds → k ∈ d.weights P e → k ∈ DataW.weightsAll P e ds
 | [], h, _ => by cases h
 | x :: xs, h, hk => by
  rw [DataW.weightsAll]
  rcases Lj.1 h with rfl | h
  · exact LJ _ hk
  · exact LW _ (nX h hk)
theorem nZ {t e n : TypeId} {fuel : Nat} {v : Value} {x : DataW H × List MemPlace} (ht : Tryz.prog.underlying t = some (.slice e)) (hn : Tryz.prog.cellsOf e = n) (h : DataW.trod enc Tryz.prog w 0 spare held fuel t [v] = some x) :
  ∃ (A : Option Addr) (c f : Nat) (rows : List (List Value)), v = .slice A rows.length c ∧ rows.length ≤ c ∧ c ≤ maxLen ∧ Rd w w.heap.size A rows.flatten ∧ (∀ r ∈ rows, r.length = n) ∧ (A = none → rows = [] ∧ c = 0) ∧ (rows ≠ [] → f < fuel) ∧ (∀ r ∈ rows, ∃ y, DataW.trod enc Tryz.prog w 0 spare held f e r = some y ∧ ∀ k ∈ y.1.weights Tryz.prog e, k ∈ x.1.weights Tryz.prog t) ∧ (rows ≠ [] → ∃ k ∈ x.1.weights Tryz.prog t, rows.length * Tryz.prog.bytesOf e ≤ k) := by
 rcases DataW.trod_slice ht h with ⟨hcs, hx⟩ | ⟨a, len, cap, elems, rest, f, hfu, hcs, hx, _, hl, hm, hel, hi, _⟩
 ·
  simp at hcs
  subst hcs
  exact ⟨none, 0, 0, [], rfl, LG _, by simp [maxLen], Rd.nil, by simp, fun _ => ⟨rfl, rfl⟩, fun hne => absurd rfl hne, by simp, fun hne => absurd rfl hne⟩
 ·
  simp at hcs
  subst hcs
  rw [hn] at hi
  let row : Nat → List Value := fun i => (w.cells? 0 (a.add (i * n)) n).getD []
  have hrow : ∀ i, i < len → w.cells? 0 (a.add (i * n)) n = some (row i) ∧ ∃ y, DataW.trod enc Tryz.prog w 0 spare held f e (row i) = some y ∧ ∀ k ∈ y.1.weights Tryz.prog e, k ∈ x.1.weights Tryz.prog t := fun i hil => by
   have h1 := hi i hil
   rw [La (by omega)] at h1
   cases hc : w.cells? 0 (a.add (i * n)) n with
   | none => rw [hc] at h1; cases h1
   | some cs' =>
    rw [hc] at h1
    have : row i = cs' := by simp only [row]; rw [hc]; rfl
    rw [this]
    refine ⟨rfl, _, h1, fun k hk => ?_⟩
    rw [hx, DataW.weights, ht]
    exact Lu _ (LJ _ (nX (List.mem_map_of_mem (MB (by omega))) hk))
  have hmem : ∀ r ∈ (List.range len).map row, ∃ i, i < len ∧ r = row i := fun r hr => by
   obtain ⟨i, h1, h2⟩ := Ll.1 hr
   exact ⟨i, NW.1 h1, h2.symm⟩
  have hlen : ∀ r ∈ (List.range len).map row, r.length = n := fun r hr => by
   obtain ⟨i, h1, rfl⟩ := hmem r hr
   exact (World.cells?_some (hrow i h1).1).2.1
  refine ⟨some a, cap, f, (List.range len).map row, by simp, by simpa using hl, hm, ?_, hlen, (fun e => by cases e), fun _ => by omega, fun r hr => ?_, fun _ => ⟨(elems.length + rest.length) * Tryz.prog.bytesOf e, ?_, ?_⟩⟩
  ·
   have hcell : ∀ j u, ((List.range len).map row).flatten[j]? = some u → w.cell? (a.add j) = some u := fun j u hu => by
    obtain ⟨i, r, row', rfl, h2, h3, h4⟩ := flat_get _ j hlen hu
    have hil : i < len := by
     have := (Lp.1 h3).1
     simpa using this
    have h5 : row' = row i := by
     rw [Ls, List.getElem?_range hil] at h3
     exact (MS h3).symm
    subst h5
    have h6 := (World.cells?_some (hrow i hil).1).2.2 r h2
    rw [h4, Go.Deep.add_add] at h6
    exact h6
   intro hne
   obtain ⟨u0, rest, he⟩ := List.exists_cons_of_ne_nil hne
   have h0 := hcell 0 u0 (by rw [he]; rfl)
   rw [show a.add 0 = a from if_pos rfl] at h0
   obtain ⟨h1, b, o, rfl⟩ := cell_spot h0
   refine ⟨b, o, rfl, h1, fun j u hu => ?_⟩
   have := hcell j u hu
   rw [bI] at this
   exact this
  ·
   obtain ⟨i, h1, rfl⟩ := hmem r hr
   exact (hrow i h1).2
  ·
   rw [hx, DataW.weights, ht]
   simp
  ·
   rw [Lc, List.length_range]
   exact NC _ (by omega)
end
end Go.Proofs.YtohlgnfachkmaaaGreat
namespace Go.Proofs.YtohlgnfachkmaaaGreat
set_option linter.unusedVariables false
set_option maxRecDepth 100000
open Go.RowKit Mono Go.ChangeShapes Go.WideShapes Go.Deep
namespace E
inductive Sh where
 | bool
 | int (k : IntKind)
 | arr (n : Nat)
 | bytes
 | slice (b : Nat) (s : Sh)
 | struct (ss : List Sh)
mutual
def Sh.size : Sh → Nat
 | .arr n => n
 | .struct ss => Sh.sizes ss
 | _ => 1
def Sh.sizes : List Sh → Nat
 | [] => 0
 | s :: ss => s.size + Sh.sizes ss
end
def Sh.agg : Sh → Bool
 | .arr _ => true
 | .struct _ => true
 | _ => false
mutual
def Sh.Is : Sh → TypeId → Prop
 | .bool, t => Tryz.prog.underlying t = some .bool ∧ Tryz.prog.cellsOf t = 1
 | .int k, t => Tryz.prog.underlying t = some (.int k) ∧ Tryz.prog.cellsOf t = 1
 | .arr n, t => Tryz.prog.underlying t = some (.array n 5) ∧ Tryz.prog.cellsOf t = n
 | .bytes, t => Tryz.prog.underlying t = some (.slice 5) ∧ Tryz.prog.cellsOf t = 1
 | .slice b s, t => Tryz.prog.cellsOf t = 1 ∧ ∃ e, Tryz.prog.underlying t = some (.slice e) ∧ Tryz.prog.bytesOf e = b ∧ s.Is e
 | .struct ss, t => ∃ fs : Array Field, Tryz.prog.underlying t = some (.struct fs) ∧ Tryz.prog.cellsOf t = Sh.sizes ss ∧ Sh.IsF ss 0 fs.toList
def Sh.IsF : List Sh → Nat → List Field → Prop
 | [], _, fs => fs = []
 | s :: ss, o, fs => ∃ f rest, fs = f :: rest ∧ f.offset = o ∧ s.Is f.type ∧ Sh.IsF ss (o + s.size) rest
end
mutual
def Sh.Of (N : Nat) : Sh → D → Prop
 | .bool, d => ∃ b, d = .v (.bool b)
 | .int k, d => ∃ n, d = .v (.int k n) ∧ (Lit.int k n).wf = true
 | .arr n, d => ∃ l : List UInt8, l.length = n ∧ d = .arr n l
 | .bytes, d => ∃ l : List UInt8, l.length ≤ N ∧ d = .bs l
 | .slice b s, d => ∃ ds : List D, ds.length * b ≤ N ∧ d = .sl s.size ds ∧ ∀ x ∈ ds, s.Of N x
 | .struct ss, d => ∃ ds, d = .tup ds ∧ Sh.OfL N ss ds
def Sh.OfL (N : Nat) : List Sh → List D → Prop
 | [], ds => ds = []
 | s :: ss, ds => ∃ d rest, ds = d :: rest ∧ s.Of N d ∧ Sh.OfL N ss rest
end
theorem Sh.Is.cells : ∀ {s : Sh} {t : TypeId}, s.Is t → Tryz.prog.cellsOf t = s.size
 | .bool, t, h => by rw [Sh.Is] at h; exact h.2
 | .int k, t, h => by rw [Sh.Is] at h; exact h.2
 | .arr n, t, h => by rw [Sh.Is] at h; exact h.2
 | .bytes, t, h => by rw [Sh.Is] at h; exact h.2
 | .slice b s, t, h => by rw [Sh.Is] at h; exact h.1
 | .struct ss, t, h => by
  rw [Sh.Is] at h
  obtain ⟨fs, _, h2, _⟩ := h
  exact h2
theorem zy {ok : Nat → Prop} {w : World} {z : Nat} {Q : D → Prop} : ∀ {rows : List (List Value)}, (∀ r ∈ rows, r.length = z ∧ ∃ d, Q d ∧ Reads ok w d r) → ∃ ds, ds.length = rows.length ∧ (∀ x ∈ ds, Q x) ∧ aj ok w z ds rows
 | [], _ => ⟨[], rfl, by simp, by rw [aj]⟩
 | r :: rows, h => by
  obtain ⟨ds, h1, h2, h3⟩ := zy (rows := rows) fun r hr => h r (by simp [hr])
  obtain ⟨hz, d, hd, hr⟩ := h r (by simp)
  refine ⟨d :: ds, by simp [h1], fun x hx => ?_, by rw [aj]; exact ⟨r, rows, rfl, hz, hr, h3⟩⟩
  rcases Lj.1 hx with rfl | hx
  · exact hd
  · exact h2 x hx
section
variable {H : Type} {enc : TypeId × Value → H} {w : World} {spare : Nat → Bool} {held : Bool} {N : Nat}
mutual
theorem um : ∀ (s : Sh) (t : TypeId) (fuel : Nat) (cs : List Value) (x : DataW H × List MemPlace), s.Is t → DataW.trod enc Tryz.prog w 0 spare held fuel t cs = some x → (∀ k ∈ x.1.weights Tryz.prog t, k ≤ N) → ∃ d, s.Of N d ∧ Reads (fun b => b < w.heap.size) w d cs
 | .bool, t, fuel, cs, x, hs, h, hN => by
  rw [Sh.Is] at hs
  obtain ⟨b, rfl, _⟩ := DataW.trod_bool hs.1 h
  exact ⟨.v (.bool b), by rw [Sh.Of]; exact ⟨b, rfl⟩, by rw [Reads]; exact ⟨rfl, rfl⟩⟩
 | .int k, t, fuel, cs, x, hs, h, hN => by
  rw [Sh.Is] at hs
  obtain ⟨n, rfl, _, hw⟩ := DataW.trod_int hs.1 h
  exact ⟨.v (.int k n), by rw [Sh.Of]; exact ⟨n, rfl, hw⟩, by rw [Reads]; exact ⟨rfl, rfl⟩⟩
 | .arr n, t, fuel, cs, x, hs, h, hN => by
  rw [Sh.Is] at hs
  obtain ⟨l, hl, rfl⟩ := oQ hs.1 hs.2 h
  exact ⟨.arr n l, by rw [Sh.Of]; exact ⟨l, hl, rfl⟩, by rw [Reads]; exact ⟨hl, rfl⟩⟩
 | .bytes, t, fuel, cs, x, hs, h, hN => by
  rw [Sh.Is] at hs
  have hl : ∃ v, cs = [v] := by
   rcases DataW.trod_slice hs.1 h with ⟨hcs, _⟩ | ⟨a, len, cap, elems, rest, f, hfu, hcs, _⟩
   · exact ⟨_, hcs⟩
   · exact ⟨_, hcs⟩
  obtain ⟨v, rfl⟩ := hl
  obtain ⟨A, c, f, rows, rfl, h1, h2, h3, _, _, _, h5, h8⟩ := nZ hs.1 (by kernel_rfl : Tryz.prog.cellsOf 5 = 1) h
  obtain ⟨l, h6, h7⟩ := rG fun r hr => by
   obtain ⟨y, hy, _⟩ := h5 r hr
   exact pO hy
  rw [h7] at h3
  have hl : l.length ≤ N := by
   rw [h6]
   by_cases hr : rows = []
   · rw [hr]; simp
   ·
    obtain ⟨k, hk, hk2⟩ := h8 hr
    rw [(by kernel_rfl : Tryz.prog.bytesOf 5 = 1), Nat.mul_one] at hk2
    exact LZ hk2 (hN k hk)
  exact ⟨.bs l, by rw [Sh.Of]; exact ⟨l, hl, rfl⟩, by rw [Reads]; exact ⟨_, rfl, A, c, by rw [h6], by rw [h6]; exact h1, h2, h3⟩⟩
 | .slice b s, t, fuel, cs, x, hs, h, hN => by
  rw [Sh.Is] at hs
  obtain ⟨_, e, hu, hb, he⟩ := hs
  have hl : ∃ v, cs = [v] := by
   rcases DataW.trod_slice hu h with ⟨hcs, _⟩ | ⟨a, len, cap, elems, rest, f, hfu, hcs, _⟩
   · exact ⟨_, hcs⟩
   · exact ⟨_, hcs⟩
  obtain ⟨v, rfl⟩ := hl
  obtain ⟨A, c, f, rows, rfl, h1, h2, h3, h4, h5, _, h6, h8⟩ := nZ hu he.cells h
  obtain ⟨ds, g1, g2, g3⟩ := zy (ok := fun b => b < w.heap.size) (w := w) (z := s.size) (Q := s.Of N) fun r hr => by
   obtain ⟨y, hy, hk⟩ := h6 r hr
   exact ⟨h4 r hr, um s e f r y he hy fun k hk' => hN k (hk k hk')⟩
  have hl : ds.length * b ≤ N := by
   rw [g1, ← hb]
   by_cases hr : rows = []
   · rw [hr]; simp
   ·
    obtain ⟨k, hk, hk2⟩ := h8 hr
    exact LZ hk2 (hN k hk)
  refine ⟨.sl s.size ds, by rw [Sh.Of]; exact ⟨ds, hl, rfl, g2⟩, ?_⟩
  rw [Reads]
  exact ⟨A, c, rows, by rw [g1], by rw [g1]; exact h1, h2, fun e => by rw [g1, (h5 e).1]; exact ⟨rfl, (h5 e).2⟩, h3, g3⟩
 | .struct ss, t, fuel, cs, x, hs, h, hN => by
  rw [Sh.Is] at hs
  obtain ⟨fs, hu, hc, hf⟩ := hs
  obtain ⟨xs, n, _, hx, hl, hxl, hg⟩ := DataW.trod_struct hu h
  obtain ⟨ds, h1, h2⟩ := vS ss 0 n cs fs.toList hf (by rw [hl, hc, MH]) fun f hm => by
   obtain ⟨i, hi, rfl⟩ := Ns hm
   have hi' : i < fs.size := by simpa using hi
   have := hg i fs[i] (by rw [Nv hi'])
   rw [La (by omega)] at this
   refine ⟨_, this, fun k hk => hN k ?_⟩
   rw [hx]
   simp only [DataW.weights, hu]
   exact DataW.weights_mem_each (j := i) (t := fs[i].type) (d := xs[i].1) (by simp [Array.getElem?_eq_getElem hi']) (by rw [Ls, La (by omega)]; rfl) k hk
  exact ⟨.tup ds, by rw [Sh.Of]; exact ⟨ds, rfl, h1⟩, by rw [Reads]; simpa using h2⟩
theorem vS : ∀ (ss : List Sh) (o n : Nat) (cs : List Value) (fs : List Field), Sh.IsF ss o fs → cs.length = o + Sh.sizes ss → (∀ f ∈ fs, ∃ y, DataW.trod enc Tryz.prog w 0 spare held n f.type ((cs.drop f.offset).take (Tryz.prog.cellsOf f.type)) = some y ∧ ∀ k ∈ y.1.weights Tryz.prog f.type, k ≤ N) →
  ∃ ds, Sh.OfL N ss ds ∧ aQ (fun b => b < w.heap.size) w ds (cs.drop o)
 | [], o, n, cs, fs, hf, hl, h => ⟨[], by rw [Sh.OfL], by
  rw [aQ]
  rw [Sh.sizes] at hl
  exact NZ (by omega)⟩
 | s :: ss, o, n, cs, fs, hf, hl, h => by
  rw [Sh.IsF] at hf
  obtain ⟨f, rest, rfl, rfl, hs, hf⟩ := hf
  rw [Sh.sizes] at hl
  obtain ⟨y, hy, hk⟩ := h f (by simp)
  rw [hs.cells] at hy
  obtain ⟨d, h1, h2⟩ := um s f.type n _ y hs hy hk
  obtain ⟨ds, h3, h4⟩ := vS ss (f.offset + s.size) n cs rest hf (by omega) fun g hg => h g (by simp [hg])
  refine ⟨d :: ds, by rw [Sh.OfL]; exact ⟨d, ds, rfl, h1, h3⟩, ?_⟩
  rw [aQ]
  refine ⟨_, _, ?_, h2, h4⟩
  rw [← List.drop_drop, Nh]
end
theorem IJ {s : Sh} {d : D} (h : s.Of N d) : d.agg = s.agg := by
 cases s <;> rw [Sh.Of] at h
 ·
  obtain ⟨_, rfl⟩ := h
  rfl
 ·
  obtain ⟨_, rfl, _⟩ := h
  rfl
 ·
  obtain ⟨_, _, rfl⟩ := h
  rfl
 ·
  obtain ⟨_, _, rfl⟩ := h
  rfl
 ·
  obtain ⟨_, _, rfl, _⟩ := h
  rfl
 ·
  obtain ⟨_, rfl, _⟩ := h
  rfl
variable {r : Reach} {b0 : Nat} {v : Value} {d : DataW H} {ps : List MemPlace}
theorem CZ {s : Sh} {t : TypeId} (hs : s.Is t) (hv : Value.okWide Tryz.prog w r b0 t v) (h : DataW.Trod enc Tryz.prog w 0 spare held t v d ps) : v = if s.agg then .agg v.cells else v.cells.toList.headD undef := by
 cases s <;> rw [Sh.Is] at hs
 ·
  obtain ⟨b, rfl, _⟩ := open_bool hs.1 hv h
  rfl
 ·
  obtain ⟨n, rfl, _⟩ := open_int hs.1 hv h
  rfl
 ·
  simp only [Value.okWide, hs.1] at hv
  obtain ⟨cs, rfl, _⟩ := hv
  rfl
 ·
  obtain ⟨a, n, c, rfl⟩ := okWide_slice hs.1 hv
  rfl
 ·
  obtain ⟨_, e, hu, _, _⟩ := hs
  obtain ⟨a, n, c, rfl⟩ := okWide_slice hu hv
  rfl
 ·
  obtain ⟨fs, hu, _⟩ := hs
  simp only [Value.okWide, hu] at hv
  obtain ⟨cs, rfl, _⟩ := hv
  rfl
theorem JV {s : Sh} {t : TypeId} (hs : s.Is t) (hv : Value.okWide Tryz.prog w r b0 t v) (h : DataW.Trod enc Tryz.prog w 0 spare held t v d ps) (hN : ∀ k ∈ d.weights Tryz.prog t, k ≤ N) : ∃ D, s.Of N D ∧ bF (fun b => b < w.heap.size) w D v := by
 have h3 := CZ hs hv h
 obtain ⟨fuel, hf⟩ := h
 obtain ⟨D, h1, h2⟩ := um s t fuel _ _ hs hf hN
 refine ⟨D, h1, _, h2, ?_⟩
 unfold form
 rw [IJ h1]
 simpa using h3
end
end E
end Go.Proofs.YtohlgnfachkmaaaGreat
namespace Go.Proofs.YtohlgnfachkmaaaGreat
set_option linter.unusedVariables false
set_option maxRecDepth 100000
open Go.RowKit Mono Go.ChangeShapes Go.WideShapes Go.Deep
namespace E
def Ar : Sh := .struct [.arr 32, .arr 32]
def Df : Sh := .struct [.arr 20, .bool, .int .i64, .arr 32, .bytes, .slice 64 Ar]
def Dh : Sh := .struct [.arr 20, .int .i64, .arr 32, .bytes, .slice 64 Ar]
theorem zK : Ar.Is 86 := by
 unfold Ar
 rw [Sh.Is]
 refine ⟨_, Tryz.underlying86, by kernel_rfl, ?_⟩
 simp only [Sh.IsF, Sh.Is]
 exact ⟨_, _, rfl, rfl, ⟨Tryz.underlying23, by kernel_rfl⟩, _, _, rfl, rfl, ⟨Tryz.underlying23, by kernel_rfl⟩, rfl⟩
theorem AZ : Df.Is 97 := by
 unfold Df
 rw [Sh.Is]
 refine ⟨_, Tryz.underlying97, by kernel_rfl, ?_⟩
 simp only [Sh.IsF, Sh.Is]
 exact ⟨_, _, rfl, rfl, ⟨Tryz.underlying36, by kernel_rfl⟩, _, _, rfl, rfl, ⟨Tryz.underlying4, by kernel_rfl⟩, _, _, rfl, rfl, ⟨Tryz.underlying2, by kernel_rfl⟩, _, _, rfl, rfl, ⟨Tryz.underlying23, by kernel_rfl⟩, _, _, rfl, rfl, ⟨Tryz.underlying54, by kernel_rfl⟩, _, _, rfl, rfl, ⟨by kernel_rfl, _, Tryz.underlying55, by kernel_rfl, zK⟩, rfl⟩
theorem yP : Dh.Is 57 := by
 unfold Dh
 rw [Sh.Is]
 refine ⟨_, Tryz.underlying57, by kernel_rfl, ?_⟩
 simp only [Sh.IsF, Sh.Is]
 exact ⟨_, _, rfl, rfl, ⟨Tryz.underlying36, by kernel_rfl⟩, _, _, rfl, rfl, ⟨Tryz.underlying2, by kernel_rfl⟩, _, _, rfl, rfl, ⟨Tryz.underlying23, by kernel_rfl⟩, _, _, rfl, rfl, ⟨Tryz.underlying54, by kernel_rfl⟩, _, _, rfl, rfl, ⟨by kernel_rfl, _, Tryz.underlying55, by kernel_rfl, zK⟩, rfl⟩
theorem wP : (Sh.slice 112 Dh).Is 24 := by
 rw [Sh.Is]
 exact ⟨by kernel_rfl, _, Tryz.underlying24, by kernel_rfl, yP⟩
theorem kW {α : Type} {Q : D → Prop} {f : α → D} (h : ∀ d, Q d → ∃ a, d = f a) : ∀ {ds : List D}, (∀ x ∈ ds, Q x) → ∃ rs : List α, ds = rs.map f
 | [], _ => ⟨[], rfl⟩
 | d :: ds, hd => by
  obtain ⟨a, rfl⟩ := h d (hd d (by simp))
  obtain ⟨rs, rfl⟩ := kW h fun x hx => hd x (Lu _ hx)
  exact ⟨a :: rs, rfl⟩
variable {N : Nat}
theorem zD {d : D} (h : Ar.Of N d) : ∃ s, d = aA s := by
 unfold Ar at h
 simp only [Sh.Of, Sh.OfL] at h
 obtain ⟨_, rfl, _, _, rfl, ⟨k, h1, rfl⟩, _, _, rfl, ⟨v, h2, rfl⟩, rfl⟩ := h
 exact ⟨(k, v), rfl⟩
theorem AB {d : D} (h : Df.Of N d) : ∃ c : ChL, d = fV c := by
 unfold Df at h
 simp only [Sh.Of, Sh.OfL] at h
 obtain ⟨_, rfl, _, _, rfl, ⟨a, h1, rfl⟩, _, _, rfl, ⟨g, rfl⟩, _, _, rfl, ⟨n, rfl, hn⟩, _, _, rfl, ⟨b, h2, rfl⟩, _, _, rfl, ⟨c, hc, rfl⟩, _, _, rfl, ⟨ss, hl, rfl, hs⟩, rfl⟩ := h
 obtain ⟨ss, rfl⟩ := kW (fun _ => zD) hs
 exact ⟨⟨a, g, n, b, c, ss⟩, rfl⟩
theorem yJ {d : D} (h : Dh.Of N d) : ∃ c : AcL, d = ak c := by
 unfold Dh at h
 simp only [Sh.Of, Sh.OfL] at h
 obtain ⟨_, rfl, _, _, rfl, ⟨a, h1, rfl⟩, _, _, rfl, ⟨n, rfl, hn⟩, _, _, rfl, ⟨b, h2, rfl⟩, _, _, rfl, ⟨c, hc, rfl⟩, _, _, rfl, ⟨ss, hl, rfl, hs⟩, rfl⟩ := h
 obtain ⟨ss, rfl⟩ := kW (fun _ => zD) hs
 exact ⟨⟨a, n, b, c, ss⟩, rfl⟩
theorem DF (l : List Nat) : ∀ k ∈ l, k ≤ l.sum := by
 induction l with
 | nil => intro k hk; cases hk
 | cons a l ih =>
  intro k hk
  rw [List.sum_cons]
  rcases Lj.1 hk with rfl | hk
  · omega
  ·
   have := ih k hk
   omega
end E
def oH (w : World) (v : Value) : Prop := ∃ l : List E.AcL, E.bF (fun b => b < w.heap.size) w (.sl 55 (l.map E.ak)) v
section
variable {H : Type} {enc : TypeId × Value → H} {w : World} {spare : Nat → Bool} {held : Bool} {r : Reach} {b0 : Nat} {v : Value} {d : DataW H} {ps : List MemPlace}
theorem I7 (hv : Value.okWide Tryz.prog w r b0 24 v) (h : DataW.Trod enc Tryz.prog w 0 spare held 24 v d ps) : oH w v := by
 obtain ⟨D, h1, h2⟩ := E.JV E.wP hv h (E.DF _)
 rw [E.Sh.Of] at h1
 obtain ⟨ds, _, rfl, h3⟩ := h1
 obtain ⟨l, rfl⟩ := E.kW (fun _ => E.yJ) h3
 exact ⟨l, h2⟩
end
namespace E
def Dc : Sh := .struct [.arr 32, .arr 32, .slice 112 Df]
def C9 : Sh := .struct [.int .i64, Dc, .arr 32, .arr 20, .arr 32]
theorem Gx : Dc.Is 34 := by
 unfold Dc
 rw [Sh.Is]
 refine ⟨_, Tryz.underlying34, by kernel_rfl, ?_⟩
 simp only [Sh.IsF, Sh.Is]
 exact ⟨_, _, rfl, rfl, ⟨Tryz.underlying23, by kernel_rfl⟩, _, _, rfl, rfl, ⟨Tryz.underlying23, by kernel_rfl⟩, _, _, rfl, rfl, ⟨by kernel_rfl, _, Tryz.underlying32, by kernel_rfl, AZ⟩, rfl⟩
theorem Gw : C9.Is 38 := by
 unfold C9
 rw [Sh.Is]
 refine ⟨_, Tryz.underlying38, by kernel_rfl, ?_⟩
 simp only [Sh.IsF]
 refine ⟨_, _, rfl, rfl, ?_, _, _, rfl, rfl, Gx, _, _, rfl, rfl, ?_, _, _, rfl, rfl, ?_, _, _, rfl, rfl, ?_, rfl⟩
 · rw [Sh.Is]; exact ⟨Tryz.underlying3, by kernel_rfl⟩
 · rw [Sh.Is]; exact ⟨Tryz.underlying23, by kernel_rfl⟩
 · rw [Sh.Is]; exact ⟨Tryz.underlying36, by kernel_rfl⟩
 · rw [Sh.Is]; exact ⟨Tryz.underlying23, by kernel_rfl⟩
theorem DK : (Sh.slice 184 C9).Is 25 := by
 rw [Sh.Is]
 exact ⟨by kernel_rfl, _, Tryz.underlying25, by kernel_rfl, Gw⟩
variable {N : Nat}
theorem Gl {d : D} (h : Dc.Of N d) : ∃ (a b : List UInt8) (l : List ChL), d = dDf a b l := by
 unfold Dc at h
 simp only [Sh.Of, Sh.OfL] at h
 obtain ⟨_, rfl, _, _, rfl, ⟨a, h1, rfl⟩, _, _, rfl, ⟨b, h2, rfl⟩, _, _, rfl, ⟨ss, hl, rfl, hs⟩, rfl⟩ := h
 obtain ⟨l, rfl⟩ := kW (fun _ => AB) hs
 exact ⟨a, b, l, rfl⟩
theorem Gj {d : D} (h : C9.Of N d) : ∃ x : SaL, d = uQ x := by
 unfold C9 at h
 rw [Sh.Of] at h
 simp only [Sh.OfL] at h
 obtain ⟨_, rfl, _, _, rfl, hy, _, _, rfl, hd, _, _, rfl, ht, _, _, rfl, ha, _, _, rfl, hk, rfl⟩ := h
 obtain ⟨a, b, l, rfl⟩ := Gl hd
 simp only [Sh.Of] at hy ht ha hk
 obtain ⟨y, rfl, _⟩ := hy
 obtain ⟨t, _, rfl⟩ := ht
 obtain ⟨c, _, rfl⟩ := ha
 obtain ⟨k, _, rfl⟩ := hk
 exact ⟨⟨y, a, b, l, t, c, k⟩, rfl⟩
end E
def l9 (w : World) (v : Value) : Prop := ∃ l : List E.SaL, E.bF (fun b => b < w.heap.size) w (.sl 150 (l.map E.uQ)) v
section
variable {H : Type} {enc : TypeId × Value → H} {w : World} {spare : Nat → Bool} {held : Bool} {r : Reach} {b0 : Nat} {v : Value} {d : DataW H} {ps : List MemPlace}
theorem Gm (hv : Value.okWide Tryz.prog w r b0 25 v) (h : DataW.Trod enc Tryz.prog w 0 spare held 25 v d ps) : l9 w v := by
 obtain ⟨D, h1, h2⟩ := E.JV E.DK hv h (E.DF _)
 rw [E.Sh.Of] at h1
 obtain ⟨ds, _, rfl, h3⟩ := h1
 obtain ⟨l, rfl⟩ := E.kW (fun _ => E.Gj) h3
 exact ⟨l, h2⟩
end
end Go.Proofs.YtohlgnfachkmaaaGreat
namespace Go.Proofs.YtohlgnfachkmaaaGreat
set_option linter.unusedVariables false
open Go.RowKit Mono
namespace E
theorem AU {f : FuncId} {ds : List D} {xs : List Value} {w : World} (h : FnM f ds [] (fun r os' => r = .val (.v (.bool true)) ∧ os' = [])) (hr : bJ (fun b => b < w.heap.size) w ds xs) : Calls Tryz.prog f xs.toArray w fun e w' => e = .returned (.bool true) ∧ Below w.heap.size w w' :=
 (h.go _ w xs (fun b hb => hb) ⟨fun o ho => by simp at ho, .nil, fun b ⟨o, ho, _⟩ => by simp at ho⟩ hr).mono fun e w' ⟨v, r, os', he, ⟨h1, h2⟩, ht, hv⟩ => by
  subst he h1
  have hg := ht.gr.gr fun b ⟨o, ho, _⟩ => by simp at ho
  exact ⟨by rw [(aG.1 hv).2], hg⟩
theorem EF {ok : Nat → Prop} {w : World} {n : Nat} {l : List UInt8} (h : l.length = n) : bF ok w (.arr n l) (aT l) := ⟨bvs l, by rw [Reads]; exact ⟨h, rfl⟩, rfl⟩
end E
end Go.Proofs.YtohlgnfachkmaaaGreat
