/-
 Merged: lemmas of this claim.
 Conditions: none.
-/
import Derived.Test.YtohlgnfachkmaaaGreatZA11
import Derived.Test.YtohlgnfachkmaaaGreatZA16
import Derived.Test.YtohlgnfachkmaaaGreatZA13
import Derived.Lib.SliceRun
import Derived.Lib.AppendZeros
import Derived.Test.YtohlgnfachkmaaaGreatZA15
import Derived.Test.YtohlgnfachkmaaaGreatZA6
import Derived.Test.YtohlgnfachkmaaaGreatZA12
import Derived.Test.YtohlgnfachkmaaaGreatZA0
namespace Go.Proofs.YtohlgnfachkmaaaGreat
set_option linter.unusedVariables false
set_option maxRecDepth 20000
set_option maxHeartbeats 16000000
open Go.RowKit Mono Rlp Wd Go.Sort
namespace E
def slF (sl : List (List UInt8 × List UInt8)) : List UInt8 → List UInt8 := sl.foldl (fun f p => fun k => if p.1 = k then p.2 else f k) fun _ => zero32
def AcL.take (x : AcL) : Ac := ⟨if x.n > 0 then x.n else 0, x.w, x.cd, slF x.sl⟩
def dH (l : List AcL) : As := l.foldl (fun A x => A.upd x.a x.take) fun _ => Ac.zero
theorem su (l : List AcL) (x : AcL) : dH (l ++ [x]) = (dH l).upd x.a x.take := by unfold dH; rw [List.foldl_append]; rfl
theorem CX (l : List (List UInt8 × List UInt8)) (p : List UInt8 × List UInt8) : slF (l ++ [p]) = fun k => if p.1 = k then p.2 else slF l k := by unfold slF; rw [List.foldl_append]; rfl
structure BG (ss : List Ent) (f : List UInt8 → List UInt8) (N : Nat) : Prop where
 sl : ∀ k, slE ss k = .arr 32 (f k)
 ent : ∀ e ∈ ss, ∃ v, e.2.2 = .arr 32 v ∧ v ≠ zero32
 nod : (ss.map (·.2.1)).Nodup
 len : ss.length ≤ N
theorem BG.nil : BG [] (slF []) 0 := ⟨fun k => rfl, fun e he => by simp at he, Nb, LG _⟩
theorem set_any {ga gs sc N : Nat} {b : Int} {w cd : List UInt8} {ss : List Ent} {f : List UInt8 → List UInt8} (h : BG ss f N) (q v : List UInt8) : FnM 56 [.v (ptr ga), .arr 32 q, .arr 32 v] [acO ga b w cd (.map (some gs)), .map gs 32 sc ss] (fun r os' => r = .tpl [] ∧ ∃ sc' ss', BG ss' (fun k => if q = k then v else f k) (N + 1) ∧ os' = [acO ga b w cd (.map (some gs)), .map gs 32 sc' ss']) := by
 by_cases hv : v = zero32
 ·
  subst hv
  refine FnM.mono uq ?_
  rintro r _ ⟨rfl, rfl⟩
  refine ⟨rfl, sc, _, ⟨fun k => ?_, fun e he => h.ent e ((eP _ _).subset he), h.nod.sublist ((eP _ _).map _), LZ (kM _ _) (N8 h.len)⟩, rfl⟩
  rw [zq _ _ _ h.nod, h.sl k]
  split <;> rfl
 ·
  refine FnM.mono (uo (by simpa using hv)) ?_
  rintro r _ ⟨rfl, rfl⟩
  refine ⟨rfl, _, _, ⟨fun k => ?_, fun e he => ?_, dO _ _ _ _ h.nod, LZ (cZ _ _ _ _) (NM h.len)⟩, rfl⟩
  ·
   rw [uh, h.sl k]
   split <;> rfl
  ·
   rcases qA _ _ _ _ _ he with he | he
   · exact h.ent e he
   · exact ⟨v, he, hv⟩
theorem EK.apart {N : Nat} {X : Cx N} {K : Act → World → Prop} {S : St} (h : Apart S.objs → EK X K S) : EK X K S := ⟨fun a w ha => (h ha.mem.apart).go a w ha⟩
theorem JX (l : List AcL) (B : Nat) (hll : l.length ≤ 1000000) (hB : ∀ x ∈ l, x.sl.length ≤ B ∧ x.cd.length ≤ 140737488355328) (hB2 : B ≤ 1000000) : FnM 28 [.sl 55 (l.map ak)] [] (fun r os' => ∃ g m c es ps, r = .val (.v (ptr g)) ∧ os' = psO g m c es dn dn 0 [] ps ∧ rH es ps (dH l) (B + l.length)) := by
 have hml : (l.map ak).length = l.length := Lc _
 refine FnM.walk 52 Tryz.func28 rfl Tryz.ntmps28 (by simp) fun X => ?_
 repeat (refine stp ?_; intros)
 rename_i m g
 refine EC.loop (ι := {x : Nat × Nat × List Ent × List PA // x.1 ≤ l.length ∧ rH x.2.2.1 x.2.2.2 (dH (l.take x.1)) (B + x.1)})
  (fun x => ⟨[(14, .val (.v (.int .i64 (x.1.1 : Int)))), (13, .val (.v (.int .i64 (l.map ak).length))), (12, .val (.sl 55 (l.map ak))), (3, .val (.v (ptr g)))], stO g m dn dn 0 :: smO m x.1.2.1 x.1.2.2.1 :: x.1.2.2.2.flatMap PA.os, []⟩)
  (fun x => l.length - x.1.1) ⟨(0, 0, [], []), LH _, ⟨fun a h => rfl, fun a d h => by simp [aC] at h, fun a b d h => by simp [aC] at h, Nb, LH _⟩⟩ ?_ ?_
 · exact (Le.keep (by repeat first | exact trivial | refine ⟨rfl, ?_⟩) (by repeat first | exact LM _ | apply List.Sublist.cons_cons | apply List.Sublist.cons) (by simp))
 rintro ⟨⟨i, c, es, ps⟩, hil, hi⟩
 dsimp only at hil hi ⊢
 by_cases hlt : i < l.length
 ·
  have hd : (l.map ak)[i]? = some (ak l[i]) := by rw [Ls, La hlt]; rfl
  have hBi := hB l[i] (MB hlt)
  have htk : l.take (i + 1) = l.take i ++ [l[i]] := Lm hlt
  generalize l[i] = x at hd hBi htk
  obtain ⟨xa, xn, xw, xc, xs⟩ := x
  unfold ak at hd
  dsimp only at hd hBi
  have hcl := mJ xc hBi.2
  repeat (refine stp ?_; intros)
  rename_i g5
  refine EC.aZ 11 [0, 1, 2, 3, 4, 5, 6, 7] [8, 9, 10] [] _ (by kernel_rfl) (by kernel_rfl) rfl ?_
  simp only [au, KW, KY, KT, KU]
  repeat
   (first
    | (refine dB (hcl) (kk := ?_)) | (refine sth ?_; intros))
  refine EM.nil ?_
  repeat (first | rw [KN] | rw [KO])
  refine CH.mut (os := []) (rest := []) rfl rfl (dW rfl rfl) ?_
  rintro _ _ ⟨gs, rfl, rfl⟩
  try simp only [St.put]
  repeat (first | rw [KN] | rw [KO])
  refine CH.cut 1 ?_
  simp only [KQ, KX, KP, KR]
  repeat (refine sth ?_; intros)
  refine EM.nil ?_
  repeat (first | rw [KN] | rw [KO])
  refine CH.mut (os := []) (rest := [_]) rfl rfl (lG rfl rfl) ?_
  rintro _ _ ⟨gx, rfl, rfl⟩
  try simp only [St.put]
  repeat (first | rw [KN] | rw [KO])
  refine CH.nil ?_
  try simp only [KP, KR]
  repeat (refine stp ?_; intros)
  have hmx : (xs.map aA).length = xs.length := Lc _
  refine EC.loop (ι := {x : Nat × Nat × List Ent // x.1 ≤ xs.length ∧ BG x.2.2 (slF (xs.take x.1)) x.1})
   (fun x => ⟨[(32, .val (.v (.int .i64 (x.1.1 : Int)))), (31, .val (.v (.int .i64 (xs.map aA).length))), (30, .val (.sl 64 (xs.map aA))), (14, .val (.v (.int .i64 (i : Int)))), (13, .val (.v (.int .i64 (l.map ak).length))), (12, .val (.sl 55 (l.map ak))), (6, .val (.v (ptr gx))), (5, .val (.v (ptr g5))), (3, .val (.v (ptr g)))], acO gx (if xn > 0 then xn else 0) xw xc (.map (some gs)) :: .map gs 32 x.1.2.1 x.1.2.2 :: .var g5 57 (.tup [.arr 20 xa, .v (.int .i64 xn), .arr 32 xw, .bs xc, .sl 64 (xs.map aA)]) :: stO g m dn dn 0 :: smO m c es :: ps.flatMap PA.os, []⟩)
   (fun x => xs.length - x.1.1) ⟨(0, 0, []), LH _, BG.nil⟩ ?_ ?_
  · exact (Le.keep (by repeat first | exact trivial | refine ⟨rfl, ?_⟩) (by repeat first | exact LM _ | apply List.Sublist.cons_cons | apply List.Sublist.cons) (by simp))
  rintro ⟨⟨j, sc, ss⟩, hjl, hss⟩
  dsimp only at hjl hss ⊢
  by_cases hlj : j < xs.length
  ·
   have hd2 : (xs.map aA)[j]? = some (aA xs[j]) := by rw [Ls, La hlj]; rfl
   have htk2 : xs.take (j + 1) = xs.take j ++ [xs[j]] := Lm hlj
   generalize xs[j] = y at hd2 htk2
   obtain ⟨q, v⟩ := y
   unfold aA at hd2
   dsimp only at hd2
   have hset := set_any (ga := gx) (gs := gs) (sc := sc) (b := if xn > 0 then xn else 0) (w := xw) (cd := xc) hss q v
   repeat
    (first
     | (apply dU hset [_] _ rfl rfl (ah.refl _ _) (by intro _ _; simp [go_sem]) rfl rfl; rintro _ _ ⟨rfl, sc', ss', hss', rfl⟩; simp only [KN, KO])
     | (refine stp ?_; intros))
   refine EK.again ⟨(j + 1, sc', ss'), hlj, by rw [htk2, CX]; exact hss'⟩ (by dsimp only; omega) ?_
   simp only [LK]
   exact (Le.keep (by repeat first | exact trivial | refine ⟨rfl, ?_⟩) (by repeat first | exact LM _ | apply List.Sublist.cons_cons | apply List.Sublist.cons) (by simp))
  ·
   have hjE : j = xs.length := by omega
   subst hjE
   rw [L9] at hss
   repeat (refine stp ?_; intros)
   refine EC.draw 7 (by kernel_rfl) ?_
   simp only [KQ, KX, KP, KR]
   repeat (refine sth ?_; intros)
   repeat (refine stp ?_; intros)
   refine EK.le (Le.oG [3, 4, 0, 1, 2] [_, _, _, _, _] [_, _, _, _, _] (_) rfl rfl (by decide) rfl) ?_
   try simp only [KN, KO]
   refine EK.apart fun hap => ?_
   have hnew : ∀ q ∈ ps, q.g ≠ gx := fun q hq e => by
    have hap' : Apart (stO g m dn dn 0 :: smO m (aU c es xa) (aX c es xa (.v (ptr gx))) :: acO gx (if xn > 0 then xn else 0) xw xc (.map (some gs)) :: .map gs 32 sc ss :: .var g5 57 (.tup [.arr 20 xa, .v (.int .i64 xn), .arr 32 xw, .bs xc, .sl 64 (xs.map aA)]) :: ps.flatMap PA.os) := hap
    have h1 := (Mc.1 (Mc.1 (Mc.1 hap').2).2).1 (acO q.g q.n q.w q.cd (.map (some q.gs))) (Lu _ (Lu _ (List.mem_flatMap.2 ⟨q, hq, by simp [PA.os]⟩))) gx rfl
    exact h1 (by simp [Obj.blk, e])
   refine EK.again ⟨(i + 1, aU c es xa, aX c es xa (.v (ptr gx)), ⟨gx, if xn > 0 then xn else 0, xw, xc, gs, sc, ss⟩ :: ps), hlt, ?_⟩ (by dsimp only; omega) ?_
   ·
    rw [htk, su]
    exact hi.fresh (a := xa) (p' := ⟨gx, if xn > 0 then xn else 0, xw, xc, gs, sc, ss⟩) (x := AcL.take ⟨xa, xn, xw, xc, xs⟩) (fun b => bU c es xa b _) (dO _ _ _ _ hi.nod) (LZ (cZ _ _ _ _) (NM hi.len)) ⟨rfl, rfl, rfl, hss.sl, hss.ent, hss.nod, by have := hss.len; dsimp only; omega, hBi.2⟩ hnew
   ·
    simp only [LK, List.flatMap_cons, PA.os, KN, KO]
    exact (Le.keep (by repeat first | exact trivial | refine ⟨rfl, ?_⟩) (by repeat first | exact LM _ | apply List.Sublist.cons_cons | apply List.Sublist.cons) (by simp))
 ·
  have hiE : i = l.length := by omega
  subst hiE
  rw [L9] at hi
  repeat (refine stp ?_; intros)
  refine EK.le (Le.row 174 1) ?_
  refine EK.le (Le.row 169 2) ?_
  refine EK.le (Le.oG [2, 3, 1, 0] [_, _, _, _] [_, _, _, _] (_) rfl rfl (by decide) rfl) ?_
  try simp only [KN, KO]
  exact EK.aI (psO g m c es dn dn 0 [] ps) rfl rfl (LM _) ⟨g, m, c, es, ps, rfl, rfl, hi⟩
theorem JY (l : List AcL) (B : Nat) (hll : l.length ≤ 1000000) (hB : ∀ x ∈ l, x.sl.length ≤ B ∧ x.cd.length ≤ 140737488355328) (hB2 : B ≤ 1000000) : FnM 28 [.sl 55 (l.map ak)] [] (fun r os' => ∃ g, r = .val (.v (ptr g)) ∧ PSt g (dH l) (B + l.length) os') :=
 FnM.mono (JX l B hll hB hB2) fun r os' ⟨g, m, c, es, ps, hr, ho, hi⟩ => ⟨g, hr, m, c, es, dn, dn, 0, [], ps, ho, hi, by decide⟩
section
variable {N : Nat} {X : Cx N} {ops : Array Oper} {Q : Exit → Act → World → Prop}
theorem bG {l' : List Oper} {t ty f : Nat} {pos : String} {af : Array Edge} {gd : Option (Nat × Bool)} {args : Array Operand} {tys : Array TypeId} {ds ds' : List D} {Φ : R → List Obj → Prop} {rs : List (Tmp × R)} {os os0 : List Obj} {fs : List (Value × D)} (hF : FnM f ds' os Φ) (l1 : List Obj) (hos : os0 = l1 ++ os)
  (hx : evs (⟨rs, l1, fs⟩ : St) args.toList = some ds) (hR : ah fs ds ds') (hf : Enters f) (hg : guardOf ops ⟨rs, os ++ l1, fs⟩ ⟨some t, .call { callee := .value (.func f), args := args, argTypes := tys }, ty, pos, af, gd⟩ = some true) (hN : Nat.blt t N = true) (k : ∀ r os', Φ r os' → EL X ops Q l' ⟨(t, r) :: rs, l1 ++ os', fs⟩) : EL X ops Q (⟨some t, .call { callee := .value (.func f), args := args, argTypes := tys }, ty, pos, af, gd⟩ :: l') ⟨rs, os0, fs⟩ := by
 subst hos
 exact EL.le (Le.perm MG) (aH hF rfl hx hR hf hg hN fun r os' h => EL.le (Le.perm MG) (k r os' h))
end
theorem PA.Is.mono {p : PA} {x : Ac} {N M : Nat} (h : p.Is x N) (hm : N ≤ M) : p.Is x M := ⟨h.n, h.w, h.cd, h.sl, h.ent, h.nod, LZ h.len hm, h.cl⟩
theorem PSt.mono {g N M : Nat} {A : As} {os : List Obj} (h : PSt g A N os) (hm : N ≤ M) : PSt g A M os := by
 obtain ⟨m, c, es, u, k, n, us, ps, h1, hi, hu⟩ := h
 exact ⟨m, c, es, u, k, n, us, ps, h1, ⟨hi.out, fun a d h => by obtain ⟨p, h1, h2, h3⟩ := hi.inn a d h; exact ⟨p, h1, h2, h3.mono hm⟩, hi.inj, hi.nod, LZ hi.len hm⟩, hu⟩
structure ChL where
 a : List UInt8
 gone : Bool
 n : Int
 w : List UInt8
 cd : List UInt8
 sl : List (List UInt8 × List UInt8)
def fV (c : ChL) : D := .tup [.arr 20 c.a, .v (.bool c.gone), .v (.int .i64 c.n), .arr 32 c.w, .bs c.cd, .sl 64 (c.sl.map aA)]
def ChL.base (c : ChL) (A : As) : As :=
 let A1 := if c.gone = true then A.upd c.a Ac.zero else A
 let A2 := A1.upd c.a {A1 c.a with n := if c.n > 0 then c.n else 0}
 let A3 := A2.upd c.a {A2 c.a with w := c.w}
 A3.upd c.a {A3 c.a with cd := c.cd}
def eY (a : List UInt8) (sl : List (List UInt8 × List UInt8)) (A : As) : As := sl.foldl (fun A p => A.upd a ((A a).slot p.1 p.2)) A
def ChL.of (c : ChL) (A : As) : As := eY c.a c.sl (c.base A)
theorem gB (a : List UInt8) (sl : List (List UInt8 × List UInt8)) (p : List UInt8 × List UInt8) (A : As) : eY a (sl ++ [p]) A = (eY a sl A).upd a ((eY a sl A a).slot p.1 p.2) := by unfold eY; rw [List.foldl_append]; rfl
theorem Jq {g N : Nat} {A : As} {os : List Obj} (h : PSt g A N os) (c : ChL) (hc : c.cd.length ≤ 140737488355328) (hs : c.sl.length ≤ 1000000) : FnM 87 [.v (ptr g), fV c] os (fun r os' => r = .tpl [] ∧ PSt g (c.of A) (N + 4 + c.sl.length) os') := by
 obtain ⟨ca, cg, cn, cw, cc, cs⟩ := c
 dsimp only at hc hs
 have hml : (cs.map aA).length = cs.length := Lc _
 unfold fV ChL.of
 dsimp only
 refine FnM.walk 46 Tryz.func87 rfl Tryz.ntmps87 (by simp) fun X => ?_
 cases cg with
 | true =>
  repeat
   (first
    | (apply bG (Gg h (a := ca)) [_] rfl rfl (ah.refl _ _) (by intro _ _; simp [go_sem]) rfl rfl; rintro _ os1 ⟨rfl, h1⟩; simp only [KN, KO])
    | (apply bG (oD h1 (a := ca) cn) [_] rfl rfl (ah.refl _ _) (by intro _ _; simp [go_sem]) rfl rfl; rintro _ os2 ⟨rfl, h2⟩; simp only [KN, KO])
    | (apply bG (lC h2 (a := ca) cw) [_] rfl rfl (ah.refl _ _) (by intro _ _; simp [go_sem]) rfl rfl; rintro _ os3 ⟨rfl, h3⟩; simp only [KN, KO])
    | (apply bG (qw h3 (a := ca) cc hc) [_] rfl rfl (ah.refl _ _) (by intro _ _; simp [go_sem]) rfl rfl; rintro _ os4 ⟨rfl, h4⟩; simp only [KN, KO])
    | (refine stp ?_; intros))
  have h5 : PSt g (ChL.base ⟨ca, true, cn, cw, cc, cs⟩ A) (N + 4) os4 := h4
  generalize ChL.base ⟨ca, true, cn, cw, cc, cs⟩ A = A4 at h5 ⊢
  clear h1 h2 h3 h4
  rename_i g3
  refine EC.loop (ι := {x : Nat × List Obj // x.1 ≤ cs.length ∧ PSt g (eY ca (cs.take x.1) A4) (N + 4 + x.1) x.2})
   (fun x => ⟨[(33, .val (.v (.int .i64 (x.1.1 : Int)))), (32, .val (.v (.int .i64 (cs.map aA).length))), (31, .val (.sl 64 (cs.map aA))), (3, .val (.v (ptr g3))), (0, .val (.v (ptr g)))], .var g3 97 (.tup [.arr 20 ca, .v (.bool true), .v (.int .i64 cn), .arr 32 cw, .bs cc, .sl 64 (cs.map aA)]) :: x.1.2, []⟩)
   (fun x => cs.length - x.1.1) ⟨(0, os4), LH _, h5⟩ ?_ ?_
  · exact (Le.keep (by repeat first | exact trivial | refine ⟨rfl, ?_⟩) (by repeat first | exact LM _ | apply List.Sublist.cons_cons | apply List.Sublist.cons) (by simp))
  rintro ⟨⟨j, os5⟩, hjl, h6⟩
  dsimp only at hjl h6 ⊢
  by_cases hlj : j < cs.length
  ·
   have hd2 : (cs.map aA)[j]? = some (aA cs[j]) := by rw [Ls, La hlj]; rfl
   have htk2 : cs.take (j + 1) = cs.take j ++ [cs[j]] := Lm hlj
   generalize cs[j] = y at hd2 htk2
   obtain ⟨q, v⟩ := y
   unfold aA at hd2
   dsimp only at hd2
   repeat
    (first
     | (apply bG (qp h6 (a := ca) q v) [_, _] rfl rfl (ah.refl _ _) (by intro _ _; simp [go_sem]) rfl rfl; rintro _ os6 ⟨rfl, h7⟩; simp only [KN, KO])
     | (refine stp ?_; intros))
   refine EK.again ⟨(j + 1, os6), hlj, by rw [htk2, gB]; exact h7⟩ (by dsimp only; omega) ?_
   simp only [LK]
   exact (Le.keep (by repeat first | exact trivial | refine ⟨rfl, ?_⟩) (by repeat first | exact LM _ | apply List.Sublist.cons_cons | apply List.Sublist.cons) (by simp))
  ·
   have hjE : j = cs.length := by omega
   subst hjE
   rw [L9] at h6
   repeat (refine stp ?_; intros)
   exact EK.cO os5 rfl (by (repeat first | exact LM _ | apply List.Sublist.cons_cons | apply List.Sublist.cons)) ⟨rfl, h6⟩
 | false =>
  repeat
   (first
    | (apply bG (oD h (a := ca) cn) [_] rfl rfl (ah.refl _ _) (by intro _ _; simp [go_sem]) rfl rfl; rintro _ os2 ⟨rfl, h2⟩; simp only [KN, KO])
    | (apply bG (lC h2 (a := ca) cw) [_] rfl rfl (ah.refl _ _) (by intro _ _; simp [go_sem]) rfl rfl; rintro _ os3 ⟨rfl, h3⟩; simp only [KN, KO])
    | (apply bG (qw h3 (a := ca) cc hc) [_] rfl rfl (ah.refl _ _) (by intro _ _; simp [go_sem]) rfl rfl; rintro _ os4 ⟨rfl, h4⟩; simp only [KN, KO])
    | (refine stp ?_; intros))
  have h5 : PSt g (ChL.base ⟨ca, false, cn, cw, cc, cs⟩ A) (N + 4) os4 := h4.mono (by omega)
  generalize ChL.base ⟨ca, false, cn, cw, cc, cs⟩ A = A4 at h5 ⊢
  clear h2 h3 h4
  rename_i g3
  refine EC.loop (ι := {x : Nat × List Obj // x.1 ≤ cs.length ∧ PSt g (eY ca (cs.take x.1) A4) (N + 4 + x.1) x.2})
   (fun x => ⟨[(33, .val (.v (.int .i64 (x.1.1 : Int)))), (32, .val (.v (.int .i64 (cs.map aA).length))), (31, .val (.sl 64 (cs.map aA))), (3, .val (.v (ptr g3))), (0, .val (.v (ptr g)))], .var g3 97 (.tup [.arr 20 ca, .v (.bool false), .v (.int .i64 cn), .arr 32 cw, .bs cc, .sl 64 (cs.map aA)]) :: x.1.2, []⟩)
   (fun x => cs.length - x.1.1) ⟨(0, os4), LH _, h5⟩ ?_ ?_
  · exact (Le.keep (by repeat first | exact trivial | refine ⟨rfl, ?_⟩) (by repeat first | exact LM _ | apply List.Sublist.cons_cons | apply List.Sublist.cons) (by simp))
  rintro ⟨⟨j, os5⟩, hjl, h6⟩
  dsimp only at hjl h6 ⊢
  by_cases hlj : j < cs.length
  ·
   have hd2 : (cs.map aA)[j]? = some (aA cs[j]) := by rw [Ls, La hlj]; rfl
   have htk2 : cs.take (j + 1) = cs.take j ++ [cs[j]] := Lm hlj
   generalize cs[j] = y at hd2 htk2
   obtain ⟨q, v⟩ := y
   unfold aA at hd2
   dsimp only at hd2
   repeat
    (first
     | (apply bG (qp h6 (a := ca) q v) [_, _] rfl rfl (ah.refl _ _) (by intro _ _; simp [go_sem]) rfl rfl; rintro _ os6 ⟨rfl, h7⟩; simp only [KN, KO])
     | (refine stp ?_; intros))
   refine EK.again ⟨(j + 1, os6), hlj, by rw [htk2, gB]; exact h7⟩ (by dsimp only; omega) ?_
   simp only [LK]
   exact (Le.keep (by repeat first | exact trivial | refine ⟨rfl, ?_⟩) (by repeat first | exact LM _ | apply List.Sublist.cons_cons | apply List.Sublist.cons) (by simp))
  ·
   have hjE : j = cs.length := by omega
   subst hjE
   rw [L9] at h6
   repeat (refine stp ?_; intros)
   exact EK.cO os5 rfl (by (repeat first | exact LM _ | apply List.Sublist.cons_cons | apply List.Sublist.cons)) ⟨rfl, h6⟩
def dw (A : As) (ch : List ChL) : As := ch.foldl (fun A c => c.of A) A
theorem oU (A : As) (ch : List ChL) (c : ChL) : dw A (ch ++ [c]) = c.of (dw A ch) := by unfold dw; rw [List.foldl_append]; rfl
theorem G9 (l : List AcL) (ch : List ChL) (id par : List UInt8) (hl : l.length ≤ 1000) (hls : ∀ x ∈ l, x.sl.length ≤ 20000 ∧ x.cd.length ≤ 140737488355328) (hc : ch.length ≤ 100) (hcs : ∀ c ∈ ch, c.sl.length ≤ 1000 ∧ c.cd.length ≤ 140737488355328) : FnM 38 [.sl 55 (l.map ak), .tup [.arr 32 id, .arr 32 par, .sl 56 (ch.map fV)]] [] (fun r os' => (∃ L, Canon (dw (dH l) ch) L ∧ L.length ≤ 1000000 ∧ (∀ x ∈ L, x.sl.length ≤ 1000000) ∧ r = .val (.sl 55 (L.map ak))) ∧ os' = []) := by
 have h1 := JY l 20000 (by omega) hls (by omega)
 have hml : (ch.map fV).length = ch.length := Lc _
 refine FnM.walk 23 Tryz.func38 rfl Tryz.ntmps38 (by simp) fun X => ?_
 repeat
  (first
   | (refine aH (os := []) h1 (kk := ?_); rintro _ os1 ⟨g, rfl, hp⟩; refine EL.le (Le.perm MG) ?_; simp only [KN, KO])
   | (refine stp ?_; intros))
 rename_i g3
 refine EC.loop (ι := {x : Nat × List Obj // x.1 ≤ ch.length ∧ PSt g (dw (dH l) (ch.take x.1)) (20000 + l.length + x.1 * 1004) x.2})
  (fun x => ⟨[(13, .val (.v (.int .i64 (x.1.1 : Int)))), (12, .val (.v (.int .i64 (ch.map fV).length))), (11, .val (.sl 56 (ch.map fV))), (5, .val (.v (ptr g)))], x.1.2, []⟩)
  (fun x => ch.length - x.1.1) ⟨(0, os1), LH _, hp⟩ ?_ ?_
 · exact (Le.keep (by repeat first | exact trivial | refine ⟨rfl, ?_⟩) (by repeat first | exact LM _ | apply List.Sublist.cons_cons | apply List.Sublist.cons) (by simp))
 rintro ⟨⟨i, os2⟩, hil, hp2⟩
 dsimp only at hil hp2 ⊢
 by_cases hlt : i < ch.length
 ·
  have hd : (ch.map fV)[i]? = some (fV ch[i]) := by rw [Ls, La hlt]; rfl
  have hci := hcs ch[i] (MB hlt)
  have htk : ch.take (i + 1) = ch.take i ++ [ch[i]] := Lm hlt
  have h2 := Jq hp2 ch[i] hci.2 (by omega)
  generalize ch[i] = x at hd hci htk h2
  have hx : fV x = .tup [.arr 20 x.a, .v (.bool x.gone), .v (.int .i64 x.n), .arr 32 x.w, .bs x.cd, .sl 64 (x.sl.map aA)] := rfl
  rw [hx] at hd h2
  repeat
   (first
    | (apply bG h2 [_] rfl rfl (ah.refl _ _) (by intro _ _; simp [go_sem]) rfl rfl; rintro _ os3 ⟨rfl, hp3⟩; simp only [KN, KO]) | (refine stp ?_; intros))
  refine EK.again ⟨(i + 1, os3), hlt, by rw [htk, oU]; exact hp3.mono (by have := hci.1; omega)⟩ (by dsimp only; omega) ?_
  simp only [LK]
  exact (Le.keep (by repeat first | exact trivial | refine ⟨rfl, ?_⟩) (by repeat first | exact LM _ | apply List.Sublist.cons_cons | apply List.Sublist.cons) (by simp))
 ·
  have hiE : i = ch.length := by omega
  subst hiE
  rw [L9] at hp2
  have h3 := iJ hp2 (by omega)
  repeat
   (first
    | (apply bG h3 [] rfl rfl (ah.refl _ _) (by intro _ _; simp [go_sem]) rfl rfl; rintro _ _ ⟨⟨L, hL, hLl, hLs, rfl⟩, rfl⟩; simp only [KO]) | (refine stp ?_; intros))
  exact EK.aI [] rfl rfl (KZ _) ⟨⟨L, hL, by omega, fun x hx => by have := hLs x hx; omega, rfl⟩, rfl⟩
structure ChL.Is (c : ChL) (x y : Ac) : Prop where
 gone : c.gone = true ↔ y = Ac.zero
 n : c.n = y.n
 w : c.w = y.w
 cd : c.cd = y.cd
 ord : c.sl.Pairwise fun p q => p.1 < q.1
 sl : ∀ k v, (k, v) ∈ c.sl ↔ y ≠ Ac.zero ∧ x.sl k ≠ y.sl k ∧ v = y.sl k
structure yc (A B : As) (K : List (List UInt8)) (D : List ChL) : Prop where
 ord : D.Pairwise fun x y => x.a < y.a
 mem : ∀ c ∈ D, c.a ∈ K ∧ A c.a ≠ B c.a ∧ c.Is (A c.a) (B c.a)
 all : ∀ a ∈ K, A a ≠ B a → ∃ c ∈ D, c.a = a
structure Btw (A B : As) (D : List ChL) : Prop where
 ord : D.Pairwise fun x y => x.a < y.a
 mem : ∀ c ∈ D, A c.a ≠ B c.a ∧ c.Is (A c.a) (B c.a)
 all : ∀ a, A a ≠ B a → ∃ c ∈ D, c.a = a
theorem ChL.Is.eq {c d : ChL} {x y : Ac} (h : c.Is x y) (k : d.Is x y) (e : c.a = d.a) : c = d := by
 have hs : c.sl = d.sl := kS (key := fun p : List UInt8 × List UInt8 => p.1) h.ord k.ord (fun p hp => (k.sl p.1 p.2).2 ((h.sl p.1 p.2).1 hp)) (fun p hp => (h.sl p.1 p.2).2 ((k.sl p.1 p.2).1 hp))
 have hg : c.gone = d.gone := by
  have := h.gone.trans k.gone.symm
  cases h1 : c.gone <;> cases h2 : d.gone <;> simp_all
 cases c
 cases d
 simp only [ChL.mk.injEq]
 exact ⟨e, hg, h.n.trans k.n.symm, h.w.trans k.w.symm, h.cd.trans k.cd.symm, hs⟩
theorem Btw.eq {A B : As} {D F : List ChL} (h : Btw A B D) (k : Btw A B F) : D = F := by
 have one : ∀ {D F : List ChL}, Btw A B D → Btw A B F → ∀ x ∈ D, x ∈ F := fun {D F} h k x hx => by
  obtain ⟨h1, h2⟩ := h.mem x hx
  obtain ⟨y, hy, e⟩ := k.all x.a h1
  have := (k.mem y hy).2
  rw [e] at this
  rw [h2.eq this e.symm]
  exact hy
 exact kS (key := ChL.a) h.ord k.ord (one h k) (one k h)
theorem yc.nil {A B : As} : yc A B [] [] := ⟨.nil, fun x hx => by simp at hx, fun a ha => by simp at ha⟩
theorem yc.skip {A B : As} {K : List (List UInt8)} {D : List ChL} (h : yc A B K D) {a : List UInt8} (ha : A a = B a) : yc A B (K ++ [a]) D := ⟨h.ord, fun x hx => ⟨LJ _ (h.mem x hx).1, (h.mem x hx).2⟩, fun b hb hne => by
 rcases LP.1 hb with hb | hb
 · exact h.all b hb hne
 ·
  obtain rfl : b = a := by simpa using hb
  exact absurd ha hne⟩
theorem yc.take {A B : As} {K : List (List UInt8)} {D : List ChL} (h : yc A B K D) {c : ChL} (hne : A c.a ≠ B c.a) (hc : c.Is (A c.a) (B c.a)) (hlt : ∀ b ∈ K, b < c.a) : yc A B (K ++ [c.a]) (D ++ [c]) := ⟨LX.2 ⟨h.ord, Ol _ _, fun y hy z hz => by
  obtain rfl : z = c := by simpa using hz
  exact hlt _ (h.mem y hy).1⟩, fun y hy => by
  rcases LP.1 hy with hy | hy
  · exact ⟨LJ _ (h.mem y hy).1, (h.mem y hy).2⟩
  ·
   obtain rfl : y = c := by simpa using hy
   exact ⟨by simp, hne, hc⟩, fun b hb hb' => by
  rcases LP.1 hb with hb | hb
  ·
   obtain ⟨y, hy, e⟩ := h.all b hb hb'
   exact ⟨y, LJ _ hy, e⟩
  ·
   obtain rfl : b = c.a := by simpa using hb
   exact ⟨c, by simp, rfl⟩⟩
def slG (sl : List (List UInt8 × List UInt8)) (f : List UInt8 → List UInt8) : List UInt8 → List UInt8 := sl.foldl (fun f p => fun k => if p.1 = k then p.2 else f k) f
theorem ug (z : List UInt8) : ∀ (sl : List (List UInt8 × List UInt8)) (f : List UInt8 → List UInt8) (k : List UInt8), (∀ p ∈ sl, p.1 = k → p.2 = z) → slG sl f k = if k ∈ sl.map Prod.fst then z else f k
 | [], f, k, _ => by simp [slG]
 | p :: sl, f, k, h => by
  have ih := ug z sl (fun k => if p.1 = k then p.2 else f k) k fun q hq => h q (Lu _ hq)
  have e : slG (p :: sl) f k = slG sl (fun k => if p.1 = k then p.2 else f k) k := rfl
  rw [e, ih]
  by_cases h1 : k ∈ sl.map Prod.fst
  · rw [if_pos h1, if_pos (by simp only [LV, Lj]; exact .inr h1)]
  ·
   rw [if_neg h1]
   by_cases h2 : p.1 = k
   · rw [if_pos h2, if_pos (by simp [h2]), h p Ld h2]
   · rw [if_neg h2, if_neg (by simp only [LV, Lj, not_or]; exact ⟨fun e => h2 e.symm, h1⟩)]
theorem upd_same (A : As) (a : List UInt8) (x : Ac) : A.upd a x a = x := by unfold As.upd; rw [if_pos rfl]
theorem kQ (A : As) (a : List UInt8) (x y : Ac) : (A.upd a x).upd a y = A.upd a y := by
 funext b
 unfold As.upd
 split <;> rfl
theorem rP (a : List UInt8) : ∀ (sl : List (List UInt8 × List UInt8)) (A : As), eY a sl A = A.upd a {A a with sl := slG sl (A a).sl}
 | [], A => by
  funext b
  unfold As.upd
  split
  ·
   rename_i e
   subst e
   rfl
  · rfl
 | p :: sl, A => by
  have e : eY a (p :: sl) A = eY a sl (A.upd a ((A a).slot p.1 p.2)) := rfl
  rw [e, rP a sl, kQ, upd_same]
  rfl
def ChL.one (c : ChL) (x : Ac) : Ac := ⟨if c.n > 0 then c.n else 0, c.w, c.cd, slG c.sl (if c.gone = true then fun _ => zero32 else x.sl)⟩
theorem ChL.of_eq (c : ChL) (A : As) : c.of A = A.upd c.a (c.one (A c.a)) := by
 unfold ChL.of ChL.base
 dsimp only
 rw [rP]
 cases hg : c.gone with
 | true => simp only [if_true, kQ, upd_same, ChL.one, hg]; rfl
 | false => simp only [Nr, if_false, kQ, upd_same, ChL.one, hg]
theorem lX : ∀ (D : List ChL) (A : As) (b : List UInt8), b ∉ D.map ChL.a → dw A D b = A b
 | [], A, b, _ => rfl
 | c :: D, A, b, h => by
  have e : dw A (c :: D) = dw (c.of A) D := rfl
  simp only [LV, Lj, not_or] at h
  rw [e, lX D _ b h.2, ChL.of_eq]
  unfold As.upd
  rw [if_neg fun e => h.1 e.symm]
theorem tC : ∀ (D : List ChL) (A : As) (c : ChL), c ∈ D → (D.Pairwise fun x y => x.a < y.a) → dw A D c.a = c.one (A c.a)
 | [], A, c, h, _ => by simp at h
 | d :: D, A, c, h, ho => by
  have e : dw A (d :: D) = dw (d.of A) D := rfl
  obtain ⟨h1, h2⟩ := Mc.1 ho
  rcases Lj.1 h with rfl | h
  ·
   rw [e, lX D _ c.a fun hm => by
    obtain ⟨x, hx, hxa⟩ := Ll.1 hm
    have := h1 x hx
    rw [hxa] at this
    exact MF _ this, ChL.of_eq, upd_same]
  ·
   rw [e, tC D _ c h h2, ChL.of_eq]
   have hne : d.a ≠ c.a := fun e => by
    have := h1 c h
    rw [e] at this
    exact MF _ this
   unfold As.upd
   rw [if_neg hne]
theorem ChL.Is.one {c : ChL} {x y : Ac} (h : c.Is x y) (hn : 0 ≤ y.n) : c.one x = y := by
 unfold ChL.one
 have h1 : (if c.n > 0 then c.n else 0) = y.n := by
  rw [h.n]
  split
  · rfl
  · omega
 have h2 : slG c.sl (if c.gone = true then fun _ => zero32 else x.sl) = y.sl := by
  funext k
  rw [ug (y.sl k) _ _ k fun p hp e => by
   have := ((h.sl p.1 p.2).1 hp).2.2
   rw [e] at this
   exact this]
  by_cases hm : k ∈ c.sl.map Prod.fst
  · rw [if_pos hm]
  ·
   rw [if_neg hm]
   by_cases hg : c.gone = true
   ·
    rw [if_pos hg, h.gone.1 hg]
    rfl
   ·
    rw [if_neg hg]
    refine LY fun hne => hm (Ll.2 ⟨(k, y.sl k), (h.sl k _).2 ⟨fun e => hg (h.gone.2 e), hne, rfl⟩, rfl⟩)
 rw [h1, h2, h.w, h.cd]
theorem Btw.apply {A B : As} {D : List ChL} (h : Btw A B D) (hB : ∀ a, 0 ≤ (B a).n) : dw A D = B := by
 funext b
 by_cases hb : b ∈ D.map ChL.a
 ·
  obtain ⟨c, hc, rfl⟩ := Ll.1 hb
  rw [tC D A c hc h.ord, (h.mem c hc).2.one (hB _)]
 ·
  rw [lX D A b hb]
  exact LY fun hne => hb (by
   obtain ⟨c, hc, e⟩ := h.all b hne
   exact Ll.2 ⟨c, hc, e⟩)
theorem Gn (l : List AcL) : ∀ a, 0 ≤ (dH l a).n := by
 have h : ∀ (l : List AcL) (A : As), (∀ a, 0 ≤ (A a).n) → ∀ a, 0 ≤ (l.foldl (fun A x => A.upd x.a x.take) A a).n := fun l => by
  induction l with
  | nil => exact fun A h => h
  | cons x l ih =>
   intro A h
   refine ih _ fun a => ?_
   show 0 ≤ (if x.a = a then x.take else A a).n
   split
   ·
    unfold AcL.take
    dsimp only
    split <;> omega
   · exact h a
 exact h l _ fun a => Int.le_refl _
theorem IY (c : ChL) (x : Ac) : 0 ≤ (c.one x).n := by
 unfold ChL.one
 dsimp only
 split <;> omega
theorem AcL.Is.slF {x : AcL} {y : Ac} (h : x.Is y) : slF x.sl = y.sl := by
 funext k
 have e : E.slF x.sl k = slG x.sl (fun _ => zero32) k := rfl
 rw [e, ug (y.sl k) _ _ k fun p hp e => by rw [(h.val p hp).1, e]]
 by_cases hm : k ∈ x.sl.map Prod.fst
 · rw [if_pos hm]
 ·
  rw [if_neg hm]
  refine LY fun hne => hm ?_
  obtain ⟨p, hp, e⟩ := h.all k fun e => hne e.symm
  exact Ll.2 ⟨p, hp, e⟩
theorem AcL.Is.take {x : AcL} {y : Ac} (h : x.Is y) (hn : 0 ≤ y.n) : x.take = y := by
 unfold AcL.take
 have h1 : (if x.n > 0 then x.n else 0) = y.n := by
  rw [h.n]
  split
  · rfl
  · omega
 rw [h1, h.slF, h.w, h.cd]
theorem kF : ∀ (L : List AcL) (A : As) (b : List UInt8), b ∉ L.map AcL.a → L.foldl (fun A x => A.upd x.a x.take) A b = A b
 | [], A, b, _ => rfl
 | x :: L, A, b, h => by
  simp only [LV, Lj, not_or] at h
  rw [N7, kF L _ b h.2]
  unfold As.upd
  rw [if_neg fun e => h.1 e.symm]
theorem zH : ∀ (L : List AcL) (A : As) (x : AcL), x ∈ L → (L.Pairwise fun x y => x.a < y.a) → L.foldl (fun A x => A.upd x.a x.take) A x.a = x.take
 | [], A, x, h, _ => by simp at h
 | d :: L, A, x, h, ho => by
  obtain ⟨h1, h2⟩ := Mc.1 ho
  rw [N7]
  rcases Lj.1 h with rfl | h
  ·
   rw [kF L _ x.a fun hm => by
    obtain ⟨y, hy, hya⟩ := Ll.1 hm
    have := h1 y hy
    rw [hya] at this
    exact MF _ this, upd_same]
  · exact zH L _ x h h2
theorem Canon.new {A : As} {L : List AcL} (h : Canon A L) (hn : ∀ a, 0 ≤ (A a).n) : dH L = A := by
 funext b
 unfold dH
 by_cases hb : b ∈ L.map AcL.a
 ·
  obtain ⟨x, hx, rfl⟩ := Ll.1 hb
  rw [zH L _ x hx h.ord, (h.mem x hx).1.take (hn _)]
 ·
  rw [kF L _ b hb]
  refine LY fun hne => hb ?_
  obtain ⟨x, hx, e⟩ := h.all b fun e => hne e.symm
  exact Ll.2 ⟨x, hx, e⟩
theorem Canon.length_le {l L : List AcL} (h : Canon (dH l) L) : L.length ≤ l.length := by
 have h1 : (L.map AcL.a).Nodup := by
  have := h.ord
  unfold List.Nodup
  rw [MQ]
  exact this.imp fun h e => by rw [e] at h; exact MF _ h
 have h2 : ∀ b ∈ L.map AcL.a, b ∈ l.map AcL.a := fun b hb => by
  obtain ⟨x, hx, rfl⟩ := Ll.1 hb
  refine LY fun hn => (h.mem x hx).2 ?_
  unfold dH
  rw [kF l _ _ hn]
 have := h1.length_le_of_subset h2
 simpa using this
abbrev OpF := List UInt8 → Option (List UInt8)
def OpF.put (F : OpF) (k v : List UInt8) : OpF := fun q => if k = q then some v else F q
def OpF.del (F : OpF) (k : List UInt8) : OpF := fun q => if k = q then none else F q
def OpF.cut (F : OpF) (x : List UInt8 × List UInt8) : OpF := if (F x.1).getD zero32 = x.2 then F.del x.1 else F
theorem AcL.Is.keys {x : AcL} {y : Ac} (h : x.Is y) (k : List UInt8) : k ∈ x.sl.map Prod.fst ↔ y.sl k ≠ zero32 := by
 constructor
 ·
  intro hk
  obtain ⟨p, hp, rfl⟩ := Ll.1 hk
  obtain ⟨h1, h2⟩ := h.val p hp
  rw [← h1]
  exact h2
 ·
  intro hk
  obtain ⟨p, hp, e⟩ := h.all k hk
  exact Ll.2 ⟨p, hp, e⟩
structure mX (es : List Ent) (F : OpF) (N : Nat) : Prop where
 at_ : ∀ k, aC es k = (F k).map (D.arr 32)
 nod : (es.map (·.2.1)).Nodup
 len : es.length ≤ N
theorem mX.nil : mX [] (fun _ => none) 0 := ⟨fun k => rfl, Nb, LG _⟩
theorem mX.put {es : List Ent} {F : OpF} {N c : Nat} (h : mX es F N) (k v : List UInt8) : mX (aX c es k (.arr 32 v)) (F.put k v) (N + 1) := ⟨fun q => by
 rw [bU]
 unfold OpF.put
 split
 · rfl
 · exact h.at_ q, dO _ _ _ _ h.nod, LZ (cZ _ _ _ _) (NM h.len)⟩
theorem mX.del {es : List Ent} {F : OpF} {N : Nat} (h : mX es F N) (k : List UInt8) : mX (fC es k) (F.del k) N := ⟨fun q => by
 rw [nJ _ _ _ h.nod]
 unfold OpF.del
 split
 · rfl
 · exact h.at_ q, h.nod.sublist ((eP _ _).map _), LZ (kM _ _) h.len⟩
theorem mX.getD {es : List Ent} {F : OpF} {N : Nat} (h : mX es F N) (k : List UInt8) : (aC es k).getD (.arr 32 zero32) = .arr 32 ((F k).getD zero32) := by
 rw [h.at_]
 cases F k <;> rfl
theorem mX.mem {es : List Ent} {F : OpF} {N : Nat} (h : mX es F N) (k : List UInt8) : k ∈ es.map (·.2.1) ↔ ∃ v, F k = some v := by
 have h1 := h.at_ k
 constructor
 ·
  intro hk
  obtain ⟨d, hd⟩ := nI hk
  rw [hd] at h1
  cases hF : F k with
  | none => rw [hF] at h1; cases h1
  | some v => exact ⟨v, rfl⟩
 ·
  rintro ⟨v, hv⟩
  rw [hv] at h1
  exact LY fun hn => by
   rw [(dX es k).2 hn] at h1
   cases h1
structure Kq (F : OpF) (L : List (List UInt8 × List UInt8)) : Prop where
 ord : L.Pairwise fun p q => p.1 < q.1
 mem : ∀ k v, (k, v) ∈ L ↔ F k = some v
theorem mX.rise {es : List Ent} {F : OpF} {N : Nat} (h : mX es F N) : Kq F ((sortL (es.map (·.2.1))).map fun k => (k, (F k).getD zero32)) := by
 refine ⟨?_, fun k v => ?_⟩
 ·
  rw [MQ]
  exact pR h.nod
 ·
  rw [Ll]
  constructor
  ·
   rintro ⟨q, hq, e⟩
   obtain ⟨v', hv'⟩ := (h.mem q).1 ((aW _).mem_iff.1 hq)
   simp only [Prod.mk.injEq] at e
   obtain ⟨rfl, rfl⟩ := e
   rw [hv']
   rfl
  ·
   intro hv
   refine ⟨k, (aW _).mem_iff.2 ((h.mem k).2 ⟨v, hv⟩), ?_⟩
   rw [hv]
   rfl
end E
end Go.Proofs.YtohlgnfachkmaaaGreat
namespace Go.Proofs.YtohlgnfachkmaaaGreat
set_option linter.unusedVariables false
open Go.RowKit Mono Rlp
namespace E
def rD (k z : Nat) : Value → Value
 | .slice A n c => .slice (if c = k then A else A.map (·.add (k * z))) (n - k) (c - k)
 | v => v
section
variable {N : Nat} {X : Cx N} {S : St} {ops : Array Oper} {o : Oper} {Q : Exit → Act → World → Prop} {l : List Oper} {rs : List (Tmp × R)} {os os' : List Obj} {fs : List (Value × D)}
theorem DY {x y : Operand} {T e z b : Nat} {k : Int} {v : Value} {ds : List D} (ho : o.op = .slice T x (some y) none none) (hx : ev S x = some (.val (.v v))) (i : Nat) (hi : S.objs[i]? = some (.row v e z ds)) (hy : ev S y = some (.val (.v (.int .i64 k)))) (hT : assoc slL T = some (e, z, b)) (hk : 0 ≤ k ∧ k.toNat ≤ ds.length) : Still ops S o (.val (.v (rD k.toNat z v))) := fun base ok a w ha => by
 have hx' := bK ha hx (aF (by rw [ho]; simp [Op.operands]))
 have hy' := bK ha hy (aF (by rw [ho]; simp [Op.operands]))
 obtain ⟨rows, ⟨h1, _⟩, _⟩ := ha.objs _ (LC hi)
 obtain ⟨hu, hs⟩ := mM hT
 have hf : ∃ A c, v = .slice A ds.length c ∧ ds.length ≤ c := by
  rcases h1.2 with ⟨e1, e2⟩ | ⟨g, c, cur, e1, _, _, e3, _⟩
  · exact ⟨none, 0, by rw [e1, e2], by omega⟩
  · exact ⟨_, c, e1, e3⟩
 obtain ⟨A, c, rfl, hc⟩ := hf
 refine ⟨rD k.toNat z (.slice A ds.length c), ?_, dR (by unfold rD; rfl)⟩
 unfold execOp
 have hr : (Instr.sliceAt T (.slice A ds.length c) (some (.int .i64 k)) none none).run Tryz.prog w = .ok (rD k.toNat z (.slice A ds.length c)) w := by
  rw [run_sliceAt_slice (P := Tryz.prog) w T _ _ _ _ hu, run_slice_l (P := Tryz.prog) w T A ds.length c hu .i64 k hk.1 (by omega), hs]
  rfl
 simp only [ho, hx', hy', Ou, NS, Lr, hr, Lh, LD]
theorem EN {t ty : Nat} {pos : String} {af : Array Edge} {gd : Option (Nat × Bool)} {x y : Operand} {T e z b i : Nat} {k : Int} {v : Value} {ds : List D} (hx : ev (⟨rs, os, fs⟩ : St) x = some (.val (.v v))) (hi : os[i]? = some (.row v e z ds)) (hy : ev (⟨rs, os, fs⟩ : St) y = some (.val (.v (.int .i64 k)))) (hT : assoc slL T = some (e, z, b)) (hk : 0 ≤ k ∧ k.toNat ≤ ds.length) (hg : guardOf ops ⟨rs, os, fs⟩ ⟨some t, .slice T x (some y) none none, ty, pos, af, gd⟩ = some true) (hN : Nat.blt t N = true) (kk : EL X ops Q l ⟨(t, .val (.v (rD k.toNat z v))) :: rs, os, fs⟩) : EL X ops Q (⟨some t, .slice T x (some y) none none, ty, pos, af, gd⟩ :: l) ⟨rs, os, fs⟩ := ES.still (DY rfl hx i hi hy hT hk) hg rfl hN kk
theorem EL.Jl {T e z b k : Nat} {x : Operand} {v : Value} {ds : List D} {dz : D} (i : Nat) (ho : o.op = .call { callee := .builtin .clear, args := #[x], argTypes := #[T] }) (hg : guardOf ops S o = some true) (hd : o.dst = none) (hx : ev S x = some (.val (.v (rD k z v)))) (hi : S.objs[i]? = some (.row v e z ds)) (hT : assoc slL T = some (e, z, b)) (hz : assoc dI e = some dz) (hag : dz.agg = true) (hsz : dz.size = z) (hpos : Nat.blt 0 dz.size = true) (hk : k + 1 = ds.length) (kk : EL X ops Q l ⟨S.regs, S.objs.set i (.row v e z (ds.set k dz)), S.facts⟩) : EL X ops Q (o :: l) S := by
 constructor
 intro a w ha
 have hkn := ha.kn fun t => t ∈ o.looksAt ops
 have h1 := bK hkn hx (aF (by rw [ho]; simp [Op.operands, Call.operands]))
 have hmem := LC hi
 have hat := ha.mem.at_ _ hmem
 obtain ⟨hu, _⟩ := CS hT (by rw [← hsz]; exact hpos)
 obtain ⟨g, c, cur, rows, H⟩ := row_in hat (by omega)
 have hkl : ds[k]? = some ds[k] := La (by omega)
 obtain ⟨r, A, B, g1, g2, g3, g4, g5, g6⟩ := H.elem hkl
 obtain ⟨zv, hz1, hz2⟩ := (zvI hz).get
 obtain ⟨cs, hcs, rfl⟩ := (fP hag).1 (hz2 (X.ok S.objs w) w)
 have hcl : cs.length = z := by rw [← hsz]; exact Reads.len _ _ hcs
 have hcur : cur = (A ++ r ++ B).toArray := by rw [← g4]
 have hv : rD k z v = .slice (some ⟨g, 0 + k * z, none⟩) 1 (c - k) := by
  rw [H.val]
  have hle := H.le
  unfold rD
  dsimp only
  rw [if_neg (by omega), show ds.length - k = 1 by omega, NS, bI]
 have hheap := H.heap
 rw [hcur] at hheap
 have hset := dD cs A r B w (by rw [hcl, g2]) hheap
 rw [g5] at hset
 have hgr := bg g cs (k * z) w
 have hno : ∀ b, X.ok S.objs w b → b ≠ g := fun b' hb' e' => hb'.2.2 _ hmem (by rw [e']; show v.ownBlock = some g; rw [H.val]; rfl)
 have hcell : ∀ q : Addr, X.ok S.objs w q.block → (w.setCells g (k * z) cs).cell? q = w.cell? q := fun q hq => World.cell?_of_block (hgr.block _ hq.2.1 fun e' => hno _ hq (by injection e'))
 have hrows := aj.set ds rows k dz cs H.rows hcs hcl
 have hrows' := aj.mono (fun _ h => h) hcell z _ _ hrows
 have hat' : Obj.At X.mine (X.ok S.objs w) (w.setCells g (k * z) cs) (.row v e z (ds.set k dz)) := qV.at (g := g) (c := c) (cur := (A ++ cs ++ B).toArray) (rows := rows.set k cs) ⟨by rw [Nk]; exact H.val, hset, by rw [Nk]; exact g6 _ hcl, by
  have := congrArg List.length g4
  rw [NI, H.size] at this
  simp only [ND, List.length_append] at this ⊢
  omega, by rw [Nk]; exact H.le, H.max, hrows', H.mine⟩
 have hst : (storeCells ⟨g, 0 + k * z, none⟩ (Builtin.zeroCells (Value.agg cs.toArray).cells 1).toList).run Tryz.prog w = .ok () (w.setCells g (k * z) cs) := by
  have e1 : (Builtin.zeroCells (Value.agg cs.toArray).cells 1).toList = cs := by
   simp [Builtin.zeroCells, Value.cells]
   apply List.ext_getElem
   · simp
   ·
    intro j h1 h2
    simp [Nat.mod_eq_of_lt h2, h2]
  rw [e1]
  have := run_storeCells_cells (P := Tryz.prog) g (k * z) cs 0 w (fun j hj => ?_) (fun j hj => ?_) (Reads.one _ _ hcs)
  · simpa using this
  ·
   rw [cell_of_row w g _ _ _ _ hheap, Option.isSome_iff_exists]
   have hsz2 : k * z + 0 + j < (A ++ r ++ B).toArray.size := by
    simp only [ND, List.length_append]
    omega
   exact ⟨_, Nv hsz2⟩
  · simp [World.frozen?, hheap]
 have hrun : (Builtin.clear_ #[T] o.type #[rD k z v]).run Tryz.prog w = .ok (.tuple #[]) (w.setCells g (k * z) cs) := by
  rw [hv]
  rw [MH] at hst ⊢
  simp [Builtin.clear_, run_underlying hu, hz1, hst]
 unfold wpList
 rw [if_pos (dh ha hg)]
 refine .inl ?_
 unfold Oper.wp execOp
 simp only [ho, resolve, invoke, builtin, Lr, LD, Lh, Nz, LV, MW, h1, hrun]
 simp only [Oper.upon_value, hd, Act.put]
 exact kk.go _ _ (ha.turn hi (by rw [show (Obj.row v e z ds).blk = some g by show v.ownBlock = some g; rw [H.val]; rfl]; exact hgr) (.inl rfl) fun hok hcell => hat'.move hok (fun _ _ => rfl) fun _ _ => rfl)
theorem E5 {T e z b k ty : Nat} {pos : String} {af : Array Edge} {gd : Option (Nat × Bool)} {x : Operand} {v : Value} {ds : List D} {dz : D} (hx : ev (⟨rs, os, fs⟩ : St) x = some (.val (.v (rD k z v)))) (hset : jw os (.row v e z ds) (.row v e z (ds.set k dz)) os') (hk : k + 1 = ds.length) (hT : assoc slL T = some (e, z, b)) (hz : assoc dI e = some dz) (hag : dz.agg = true) (hsz : dz.size = z) (hpos : Nat.blt 0 dz.size = true) (hg : guardOf ops ⟨rs, os, fs⟩ ⟨none, .call { callee := .builtin .clear, args := #[x], argTypes := #[T] }, ty, pos, af, gd⟩ = some true) (kk : EL X ops Q l ⟨rs, os', fs⟩) : EL X ops Q (⟨none, .call { callee := .builtin .clear, args := #[x], argTypes := #[T] }, ty, pos, af, gd⟩ :: l) ⟨rs, os, fs⟩ := by
 obtain ⟨i, hi, rfl⟩ := hset.ix
 exact EL.Jl i rfl hg rfl hx hi hT hz hag hsz hpos hk kk
end

section
variable {N : Nat} {X : Cx N} {S : St} {ops : Array Oper} {o : Oper} {Q : Exit → Act → World → Prop} {l' : List Oper} {rs : List (Tmp × R)} {os : List Obj} {fs : List (Value × D)}
theorem zL {base ok : Nat → Prop} {L : Tmp → Prop} {a : Act} {w : World} (ha : Kn base ok L S a w) {x : Operand} {g n m i : Nat} {t : TypeId} {d : D} {l : List UInt8} (hL : ∀ u, x = .tmp u → L u) (hx : ev S x = some (.val (.v (.slice (some ⟨g, n, none⟩) m m)))) (hi : S.objs[i]? = some (.var g t d)) (hs : d.sub n m true = some (.arr m l)) (hm : Nat.ble m 4096 = true) : IsB w (a.eval x) l := by
 have hx' := bK ha hx hL
 obtain ⟨_, cs, hh, hr⟩ := ha.objs _ (LC hi)
 obtain ⟨e1, e2, pre, mid, post, rfl, e3, e4⟩ := fG d n m true _ cs hs hr
 have hr := fA (dM hh)
 rw [MH, e3] at hr
 rw [hx']
 exact nG hm (LQ.1 hh).1 hr e4
theorem xu {x y : Operand} {tys : Array TypeId} {g1 n1 m1 i1 g2 n2 m2 i2 : Nat} {t1 t2 : TypeId} {d1 d2 : D} {l1 l2 : List UInt8} (ho : o.op = .call { callee := .value (.func 80), args := #[x, y], argTypes := tys })
  (hx : ev S x = some (.val (.v (.slice (some ⟨g1, n1, none⟩) m1 m1)))) (hi1 : S.objs[i1]? = some (.var g1 t1 d1)) (hs1 : d1.sub n1 m1 true = some (.arr m1 l1)) (hm1 : Nat.ble m1 4096 = true)
  (hy : ev S y = some (.val (.v (.slice (some ⟨g2, n2, none⟩) m2 m2)))) (hi2 : S.objs[i2]? = some (.var g2 t2 d2)) (hs2 : d2.sub n2 m2 true = some (.arr m2 l2)) (hm2 : Nat.ble m2 4096 = true) : iR ops S o (· = .val (.v (.int .i64 (dA l1 l2)))) := fun base ok a w ha => by
 have h1 := zL ha (aF (by rw [ho]; simp [Op.operands, Call.operands])) hx hi1 hs1 hm1
 have h2 := zL ha (aF (by rw [ho]; simp [Op.operands, Call.operands])) hy hi2 hs2 hm2
 have hrun : (execOp a.eval o).run Tryz.prog w = .ok (.enter 80 #[a.eval x, a.eval y]) w := by
  unfold execOp
  simp [ho, resolve, Act.eval, Deferred.ofValue, invoke]
 rw [hrun]
 refine ⟨Gr.refl w, (iH _ _ l1 l2 w h1 h2).mono ?_⟩
 rintro e w' ⟨rfl, rfl⟩
 exact ⟨_, rfl, Gr.refl _, _, rfl, aG.2 ⟨rfl, rfl⟩⟩
theorem Hl {t ty : Nat} {pos : String} {af : Array Edge} {gd : Option (Nat × Bool)} {x y : Operand} {T U e z b : Nat} {ds : List D} (hx : ev (⟨rs, os, fs⟩ : St) x = some (.val (.sl z ds))) (hy : ev (⟨rs, os, fs⟩ : St) y = some (.val (.v (.slice none 0 0)))) (hT : assoc slL T = some (e, z, b)) (hz : Nat.blt 0 z = true) (hg : guardOf ops ⟨rs, os, fs⟩ ⟨some t, .binOp .eql T x y U, ty, pos, af, gd⟩ = some true) (hN : Nat.blt t N = true) (kk : ∀ v, (v = true → ds = []) → EL X ops Q l' ⟨(t, .val (.v (.bool v))) :: rs, os, fs⟩) : EL X ops Q (⟨some t, .binOp .eql T x y U, ty, pos, af, gd⟩ :: l') ⟨rs, os, fs⟩ := by
 refine EL.growE (Φ := fun r => ∃ v, (v = true → ds = []) ∧ r = .val (.v (.bool v))) hg (fK rfl hN) (fun base ok a w ha => ?_) fun r ⟨v, h1, h2⟩ => by
  subst h2
  exact kk v h1
 obtain ⟨A, c, rows, h1, h2, h3, h4, _⟩ := og (ha.ev hx (aF (by simp [Op.operands])))
 have h5 := bK ha hy (aF (by simp [Op.operands]))
 have hu := (CS hT hz).und
 have hrun : (execOp a.eval ⟨some t, .binOp .eql T x y U, ty, pos, af, gd⟩).run Tryz.prog w = .ok (.value (.bool A.isNone)) w := by
  unfold execOp
  have hq : (eqGuard .eql T x y (.slice A ds.length c) (.slice none 0 0)).run Tryz.prog w = .ok () w := by simp [eqGuard]
  simp only [h1, h5, Lr, hq, Lh, Lib.run_eql_slice_nil w T e A ds.length c 0 0 hu, LD]
 rw [hrun]
 refine ⟨Gr.refl w, _, ⟨_, fun hv => ?_, rfl⟩, aG.2 ⟨rfl, rfl⟩⟩
 cases A with
 | none => exact ML (h4 rfl).1
 | some _ => cases hv
theorem Jc {T e z b : Nat} (ho : o.op = .buildSlice T 0 #[]) (hT : assoc slL T = some (e, z, b)) (hz : Nat.blt 0 z = true) : lg ops S o [] (fun r os' => ∃ v, r = .val (.v v) ∧ os' = [.row v e z []]) := .mk fun base ok a w ha hown => by
 have hS := CS hT hz
 obtain ⟨i, zv, hi, hzv, hsz, hby, hcs⟩ := hS.info
 have hr : (execOp a.eval o).run Tryz.prog w = .ok (.value (.slice (some ⟨w.heap.size, 0, none⟩) 0 0)) (w.alloc (.cells #[] e)) := by
  unfold execOp
  simp [ho, Instr.buildSlice, run_underlying hS.und, sizeOf, typeInfo, hi, Instr.fill, newRow]
  have e0 : Array.map (fun _ : Nat => (default : Value)) (Array.range 0) = #[] := by apply NY; simp
  rw [e0]
 rw [hr]
 obtain ⟨g1, g2⟩ := sD (ok := ok) (w := w) (q := .row (.slice (some ⟨w.heap.size, 0, none⟩) 0 0) e z []) (r := .val (.v (.slice (some ⟨w.heap.size, 0, none⟩) 0 0))) (ob := .cells #[] e) (v := .slice (some ⟨w.heap.size, 0, none⟩) 0 0) rfl (fun ok' hk => ⟨[], ⟨by
  have := uF w #[] e z 0 w.heap.size 0 rfl (LH _) (by simp [maxLen]) (by simp)
  exact this, fun b hb => by cases hb; exact .inr (LG _)⟩, by rw [aj]⟩) (fun _ => dR rfl) ha.lt
 exact ⟨_, _, ⟨_, rfl, rfl⟩, g1, g2⟩
end
end E
end Go.Proofs.YtohlgnfachkmaaaGreat
namespace Go.Proofs.YtohlgnfachkmaaaGreat
set_option linter.unusedVariables false
open Go.RowKit Mono Rlp Go.Sort
namespace E
theorem xP (n : Nat) (hn : n ≤ 9223372036854775807) : Bin .shr 156 (.v (.int .u64 (n : Int))) (.v (.int .u64 1)) (.int .u64 ((n / 2 : Nat) : Int)) := by
 refine y9 rfl fun w => ?_
 have h1 : ¬ ((1 : Int) < 0) := by decide
 have h2 : min ((1 : Int)).toNat IntKind.u64.bits = 1 := by decide
 have h3 : (n : Int).fdiv (2 ^ 1) = ((n / 2 : Nat) : Int) := by
  rw [Int.fdiv_eq_ediv_of_nonneg _ (by decide)]
  simp
 show (Op.shift .shr .u64 (n : Int) .u64 1).run Tryz.prog w = _
 unfold Op.shift
 rw [if_neg h1]
 simp only [h2, h3, LD]
end E
end Go.Proofs.YtohlgnfachkmaaaGreat
