/-
 Merged: lemmas of this claim.
 Conditions: none.
-/
import Derived.Test.YtelbhdobjdnglaaGreatZT17
import Derived.Test.YtelbhdobjdnglaaGreatZT10
import Derived.Test.YtelbhdobjdnglaaGreatZT6
import Derived.Test.YtelbhdobjdnglaaGreatZT15
import Derived.Test.YtelbhdobjdnglaaGreatZT5
import Derived.Lib.Bytealg
import Derived.Test.YtelbhdobjdnglaaGreatZT16
import Derived.Test.YtelbhdobjdnglaaGreatZT11
import Derived.Test.YtelbhdobjdnglaaGreatZT0
namespace Go.Proofs.YtelbhdobjdnglaaGreat
set_option linter.unusedVariables false
set_option maxRecDepth 20000
set_option maxHeartbeats 8000000
open Go.RowKit Mono Rlp
namespace E
def Pn (ts : List Tn) : List Tn := ts.filter fun t => !t.isNil
structure Dlt (ts R : List Tn) (k i : Nat) : Prop where
 len : R.length = ts.length
 ki : k < i
 le : i ≤ ts.length
 hd : R.take k = Pn (ts.take i)
 tl : R.drop i = ts.drop i
theorem Dlt.at_ {ts R : List Tn} {k i : Nat} (h : Dlt ts R k i) (hi : i < ts.length) : R[i]? = some ts[i] := by
 have h1 := congrArg (fun l => l[0]?) h.tl
 simp only [Zm, Yk] at h1
 rw [h1, List.getElem?_eq_getElem hi]
theorem Dlt.skip {ts R : List Tn} {k i : Nat} (h : Dlt ts R k i) (hi : i < ts.length) (hn : ts[i].isNil = true) : Dlt ts R k (i + 1) :=
 ⟨h.len, by have := h.ki; omega, hi, by
  rw [h.hd, XE hi]
  unfold Pn
  rw [Y6, Ye (by simp [hn]), ZL, X9], by
  have := congrArg (List.drop 1) h.tl
  rwa [Zt, Zt] at this⟩
theorem Dlt.keep {ts R : List Tn} {k i : Nat} (h : Dlt ts R k i) (hi : i < ts.length) (hn : ts[i].isNil = false) : Dlt ts (R.set k ts[i]) (k + 1) (i + 1) :=
 ⟨by rw [YH, h.len], by have := h.ki; omega, hi, by
  have hk : k < R.length := by rw [h.len]; have := h.ki; omega
  rw [XE (by rw [YH]; exact hk), List.getElem_set_self, List.take_set_of_le (Nat.le_refl _), h.hd, XE hi]
  unfold Pn
  rw [Y6, YP (by simp [hn]), ZL], by
  have := congrArg (List.drop 1) h.tl
  rw [Zt, Zt] at this
  rw [List.drop_set_of_lt (by have := h.ki; omega)]
  exact this⟩
def dNd (x : List UInt8 × List UInt8) : D := .tup [.arr 32 x.1, .bs x.2]
theorem NM (l m : List UInt8) : Bin .lss 9 (.v (.string (Go.Proofs.YtelbhdobjdnglaaGreat.bs l))) (.v (.string (Go.Proofs.YtelbhdobjdnglaaGreat.bs m))) (.bool (Op.bytesLess l m)) := by
 refine ⟨rfl, fun ok w p q hp hq => ?_⟩
 obtain rfl := (bg.1 hp).2
 obtain rfl := (bg.1 hq).2
 refine ⟨fun x y => by simp [eqGuard], ?_⟩
 simp [binOp, Op.stringOp, wH]
theorem Gn (l m : List UInt8) : Fn 19 [.arr 32 l, .arr 32 m] (· = .val (.v (.bool (Op.bytesLess l m)))) := by
 have hb := NM l m
 refine Fn.walk 10 Tryz.func19 rfl Tryz.ntmps19 (by simp) fun X => ?_
 repeat
  (first
   | (apply ah; iterate 3 rfl) | (apply fU; rfl; rfl; rfl; intro _) | apply EL.nil
   | (with_reducible first | apply EK.nc | apply EC.seq | apply EC.r0))
 refine EC.draw 5 (by kernel_rfl) ?_
 simp only [Xp, Xu, mP, Xq]
 repeat
  (first
   | (apply TJ; exact rF; iterate 3 rfl) | (apply G7; rfl; exact I0; iterate 4 rfl) | (apply G7; rfl; exact I1; iterate 4 rfl)
   | (apply lH; (iterate 2 rfl); exact hb; iterate 2 rfl) | ((with_reducible apply EH.nil); rfl))
 repeat
  (first
   | (apply ah; iterate 3 rfl) | apply EL.nil | ((with_reducible apply EK.h0); apply EK.code) | (with_reducible apply EC.ret))
 exact EK.lZ rfl rfl rfl
def gG (x : List UInt8 × List UInt8) : List (List UInt8 × List UInt8) → List (List UInt8 × List UInt8)
 | [] => [x]
 | y :: l => if Op.bytesLess y.1 x.1 then y :: gG x l else if (y.1 == x.1) then y :: l else x :: y :: l
theorem nV (x : List UInt8 × List UInt8) : ∀ l, (gG x l).length ≤ l.length + 1
 | [] => by simp [gG]
 | y :: l => by
  have := nV x l
  rw [gG]
  split
  · simp; omega
  · split <;> simp
theorem Cc (ns : List (List UInt8 × List UInt8)) (x : List UInt8 × List UInt8) (hl : ns.length ≤ 1000000000) : Fn 36 [.sl 33 (ns.map dNd), dNd x] (· = .val (.sl 33 ((gG x ns).map dNd))) := by
 have hml : (ns.map dNd).length = ns.length := List.length_map _
 obtain ⟨xh, xb⟩ := x
 unfold dNd
 dsimp only
 refine FnM.toFn ?_
 generalize hres : gG (xh, xb) ns = res
 refine FnM.walk 51 Tryz.func36 rfl Tryz.ntmps36 (by simp) fun X => ?_
 have hfn : (fun x : List UInt8 × List UInt8 => D.tup [.arr 32 x.1, .bs x.2]) = dNd := rfl
 rw [hfn]
 repeat
  (first
   | (apply ah; iterate 3 rfl) | (apply fU; rfl; rfl; rfl; intro _) | apply EL.nil
   | (with_reducible first | apply EK.nc | apply EC.seq | apply EC.r0 | apply EC.b0))
 rename_i gx
 refine EC.loop (ι := {k : Nat // k ≤ ns.length ∧ res = ns.take k ++ gG (xh, xb) (ns.drop k)})
  (fun k => ⟨[(5, .val (.v (.int .i64 (k.1 : Int)))), (0, .val (.sl 33 (ns.map dNd))), (3, .val (.v (.pointer (some ⟨gx, 0, none⟩))))], [.var gx 40 (.tup [.arr 32 xh, .bs xb])], []⟩)
  (fun k => ns.length - k.1) ⟨0, XQ _, by rw [← hres]; rfl⟩ ?_ ?_
 · exact Le.kp
 rintro ⟨k, hk, hI⟩
 dsimp only at hk ⊢
 have htk : (ns.map dNd).take k = (ns.take k).map dNd := by rw [List.map_take]
 have hdr : (ns.map dNd).drop k = (ns.drop k).map dNd := by rw [List.map_drop]
 have htl : ((ns.take k).map dNd).length = k := by rw [List.length_map, List.length_take]; omega
 have hdl : ((ns.drop k).map dNd).length = ns.length - k := by rw [List.length_map, Xx]
 by_cases hlt : k < ns.length
 ·
  have hd : (ns.map dNd)[k]? = some (.tup [.arr 32 ns[k].1, .bs ns[k].2]) := by rw [XK, List.getElem?_eq_getElem hlt]; rfl
  have hL := Gn ns[k].1 xh
  have he := (qR ns[k].1 xh).1
  rw [XI hlt, gG] at hI
  cases hb : Op.bytesLess ns[k].1 xh with
  | true =>
   rw [hb] at hL
   rw [if_pos hb] at hI
   have hI2 : res = ns.take (k + 1) ++ gG (xh, xb) (ns.drop (k + 1)) := by
    rw [hI, XE hlt, List.append_assoc]
    rfl
   repeat
    (first
     | (with_reducible apply EC.seq))
   refine EC.draw 14 (by kernel_rfl) ?_
   simp only [Xp, Xu, mP, Xq]
   repeat
    (first
     | (apply fD (hL); rfl; exact aj.refl _ _; exact enA; iterate 2 rfl) | (apply aX; iterate 3 rfl) | (apply dH; iterate 6 rfl)
     | (apply dA; iterate 7 rfl) | (apply bD; iterate 5 rfl) | (apply jI; iterate 4 rfl) | (apply dw; rfl; exact I.a; iterate 4 rfl)
     | (apply jm (b := true); (iterate 2 rfl); exact aK; iterate 2 rfl) | (apply iL; iterate 4 rfl)
     | (apply dJ; (iterate 4 rfl); exact ixA; iterate 2 rfl)
     | ((with_reducible apply EH.nil); rfl))
   repeat
    (first
     | (apply ak; iterate 3 rfl) | (apply ah; iterate 3 rfl) | (apply jh; (iterate 3 rfl); (focus omega); (focus omega); iterate 2 rfl) | apply EL.nil
     | (apply EC.t0; rfl) | (with_reducible first | apply EK.nc | apply EC.r0 | apply EC.k0 | apply EC.b0 | apply EK.n0))
   refine EK.again ⟨k + 1, hlt, hI2⟩ (by dsimp only; omega) ?_
   simp only [XV]
   exact Le.kp
  | false =>
   rw [hb] at hL
   rw [if_neg (by rw [hb]; decide)] at hI
   cases hq : (ns[k].1 == xh) with
   | true =>
    rw [hq] at he
    rw [if_pos hq, ← XI hlt, X7] at hI
    repeat
     (first
      | (with_reducible apply EC.seq))
    refine EC.draw 14 (by kernel_rfl) ?_
    simp only [Xp, Xu, mP, Xq]
    repeat
     (first
      | (apply fD (hL); rfl; exact aj.refl _ _; exact enA; iterate 2 rfl) | (apply aX; iterate 3 rfl) | (apply dH; iterate 6 rfl)
      | (apply dA; iterate 7 rfl) | (apply bD; iterate 5 rfl) | (apply jI; iterate 4 rfl) | (apply dw; rfl; exact I.a; iterate 4 rfl)
      | (apply jm (b := true); (iterate 2 rfl); exact aK; iterate 2 rfl) | (apply iL; iterate 4 rfl)
      | (apply dJ; (iterate 4 rfl); exact ixA; iterate 2 rfl)
      | ((with_reducible apply EH.nil); rfl))
    repeat
     (first
      | apply EL.nil | (apply EC.f0; rfl) | (with_reducible first | apply EK.nc | apply EC.seq | apply EC.x0 | apply EK.s0 | apply EK.aY))
    refine EC.draw 14 (by kernel_rfl) ?_
    simp only [Xp, Xu, mP, Xq]
    repeat
     (first
      | (apply lH; (iterate 2 rfl); exact he; iterate 2 rfl) | (apply aX; iterate 3 rfl) | (apply dH; iterate 6 rfl) | (apply dA; iterate 7 rfl)
      | (apply bD; iterate 5 rfl) | (apply jI; iterate 4 rfl) | (apply dw; rfl; exact I.a; iterate 4 rfl)
      | (apply jm (b := true); (iterate 2 rfl); exact aK; iterate 2 rfl) | (apply iL; iterate 4 rfl)
      | (apply dJ; (iterate 4 rfl); exact ixA; iterate 2 rfl)
      | ((with_reducible apply EH.nil); rfl))
    repeat
     (first
      | (apply ak; iterate 3 rfl) | (apply ah; iterate 3 rfl) | apply EL.nil | (apply EC.t0; rfl)
      | (with_reducible first | apply EK.nc | apply EC.seq | apply EC.r0 | apply EC.ret | apply EK.aG))
    rw [hI]
    exact EK.Dc [] rfl rfl (RL.cons Rf.same RL.nil) (Xt _) ⟨rfl, rfl⟩
   | false =>
    rw [hq] at he
    rw [if_neg (by rw [hq]; decide), ← XI hlt] at hI
    have hfin : res.map dNd = [] ++ (ns.take k).map dNd ++ [.tup [.arr 32 xh, .bs xb]] ++ (ns.drop k).map dNd := by
     rw [hI]
     simp [dNd]
    repeat
     (first
      | (with_reducible apply EC.seq))
    refine EC.draw 14 (by kernel_rfl) ?_
    simp only [Xp, Xu, mP, Xq]
    repeat
     (first
      | (apply fD (hL); rfl; exact aj.refl _ _; exact enA; iterate 2 rfl) | (apply aX; iterate 3 rfl) | (apply dH; iterate 6 rfl)
      | (apply dA; iterate 7 rfl) | (apply bD; iterate 5 rfl) | (apply jI; iterate 4 rfl) | (apply dw; rfl; exact I.a; iterate 4 rfl)
      | (apply jm (b := true); (iterate 2 rfl); exact aK; iterate 2 rfl) | (apply iL; iterate 4 rfl)
      | (apply dJ; (iterate 4 rfl); exact ixA; iterate 2 rfl)
      | ((with_reducible apply EH.nil); rfl))
    repeat
     (first
      | apply EL.nil | (apply EC.f0; rfl) | (with_reducible first | apply EK.nc | apply EC.seq | apply EC.x0 | apply EK.s0 | apply EK.aY))
    refine EC.draw 14 (by kernel_rfl) ?_
    simp only [Xp, Xu, mP, Xq]
    repeat
     (first
      | (apply lH; (iterate 2 rfl); exact he; iterate 2 rfl) | (apply aX; iterate 3 rfl) | (apply dH; iterate 6 rfl) | (apply dA; iterate 7 rfl)
      | (apply bD; iterate 5 rfl) | (apply jI; iterate 4 rfl) | (apply dw; rfl; exact I.a; iterate 4 rfl)
      | (apply jm (b := true); (iterate 2 rfl); exact aK; iterate 2 rfl) | (apply iL; iterate 4 rfl)
      | (apply dJ; (iterate 4 rfl); exact ixA; iterate 2 rfl)
      | ((with_reducible apply EH.nil); rfl))
    repeat
     (first
      | (apply ak; iterate 3 rfl) | apply EL.nil | (apply EC.f0; rfl)
      | (with_reducible first | apply EK.nc | apply EC.seq | apply EC.r0 | apply EC.k0))
    refine EL.le (Le.row 40 33) ?_
    repeat
     (first
      | (apply GX; (iterate 3 rfl); exact ⟨by omega, by rw [hml, XL]; omega⟩; iterate 2 rfl) | (apply ah; iterate 3 rfl)
      | ((apply ig; rfl; exact saA; (iterate 5 rfl); (focus (constructor <;> (first | (simp; done) | (simp; omega))))); intro _)
      | apply EL.nil | ((with_reducible apply EK.h0); apply EK.code) | (with_reducible apply EC.seq))
    refine EC.le (Le.freeze (pre := []) rfl) ?_
    refine EC.le (Le.refine (t := 6) (d' := .sl 33 ((ns.drop k).map dNd)) rfl (Rf.fact (by rw [← hdr]; exact List.mem_cons_self) rfl)) ?_
    simp only [List.nil_append]
    refine EC.le (Le.row 40 33) ?_
    refine EC.iU 9 [0, 1, 2, 4, 5, 7] [3, 6, 8] [_] _ (by kernel_rfl) (by kernel_rfl) rfl ?_
    simp only [bJ, XD, XG, Xz, Xy]
    repeat
     (first
      | (apply Jm; (iterate 3 rfl); exact ⟨by omega, by rw [hml, XL]; omega⟩; iterate 2 rfl) | (apply aX; iterate 3 rfl)
      | (apply dw; rfl; exact I.a; iterate 4 rfl) | (apply kK; iterate 9 rfl))
    rw [XL, htk]
    refine EM.nil ?_
    repeat (first | rw [Xr] | rw [List.nil_append])
    refine CH.mut (os := [_]) (rest := []) rfl rfl (gq rfl rfl rfl rfl rfl ?_) ?_
    ·
     rw [htl]
     constructor <;> (simp; omega)
    rintro _ _ ⟨v2, rfl, rfl⟩
    try simp only [St.put]
    repeat (first | rw [Xr] | rw [List.nil_append])
    refine CH.mut (os := [_]) (rest := []) rfl rfl (gq rfl rfl rfl rfl rfl ?_) ?_
    ·
     rw [htl]
     constructor <;> (simp; omega)
    rintro _ _ ⟨v3, rfl, rfl⟩
    try simp only [St.put]
    repeat (first | rw [Xr] | rw [List.nil_append])
    refine CH.mut (os := [_]) (rest := []) rfl rfl (gq rfl rfl rfl rfl rfl ?_) ?_
    ·
     rw [List.length_append, htl, hdl]
     constructor <;> (simp; omega)
    rintro _ _ ⟨v4, rfl, rfl⟩
    try simp only [St.put]
    repeat (first | rw [Xr] | rw [List.nil_append])
    refine CH.nil ?_
    try simp only [mP, Xq]
    refine EL.le (Le.freeze (pre := []) rfl) ?_
    simp only [List.nil_append]
    repeat
     (first
      | (apply ah; iterate 3 rfl) | apply EL.nil | ((with_reducible apply EK.h0); apply EK.code) | (with_reducible apply EC.ret))
    exact EK.Dc [] rfl rfl (RL.cons (Rf.fact (by rw [hfin]; exact List.mem_cons_self) rfl) RL.nil) (Xt _) ⟨rfl, rfl⟩
 ·
  have hke : k = ns.length := by omega
  rw [XP (by omega), gG] at hI
  have hfin : res.map dNd = [] ++ (ns.take k).map dNd ++ [.tup [.arr 32 xh, .bs xb]] ++ (ns.drop k).map dNd := by
   rw [hI, XP (by omega)]
   simp [dNd]
  repeat
   (first
    | (with_reducible apply EC.seq))
  refine EC.draw 14 (by kernel_rfl) ?_
  simp only [Xp, Xu, mP, Xq]
  repeat
   (first
    | (apply uj; iterate 2 rfl) | (apply aX; iterate 3 rfl) | (apply jI; iterate 4 rfl)
    | (apply jm (b := false); (iterate 2 rfl); exact aK; iterate 2 rfl) | (apply iL; iterate 4 rfl) | ((with_reducible apply EH.nil); rfl))
  repeat
   (first
    | apply EL.nil | (apply EC.f0; rfl) | (with_reducible first | apply EK.nc | apply EC.seq | apply EC.x0 | apply EK.s0 | apply EK.aY))
  refine EC.draw 14 (by kernel_rfl) ?_
  simp only [Xp, Xu, mP, Xq]
  repeat
   (first
    | (apply uj; iterate 2 rfl) | (apply aX; iterate 3 rfl) | (apply jI; iterate 4 rfl)
    | (apply jm (b := false); (iterate 2 rfl); exact aK; iterate 2 rfl) | (apply iL; iterate 4 rfl) | ((with_reducible apply EH.nil); rfl))
  repeat
   (first
    | (apply ak; iterate 3 rfl) | apply EL.nil | (apply EC.f0; rfl)
    | (with_reducible first | apply EK.nc | apply EC.seq | apply EC.r0 | apply EC.k0))
  refine EL.le (Le.row 40 33) ?_
  repeat
   (first
    | (apply GX; (iterate 3 rfl); exact ⟨by omega, by rw [hml, XL]; omega⟩; iterate 2 rfl) | (apply ah; iterate 3 rfl)
    | ((apply ig; rfl; exact saA; (iterate 5 rfl); (focus (constructor <;> (first | (simp; done) | (simp; omega))))); intro _)
    | apply EL.nil | ((with_reducible apply EK.h0); apply EK.code) | (with_reducible apply EC.seq))
  refine EC.le (Le.freeze (pre := []) rfl) ?_
  refine EC.le (Le.refine (t := 6) (d' := .sl 33 ((ns.drop k).map dNd)) rfl (Rf.fact (by rw [← hdr]; exact List.mem_cons_self) rfl)) ?_
  simp only [List.nil_append]
  refine EC.le (Le.row 40 33) ?_
  refine EC.iU 9 [0, 1, 2, 4, 5, 7] [3, 6, 8] [_] _ (by kernel_rfl) (by kernel_rfl) rfl ?_
  simp only [bJ, XD, XG, Xz, Xy]
  repeat
   (first
    | (apply Jm; (iterate 3 rfl); exact ⟨by omega, by rw [hml, XL]; omega⟩; iterate 2 rfl) | (apply aX; iterate 3 rfl)
    | (apply dw; rfl; exact I.a; iterate 4 rfl) | (apply kK; iterate 9 rfl))
  rw [XL, htk]
  refine EM.nil ?_
  repeat (first | rw [Xr] | rw [List.nil_append])
  refine CH.mut (os := [_]) (rest := []) rfl rfl (gq rfl rfl rfl rfl rfl ?_) ?_
  ·
   rw [htl]
   constructor <;> (simp; omega)
  rintro _ _ ⟨v2, rfl, rfl⟩
  try simp only [St.put]
  repeat (first | rw [Xr] | rw [List.nil_append])
  refine CH.mut (os := [_]) (rest := []) rfl rfl (gq rfl rfl rfl rfl rfl ?_) ?_
  ·
   rw [htl]
   constructor <;> (simp; omega)
  rintro _ _ ⟨v3, rfl, rfl⟩
  try simp only [St.put]
  repeat (first | rw [Xr] | rw [List.nil_append])
  refine CH.mut (os := [_]) (rest := []) rfl rfl (gq rfl rfl rfl rfl rfl ?_) ?_
  ·
   rw [List.length_append, htl, hdl]
   constructor <;> (simp; omega)
  rintro _ _ ⟨v4, rfl, rfl⟩
  try simp only [St.put]
  repeat (first | rw [Xr] | rw [List.nil_append])
  refine CH.nil ?_
  try simp only [mP, Xq]
  refine EL.le (Le.freeze (pre := []) rfl) ?_
  simp only [List.nil_append]
  repeat
   (first
    | (apply ah; iterate 3 rfl) | apply EL.nil | ((with_reducible apply EK.h0); apply EK.code) | (with_reducible apply EC.ret))
  exact EK.Dc [] rfl rfl (RL.cons (Rf.fact (by rw [hfin]; exact List.mem_cons_self) rfl) RL.nil) (Xt _) ⟨rfl, rfl⟩
end E
end Go.Proofs.YtelbhdobjdnglaaGreat
namespace Go.Proofs.YtelbhdobjdnglaaGreat
set_option linter.unusedVariables false
set_option maxRecDepth 20000
set_option maxHeartbeats 8000000
open Go.RowKit Mono Rlp Go.Sort
namespace E
abbrev Pr := List UInt8 × List UInt8
def sp (x : Pr) : Pr := (split x.1, x.2)
def srt (ps : List Pr) : List Pr := ps.mergeSort fun a b => decide (a.1 ≤ b.1)
theorem iF (ps : List Pr) : (srt ps).Perm ps := List.mergeSort_perm _ _
theorem yE (ps : List Pr) : (srt ps).Pairwise fun a b => a.1 ≤ b.1 := by
 have h := List.pairwise_mergeSort (le := fun a b : Pr => decide (a.1 ≤ b.1)) (fun a b c h1 h2 => by simp only [decide_eq_true_eq] at h1 h2 ⊢; exact List.le_trans h1 h2) (fun a b => by simp only [ZK, decide_eq_true_eq]; exact List.le_total a.1 b.1) ps
 exact h.imp fun h => by simpa using h
theorem MN {ps : List Pr} (h : (ps.map (·.1)).Nodup) {a b : Pr} (ha : a ∈ ps) (hb : b ∈ ps) (e : a.1 = b.1) : a = b := by
 obtain ⟨i, hi, rfl⟩ := YR ha
 obtain ⟨j, hj, rfl⟩ := YR hb
 have := (List.getElem_inj (h₀ := by simpa using hi) (h₁ := by simpa using hj) h).1 (by simpa using e)
 subst this
 rfl
theorem Uu {ps qs : List Pr} (hp : qs.Perm ps) (hs : qs.Pairwise fun a b => a.1 ≤ b.1) (hn : (ps.map (·.1)).Nodup) : qs = srt ps :=
 List.Perm.eq_of_pairwise (fun a b ha hb h1 h2 => MN hn (hp.mem_iff.1 ha) ((iF ps).mem_iff.1 hb) (Zy h1 h2)) hs (yE ps) (hp.trans (iF ps).symm)
def Di (l : List Pr) : R :=
 if 100000 < l.length ∨ l.any lg = true then .tpl [.v (.slice none 0 0), .v (.int .i64 3)]
 else if l.any (·.2.isEmpty) = true then .tpl [.v (.slice none 0 0), .v (.int .i64 1)]
 else if ((l.map sp).map (·.1)).Nodup then .tpl [.sl 2 ((srt (l.map sp)).map dPr), .v (.int .i64 0)]
 else .tpl [.v (.slice none 0 0), .v (.int .i64 1)]
theorem zL (l m : List UInt8) : Fn 137 [.bs l, .bs m] (· = .val (.v (.bool (l == m)))) := by
 have hb := (jT l m).1
 refine Fn.walk 10 Tryz.func137 rfl Tryz.ntmps137 (by simp) fun X => ?_
 repeat
  (first
   | (apply dW; (iterate 2 rfl); exact hb; iterate 2 rfl) | (apply ak; iterate 3 rfl) | (apply ah; iterate 3 rfl) | (apply KN; iterate 3 rfl)
   | apply EL.nil | (with_reducible first | apply EK.nc | apply EC.seq | apply EC.r0 | apply EC.ret))
 exact EK.lZ rfl rfl rfl
theorem jf {l : List Pr} (h : l.any lg = false) {x : Pr} (hx : x ∈ l) : x.1.length ≤ 64 ∧ x.2.length ≤ 1048576 := by
 have := List.any_eq_false.1 h x hx
 unfold lg at this
 simp at this
 omega
theorem NQ {qs : List Pr} (hq : qs.Pairwise fun a b => a.1 ≤ b.1) (h : ∀ j (hj : j + 1 < qs.length), qs[j].1 ≠ qs[j + 1].1) : (qs.map (·.1)).Nodup := by
 unfold List.Nodup
 rw [Zg, Yn]
 intro i j hi hj hij e
 have h1 := Yn.1 hq i (i + 1) hi (by omega) (by omega)
 have h2 : qs[i + 1].1 ≤ qs[j].1 := by
  rcases XY (i + 1) j with h | h
  · exact Yn.1 hq (i + 1) j (by omega) hj h
  ·
   obtain rfl : j = i + 1 := by omega
   exact List.le_refl _
 exact h i (by omega) (Zy h1 (by rw [e]; exact h2))
theorem SK (l : List Pr) : Fn 97 [.sl 2 (l.map dPr)] (· = Di l) := by
 have h1 := Gp l
 unfold Di
 have hl : (l.map dPr).length = l.length := by rw [List.length_map]
 refine Fn.walk 56 Tryz.func97 rfl Tryz.ntmps97 (by simp) fun X => ?_
 by_cases hbig : 100000 < l.length
 ·
  rw [if_pos (.inl hbig)]
  repeat
   (first
    | (apply eX; iterate 2 rfl) | (apply ak; iterate 3 rfl) | (apply ah; iterate 3 rfl) | (apply aS; iterate 4 rfl)
    | (apply aC (b := true); (iterate 2 rfl); exact aK; iterate 2 rfl) | (apply aJ; iterate 4 rfl) | apply EL.nil
    | (apply EC.t0; rfl) | (with_reducible first | apply EK.nc | apply EC.seq | apply EC.r0 | apply EC.ret | apply EK.aG))
  exact EK.Hy rfl rfl rfl rfl
 ·
  cases hany : l.any lg with
  | true =>
   rw [hany] at h1
   rw [if_pos (.inr rfl)]
   repeat
    (first
     | (apply aA (h1); rfl; exact aj.refl _ _; exact enA; iterate 2 rfl) | (apply ak; iterate 3 rfl) | (apply ah; iterate 3 rfl)
     | (apply aS; iterate 4 rfl) | (apply aC (b := false); (iterate 2 rfl); exact aK; iterate 2 rfl) | (apply aJ; iterate 4 rfl) | apply EL.nil
     | (apply EC.t0; rfl) | (with_reducible first | apply EK.nc | apply EC.seq | apply EC.r0 | apply EC.ret | apply EK.aG))
   exact EK.Hy rfl rfl rfl rfl
  | false =>
   rw [hany] at h1
   rw [if_neg (by simp; omega)]
   repeat
    (first
     | (apply aA (h1); rfl; exact aj.refl _ _; exact enA; iterate 2 rfl) | (apply ak; iterate 3 rfl) | (apply ah; iterate 3 rfl)
     | (apply aS; iterate 4 rfl) | (apply aC (b := false); (iterate 2 rfl); exact aK; iterate 2 rfl) | (apply aJ; iterate 4 rfl) | apply EL.nil
     | (apply EC.f0; rfl) | (with_reducible first | apply EK.nc | apply EC.seq | apply EC.r0 | apply EC.k0 | apply EC.b0))
   refine EC.le (Le.row 248 2) ?_
   refine EC.loop (ι := {p : Value × Nat // p.2 ≤ l.length ∧ (l.take p.2).any (·.2.isEmpty) = false})
    (fun p => ⟨[(17, .val (.v (.int .i64 (p.1.2 : Int)))), (16, .val (.v (.int .i64 ((l.map dPr).length : Int)))), (15, .val (.sl 2 (l.map dPr))), (4, .val (.v p.1.1))],
     [.row p.1.1 248 2 ((l.take p.1.2).map fun x => dPr (sp x))], []⟩)
    (fun p => l.length - p.1.2) ⟨(.slice none 0 0, 0), by omega, by simp⟩ ?_ ?_
   · exact Le.kp
   rintro ⟨⟨rv, n⟩, hn, hI⟩
   dsimp only at hn hI ⊢
   by_cases hlt : n < l.length
   ·
    have hat : (l.map dPr)[n]? = some (.tup [.bs l[n].1, .bs l[n].2]) := by rw [XK, List.getElem?_eq_getElem hlt]; rfl
    have hx := jf hany (XW hlt)
    have hs := uX l[n].1 (by omega)
    by_cases he : l[n].2 = []
    ·
     have he0 : (l[n].2.length : Int) = 0 := by rw [he]; rfl
     have hempty : l.any (·.2.isEmpty) = true := Y5.2 ⟨_, XW hlt, by rw [he]; rfl⟩
     repeat
      (first
       | (apply ah; iterate 3 rfl) | (apply bn; iterate 6 rfl) | (apply aH; iterate 5 rfl) | (apply bH; rfl; exact I.a; iterate 4 rfl)
       | (apply aC (b := true); (iterate 2 rfl); exact aK; iterate 2 rfl) | (apply aP; iterate 4 rfl)
       | (apply bT; (iterate 4 rfl); exact ixA; iterate 2 rfl)
       | (apply aT; rfl; rfl; rfl; intro _) | (apply aI; rfl; exact saA; iterate 4 rfl) | apply EL.nil
       | (apply EC.t0; rfl)
       | (with_reducible first | apply EK.nc | apply EC.seq | apply EC.r0 | apply EC.k0 | apply EC.b0 | apply EC.ret | apply EK.dK | apply EK.aG))
     refine EK.Hy rfl rfl rfl ?_
     rw [if_pos hempty]
    ·
     have he0 : ¬ (l[n].2.length : Int) = 0 := fun h => he (X5 (by omega))
     repeat
      (first
       | (apply bn; iterate 6 rfl) | (apply aH; iterate 5 rfl) | (apply bH; rfl; exact I.a; iterate 4 rfl)
       | (apply aC (b := true); (iterate 2 rfl); exact aK; iterate 2 rfl) | (apply aC (b := false); (iterate 2 rfl); exact aK; iterate 2 rfl)
       | (apply aP; iterate 4 rfl)
       | (apply bT; (iterate 4 rfl); exact ixA; iterate 2 rfl)
       | (apply aT; rfl; rfl; rfl; intro _) | (apply aI; rfl; exact saA; iterate 4 rfl) | apply EL.nil
       | (apply EC.t0; rfl) | (apply EC.f0; rfl)
       | (with_reducible first | apply EK.nc | apply EC.seq | apply EC.r0 | apply EC.k0 | apply EC.b0))
     have hm : ((l.take n).map fun x => dPr (sp x)).length = n := by rw [List.length_map, List.length_take]; omega
     have hnx : (l.take (n + 1)).map (fun x => dPr (sp x)) = (l.take n).map (fun x => dPr (sp x)) ++ [.tup [.bs (split l[n].1), .bs l[n].2]] := by rw [XE hlt, Yd]; rfl
     have hIx : (l.take (n + 1)).any (·.2.isEmpty) = false := by
      rw [XE hlt, List.any_append, hI, Bool.false_or, List.any_cons, List.any_nil, Bool.or_false]
      cases hv : l[n].2 with
      | nil => exact absurd hv he
      | cons _ _ => rfl
     refine EC.le (Le.pick [1, 0] [_, _] rfl (by decide) rfl) ?_
     refine EC.iU 9 [0, 1, 2, 4, 5] [3, 6, 7, 8] [_] _ (by kernel_rfl) (by kernel_rfl) rfl ?_
     simp only [bJ, XD, XG, Xz, Xy]
     repeat
      (first
       | (apply aX; iterate 3 rfl) | (apply dH; iterate 6 rfl) | (apply dw; rfl; exact I.a; iterate 4 rfl))
     refine EM.nil ?_
     repeat (first | rw [Xr] | rw [List.nil_append])
     refine CH.cut 3 ?_
     simp only [Xp, Xu, mP, Xq]
     repeat
      (first
       | (apply fD (hs); rfl; exact aj.refl _ _; exact enA; iterate 2 rfl) | (apply iM; iterate 7 rfl) | (apply kK; iterate 9 rfl))
     refine EM.nil ?_
     repeat (first | rw [Xr] | rw [List.nil_append])
     refine CH.mut (os := [_]) (rest := []) rfl rfl (gq rfl rfl rfl rfl rfl (by rw [hm]; constructor <;> (simp; omega))) ?_
     rintro _ _ ⟨v', rfl, rfl⟩
     try simp only [St.put]
     repeat (first | rw [Xr] | rw [List.nil_append])
     refine CH.nil ?_
     try simp only [mP, Xq]
     repeat
      (first
       | (apply ak; iterate 3 rfl) | (apply ah; iterate 3 rfl) | (apply jh; (iterate 3 rfl); (focus omega); (focus omega); iterate 2 rfl) | apply EL.nil
       | (with_reducible first | apply EK.nc | apply EC.r0 | apply EK.n0))
     refine EK.again ⟨(v', n + 1), hlt, hIx⟩ (by dsimp only; omega) ?_
     dsimp only
     rw [hnx]
     simp only [XV]
     exact Le.kp
   ·
    obtain rfl : n = l.length := by omega
    have hne : l.any (·.2.isEmpty) = false := by rwa [Yl] at hI
    have hrow : (l.take l.length).map (fun x => dPr (sp x)) = (l.map sp).map dPr := by rw [Yl, YJ]; rfl
    rw [hrow]
    have hso := Lp rv (l.map sp) (by rw [List.length_map]; omega)
    simp only [hne, YT, if_false]
    repeat
     (first
      | (apply KO (os := [.row rv 248 2 ((l.map sp).map dPr)]) hso; (iterate 2 rfl); exact aj.refl _ _; (focus (intro _ _; simp [go_sem]; done)); (iterate 2 rfl); rintro _ _ ⟨rfl, qs, hp, hq, rfl⟩; refine EL.le (Le.freeze (pre := []) rfl) ?_; refine EL.le (Le.refine (t := 4) rfl (Rf.fact List.mem_cons_self rfl)) ?_)
      | (apply ak; iterate 3 rfl) | (apply ah; iterate 3 rfl) | (apply aC (b := false); (iterate 2 rfl); exact aK; iterate 2 rfl) | apply EL.nil
      | (apply EC.f0; rfl)
      | (with_reducible first | apply EK.nc | apply EC.seq | apply EC.r0 | apply EC.b0 | apply EC.x0 | apply EK.s0 | apply EK.aY))
    have hql : qs.length = l.length := by rw [hp.length_eq, List.length_map]
    have hqd : (qs.map dPr).length = qs.length := by rw [List.length_map]
    refine EC.loop (ι := {n : Nat // n ≤ qs.length ∧ ∀ j (hj : j + 1 < qs.length), j < n → qs[j].1 ≠ qs[j + 1].1})
     (fun n => ⟨[(7, .val (.v (.int .i64 ((n.1 + 1 : Nat) : Int)))), (4, .val (.sl 2 (qs.map dPr)))], [], []⟩)
     (fun n => qs.length - n.1) ⟨0, by omega, fun j _ h => absurd h (Yc _)⟩ ?_ ?_
    · exact Le.kp
    rintro ⟨n, hn, hI⟩
    dsimp only
    by_cases hlt : n + 1 < qs.length
    ·
     have hat1 : (qs.map dPr)[n]? = some (.tup [.bs qs[n].1, .bs qs[n].2]) := by rw [XK, List.getElem?_eq_getElem (by omega)]; rfl
     have hat2 : (qs.map dPr)[n + 1]? = some (.tup [.bs qs[n + 1].1, .bs qs[n + 1].2]) := by rw [XK, List.getElem?_eq_getElem hlt]; rfl
     have hE := zL qs[n].1 qs[n + 1].1
     by_cases heq : qs[n].1 = qs[n + 1].1
     ·
      rw [show (qs[n].1 == qs[n + 1].1) = true by simpa using heq] at hE
      repeat
       (first
        | (apply ak; iterate 3 rfl) | (apply aC (b := true); (iterate 2 rfl); exact aK; iterate 2 rfl) | (apply aJ; iterate 4 rfl) | apply EL.nil
        | (apply EC.t0; rfl) | (with_reducible first | apply EK.nc | apply EC.seq | apply EC.r0 | apply EC.k0 | apply EC.b0))
      refine EC.draw 12 (by kernel_rfl) ?_
      simp only [Xp, Xu, mP, Xq]
      repeat
       (first
        | (apply fD (hE); rfl; exact aj.refl _ _; exact enA; iterate 2 rfl)
        | (apply dJ; (iterate 4 rfl); exact ⟨by omega, by rw [show (((n + 1 : Nat) : Int) - 1).toNat = n by omega]; exact hat1⟩; iterate 2 rfl) | (apply aX; iterate 3 rfl)
        | (apply dA; iterate 7 rfl) | (apply bD; iterate 5 rfl) | (apply NV; (iterate 3 rfl); (focus omega); (focus omega); iterate 2 rfl)
        | (apply dJ; (iterate 4 rfl); exact ixA; iterate 2 rfl)
        | ((with_reducible apply EH.nil); rfl))
      repeat
       (first
        | (apply ah; iterate 3 rfl) | apply EL.nil | (apply EC.t0; rfl)
        | (with_reducible first | apply EK.nc | apply EC.seq | apply EC.r0 | apply EC.ret | apply EK.dK | apply EK.aG))
      refine EK.Hy rfl rfl rfl ?_
      rw [if_neg]
      intro hnd
      have h3 := (hp.map (·.1)).nodup_iff.2 hnd
      have h4 := (List.getElem_inj (h₀ := by rw [List.length_map]; omega) (h₁ := by rw [List.length_map]; exact hlt) h3 (i := n) (j := n + 1)).1 (by simpa using heq)
      omega
     ·
      rw [show (qs[n].1 == qs[n + 1].1) = false by simpa using heq] at hE
      repeat
       (first
        | (apply ak; iterate 3 rfl) | (apply aC (b := true); (iterate 2 rfl); exact aK; iterate 2 rfl) | (apply aJ; iterate 4 rfl) | apply EL.nil
        | (apply EC.t0; rfl) | (with_reducible first | apply EK.nc | apply EC.seq | apply EC.r0 | apply EC.k0 | apply EC.b0))
      refine EC.draw 12 (by kernel_rfl) ?_
      simp only [Xp, Xu, mP, Xq]
      repeat
       (first
        | (apply fD (hE); rfl; exact aj.refl _ _; exact enA; iterate 2 rfl)
        | (apply dJ; (iterate 4 rfl); exact ⟨by omega, by rw [show (((n + 1 : Nat) : Int) - 1).toNat = n by omega]; exact hat1⟩; iterate 2 rfl) | (apply aX; iterate 3 rfl)
        | (apply dA; iterate 7 rfl) | (apply bD; iterate 5 rfl) | (apply NV; (iterate 3 rfl); (focus omega); (focus omega); iterate 2 rfl)
        | (apply dJ; (iterate 4 rfl); exact ixA; iterate 2 rfl)
        | ((with_reducible apply EH.nil); rfl))
      repeat
       (first
        | (apply ak; iterate 3 rfl) | (apply ah; iterate 3 rfl) | (apply jh; (iterate 3 rfl); (focus omega); (focus omega); iterate 2 rfl) | apply EL.nil
        | (apply EC.f0; rfl) | (with_reducible first | apply EK.nc | apply EC.r0 | apply EC.k0 | apply EK.n0))
      refine EK.again ⟨n + 1, by omega, fun j hj hjn => ?_⟩ (by dsimp only; omega) ?_
      ·
       rcases XY j n with h | h
       · exact hI j hj h
       ·
        obtain rfl : j = n := by omega
        exact heq
      dsimp only
      simp only [XV]
      exact Le.kp
    ·
     have hnd := NQ hq fun j hj => hI j hj (by omega)
     have hnd2 : ((l.map sp).map (·.1)).Nodup := (hp.map (·.1)).nodup_iff.1 hnd
     have hqs := Uu hp hq hnd2
     repeat
      (first
       | (apply ak; iterate 3 rfl) | (apply ah; iterate 3 rfl) | (apply aC (b := false); (iterate 2 rfl); exact aK; iterate 2 rfl)
       | (apply aJ; iterate 4 rfl) | apply EL.nil | (apply EC.f0; rfl)
       | (with_reducible first | apply EK.nc | apply EC.seq | apply EC.r0 | apply EC.x0 | apply EC.ret | apply EK.s0 | apply EK.aY))
     refine EK.Hy rfl rfl rfl ?_
     rw [if_pos hnd2, hqs]
end E
end Go.Proofs.YtelbhdobjdnglaaGreat
namespace Go.Proofs.YtelbhdobjdnglaaGreat
set_option linter.unusedVariables false
open Go.RowKit Mono Rlp
namespace E
theorem uK : ∀ (at_ : Nat) (a b : List UInt8), a < b → a.take at_ = b.take at_ → a.drop at_ < b.drop at_
 | 0, a, b, h, _ => h
 | n + 1, [], [], h, _ => absurd h (List.lt_irrefl _)
 | n + 1, [], _ :: _, _, e => by simp at e
 | n + 1, _ :: _, [], h, _ => absurd h (List.not_lt_nil _)
 | n + 1, x :: a, y :: b, h, e => by
  simp only [Xp, Zl] at e
  obtain ⟨rfl, e⟩ := e
  rcases List.cons_lt_cons_iff.1 h with h | ⟨_, h⟩
  · exact absurd h (by simp)
  · exact uK n a b h e
theorem sandwich : ∀ (n : Nat) (a b c : List UInt8), a ≤ b → b ≤ c → a.take n = c.take n → n ≤ a.length → b.take n = a.take n ∧ n ≤ b.length
 | 0, a, b, c, _, _, _, _ => ⟨rfl, XQ _⟩
 | n + 1, [], b, c, _, _, _, h => by simp at h
 | n + 1, x :: a, [], c, h, _, _, _ => by
  rw [← List.not_lt] at h
  exact absurd (List.nil_lt_cons x a) h
 | n + 1, x :: a, y :: b, [], _, _, e, _ => by simp at e
 | n + 1, x :: a, y :: b, z :: c, h1, h2, e, h => by
  simp only [Xp, Zl] at e
  obtain ⟨rfl, e⟩ := e
  rw [List.cons_le_cons_iff] at h1 h2
  have hxy : x = y := by
   rcases h1 with h1 | ⟨h1, _⟩
   ·
    rcases h2 with h2 | ⟨h2, _⟩
    · exact absurd (UInt8.lt_trans h1 h2) (by simp)
    · exact h2.symm
   · exact h1
  subst hxy
  have h1' : a ≤ b := by
   rcases h1 with h1 | ⟨_, h1⟩
   · exact absurd h1 (by simp)
   · exact h1
  have h2' : b ≤ c := by
   rcases h2 with h2 | ⟨_, h2⟩
   · exact absurd h2 (by simp)
   · exact h2
  obtain ⟨g1, g2⟩ := sandwich n a b c h1' h2' e (by simpa using h)
  exact ⟨by rw [Xp, Xp, g1], by simpa using g2⟩
theorem eY : ∀ (a b : List UInt8), a.take (common a b) = b.take (common a b) ∧ common a b ≤ a.length ∧ common a b ≤ b.length
 | [], b => by simp [common]
 | _ :: _, [] => by simp [common]
 | x :: a, y :: b => by
  unfold common
  split
  ·
   rename_i h
   subst h
   obtain ⟨g1, g2, g3⟩ := eY a b
   refine ⟨by rw [Xp, Xp, g1], by simpa using g2, by simpa using g3⟩
  · simp
structure lD (at_ : Nat) (l : List Pr) : Prop where
 ord : l.Pairwise fun a b => a.1 < b.1
 len : ∀ x ∈ l, at_ ≤ x.1.length
 pre : ∀ x ∈ l, ∀ y ∈ l, x.1.take at_ = y.1.take at_
 nib : ∀ x ∈ l, ∀ b ∈ x.1, b.toNat < 16
theorem lD.sub {at_ : Nat} {l m : List Pr} (h : lD at_ l) (hs : m.Sublist l) : lD at_ m := ⟨h.ord.sublist hs, fun x hx => h.len x (hs.subset hx), fun x hx y hy => h.pre x (hs.subset hx) y (hs.subset hy), fun x hx => h.nib x (hs.subset hx)⟩
theorem lD.longer {at_ : Nat} {x : Pr} {r : List Pr} (h : lD at_ (x :: r)) {y : Pr} (hy : y ∈ r) : at_ < y.1.length := by
 have h1 := h.len y (Xw _ hy)
 rcases XY at_ y.1.length with h2 | h2
 · exact h2
 ·
  exfalso
  have h3 := uK at_ x.1 y.1 ((Yj.1 h.ord).1 y hy) (h.pre _ List.mem_cons_self _ (Xw _ hy))
  rw [XP h2] at h3
  exact List.not_lt_nil _ h3
def kJ (at_ : Nat) (x : Pr) : UInt8 := x.1.getD at_ 0
theorem Fq {at_ : Nat} {x : Pr} (h : at_ < x.1.length) : x.1[at_]? = some (kJ at_ x) := by
 unfold kJ
 rw [List.getElem?_eq_getElem h, List.getD_eq_getElem?_getD, List.getElem?_eq_getElem h]
 rfl
theorem lD.mono {at_ : Nat} {l : List Pr} (h : lD at_ l) (hl : ∀ x ∈ l, at_ < x.1.length) {i j : Nat} (hi : i < l.length) (hj : j < l.length) (hij : i ≤ j) : (kJ at_ l[i]).toNat ≤ (kJ at_ l[j]).toNat := by
 rcases XY i j with h1 | h1
 ·
  have h2 := Yn.1 h.ord i j hi hj h1
  have h3 := uK at_ _ _ h2 (h.pre _ (XW hi) _ (XW hj))
  have e1 := hl _ (XW hi)
  have e2 := hl _ (XW hj)
  rw [XI e1, XI e2] at h3
  have e3 : kJ at_ l[i] = l[i].1[at_] := by unfold kJ; rw [List.getD_eq_getElem?_getD, List.getElem?_eq_getElem e1]; rfl
  have e4 : kJ at_ l[j] = l[j].1[at_] := by unfold kJ; rw [List.getD_eq_getElem?_getD, List.getElem?_eq_getElem e2]; rfl
  rw [e3, e4]
  rcases List.cons_lt_cons_iff.1 h3 with h4 | ⟨h4, _⟩
  · exact Nat.le_of_lt (XH.1 h4)
  ·
   rw [h4]
   exact Nat.le_refl _
 ·
  obtain rfl : i = j := by omega
  exact Nat.le_refl _
def bdF : Nat → List Pr → Nat → Tn
 | 0, _, _ => .nil
 | f + 1, l, at_ => match l with
  | [] => .nil
  | [x] => .leaf (x.1.drop at_) x.2
  | x :: y :: r =>
   if common (x.1.drop at_) (((y :: r).getLast (by simp)).1.drop at_) > 0 then
    .ext ((x.1.drop at_).take (common (x.1.drop at_) (((y :: r).getLast (by simp)).1.drop at_))) (bdF f (x :: y :: r) (at_ + common (x.1.drop at_) (((y :: r).getLast (by simp)).1.drop at_)))
   else if (x.1.drop at_).length = 0 then .br (fun d => bdF f ((y :: r).filter fun z => (kJ at_ z).toNat == d) (at_ + 1)) x.2
   else .br (fun d => bdF f ((x :: y :: r).filter fun z => (kJ at_ z).toNat == d) (at_ + 1)) []
theorem lD.qJ {at_ : Nat} {l : List Pr} (h : lD at_ l) {i j : Nat} (hi : i < l.length) (hj : j < l.length) (hij : i ≤ j) : l[i].1.drop at_ ≤ l[j].1.drop at_ := by
 rcases XY i j with h1 | h1
 · exact List.le_of_lt (uK at_ _ _ (Yn.1 h.ord i j hi hj h1) (h.pre _ (XW hi) _ (XW hj)))
 ·
  obtain rfl : i = j := by omega
  exact List.le_refl _
theorem lD.more {at_ n : Nat} {l : List Pr} (h : lD at_ l) (h0 : 0 < l.length) (hn : n = common (l[0].1.drop at_) (l[l.length - 1].1.drop at_)) : lD (at_ + n) l := by
 obtain ⟨c1, c2, c3⟩ := eY (l[0].1.drop at_) (l[l.length - 1].1.drop at_)
 rw [← hn] at c1 c2 c3
 have key : ∀ x ∈ l, (x.1.drop at_).take n = (l[0].1.drop at_).take n ∧ n ≤ (x.1.drop at_).length := fun x hx => by
  obtain ⟨i, hi, rfl⟩ := YR hx
  exact sandwich n _ _ _ (h.qJ h0 hi (XQ _)) (h.qJ hi (by omega) (by omega)) c1 c2
 refine ⟨h.ord, fun x hx => ?_, fun x hx y hy => ?_, h.nib⟩
 ·
  have h1 := (key x hx).2
  have h2 := h.len x hx
  rw [Xx] at h1
  omega
 · rw [List.take_add, List.take_add, h.pre x hx y hy, (key x hx).1, (key y hy).1]
theorem Jg (f at_ : Nat) : bdF f [] at_ = .nil := by cases f <;> rfl
theorem Jf (f at_ : Nat) (x : Pr) : bdF (f + 1) [x] at_ = .leaf (x.1.drop at_) x.2 := rfl
theorem QA (f at_ : Nat) (l : List Pr) (h : 1 < l.length) (hn : common (l[0].1.drop at_) (l[l.length - 1].1.drop at_) > 0) : bdF (f + 1) l at_ = .ext ((l[0].1.drop at_).take (common (l[0].1.drop at_) (l[l.length - 1].1.drop at_))) (bdF f l (at_ + common (l[0].1.drop at_) (l[l.length - 1].1.drop at_))) := by
 match l, h with
 | x :: y :: r, _ =>
  have e : (y :: r).getLast (by simp) = (x :: y :: r)[(x :: y :: r).length - 1] := by rw [List.getLast_eq_getElem]; simp
  rw [bdF, e]
  exact if_pos hn
theorem QC (f at_ : Nat) (l : List Pr) (h : 1 < l.length) (hn : ¬ common (l[0].1.drop at_) (l[l.length - 1].1.drop at_) > 0) (h0 : (l[0].1.drop at_).length = 0) : bdF (f + 1) l at_ = .br (fun d => bdF f (l.tail.filter fun z => (kJ at_ z).toNat == d) (at_ + 1)) l[0].2 := by
 match l, h with
 | x :: y :: r, _ =>
  have e : (y :: r).getLast (by simp) = (x :: y :: r)[(x :: y :: r).length - 1] := by rw [List.getLast_eq_getElem]; simp
  rw [bdF, e]
  exact (if_neg hn).trans (if_pos h0)
theorem QB (f at_ : Nat) (l : List Pr) (h : 1 < l.length) (hn : ¬ common (l[0].1.drop at_) (l[l.length - 1].1.drop at_) > 0) (h0 : ¬ (l[0].1.drop at_).length = 0) : bdF (f + 1) l at_ = .br (fun d => bdF f (l.filter fun z => (kJ at_ z).toNat == d) (at_ + 1)) [] := by
 match l, h with
 | x :: y :: r, _ =>
  have e : (y :: r).getLast (by simp) = (x :: y :: r)[(x :: y :: r).length - 1] := by rw [List.getLast_eq_getElem]; simp
  rw [bdF, e]
  exact (if_neg hn).trans (if_neg h0)
section
variable {N : Nat} {X : Cx N} {S : St} {ops : Array Oper} {o : Oper} {Q : Exit → Act → World → Prop} {l : List Oper} {TT : St → List Fr → Prop} {EE : List Fr} {rs : List (Tmp × R)} {os : List Obj} {fs : List (Value × D)}
theorem Le.VN {g : Nat} {t : TypeId} {d d' : D} (h : Refine fs d d') : Le X ⟨rs, .var g t d :: os, fs⟩ ⟨rs, .var g t d' :: os, fs⟩ := fun a w ha => by
 have hok : ∀ b, X.ok (.var g t d :: os) w b ↔ X.ok (.var g t d' :: os) w b := fun b => ⟨fun hb => ⟨hb.1, hb.2.1, fun o ho => by
   rcases XB.1 ho with rfl | ho
   · exact hb.2.2 (.var g t d) List.mem_cons_self
   · exact hb.2.2 o (Xw _ ho)⟩, fun hb => ⟨hb.1, hb.2.1, fun o ho => by
   rcases XB.1 ho with rfl | ho
   · exact hb.2.2 (.var g t d') List.mem_cons_self
   · exact hb.2.2 o (Xw _ ho)⟩⟩
 have hap := Yj.1 ha.mem.apart
 have hf : ∀ f ∈ fs, Reads (X.ok (.var g t d' :: os) w) w f.2 [f.1] := fun f hf => Reads.mono (fun b hb => (hok b).1 hb) (fun _ _ => rfl) _ _ (ha.mem.fact f hf)
 refine ⟨⟨ha.mem.gr, Yj.2 ⟨fun p hp b e => hap.1 p hp b e, hap.2⟩, fun o ho => ?_, hf⟩, fun t' r hr => (ha.regs t' r hr).mono (fun b hb => (hok b).1 hb) fun _ _ => rfl, ha.size, ha.defers⟩
 rcases XB.1 ho with rfl | ho
 ·
  obtain ⟨h1, cs, h2, h3⟩ := ha.mem.at_ (.var g t d) List.mem_cons_self
  exact ⟨h1, cs, h2, (Refine.reads hf _ _ _ h (Reads.mono (fun b hb => (hok b).1 hb) (fun _ _ => rfl) _ _ h3)).1⟩
 · exact (ha.mem.at_ o (Xw _ ho)).move (fun b hb => (hok b).1 hb) (fun _ _ => rfl) fun _ _ => rfl
end
theorem Ej : ∀ (ds : List D) (k : Nat) (d : D), (∀ e ∈ ds, e.size = 1 ∧ e.agg = false ∧ ∀ u, u.size = 1 → u.agg = false → e.upd 0 u = some u) → k < ds.length → d.size = 1 → d.agg = false → D.vM ds k d = some (ds.set k d)
 | [], k, d, _, h, _, _ => by simp at h
 | e :: ds, 0, d, he, h, h1, h2 => by
  obtain ⟨e1, e2, e3⟩ := he e (by simp)
  rw [D.vM, if_pos (by omega), e3 d h1 h2]
  rfl
 | e :: ds, k + 1, d, he, h, h1, h2 => by
  obtain ⟨e1, e2, e3⟩ := he e (by simp)
  rw [D.vM, if_neg (by omega), e1, ZN, Ej ds k d (fun x hx => he x (by simp [hx])) (by simpa using h) h1 h2]
  rfl
theorem GU {at_ : Nat} {l : List Pr} (h : lD at_ l) (h0 : 0 < l.length) (hf : at_ < (l[0]'h0).1.length) : ∀ z ∈ l, at_ < z.1.length := by
 cases l with
 | nil => simp at h0
 | cons x r =>
  intro z hz
  rcases XB.1 hz with rfl | hz
  · exact hf
  · exact h.longer hz
theorem Dt (x : UInt8) : (x >>> 4).toNat = x.toNat / 16 := by rw [Zp]; simp [Nat.shiftRight_eq_div_pow]
theorem Dq (x : UInt8) : (x &&& 15).toNat = x.toNat % 16 := by rw [UInt8.toNat_and]; exact Yo _ 4
theorem iG (l : List UInt8) : ∀ x ∈ split l, x.toNat ≤ 15 := by
 intro x hx
 obtain ⟨y, _, hy⟩ := List.mem_flatMap.1 hx
 simp only [XB, Zz, or_false] at hy
 rcases hy with rfl | rfl
 · rw [Dt]; have := y.toNat_lt; omega
 · rw [Dq]; omega
theorem WT : ∀ (f : Nat) (l : List Pr) (at_ : Nat), (∀ x ∈ l, x.1.length ≤ 536870912) → (bdF f l at_).ok := by
 intro f
 induction f with
 | zero => intro l at_ h; exact trivial
 | succ f ih =>
  intro l at_ h
  match l with
  | [] => exact trivial
  | [x] =>
   show (x.1.drop at_).length ≤ 536870912
   have := h x (by simp)
   rw [Xx]
   omega
  | x :: y :: r =>
   have hx := h x (by simp)
   rw [bdF]
   split
   ·
    refine ⟨?_, ih _ _ h⟩
    rw [List.length_take, Xx]
    omega
   ·
    split
    · exact fun i => ih _ _ fun z hz => h z (Xw _ ((Yb.1 hz).1))
    · exact fun i => ih _ _ fun z hz => h z ((Yb.1 hz).1)
def ji (l : List Pr) : Nat := if 100000 < l.length ∨ l.any lg = true then 3 else if l.any (·.2.isEmpty) = true then 1 else if ((l.map sp).map (·.1)).Nodup then 0 else 1
def sJ (l : List Pr) : Tn := bdF 200 (srt (l.map sp)) 0
theorem lQ {l : List Pr} (h : ji l = 0) : Di l = .tpl [.sl 2 ((srt (l.map sp)).map dPr), .v (.int .i64 0)] ∧ l.any lg = false ∧ ((l.map sp).map (·.1)).Nodup := by
 unfold ji at h
 unfold Di
 split at h
 · cases h
 ·
  rename_i h1
  rw [if_neg h1]
  split at h
  · cases h
  ·
   rename_i h2
   rw [if_neg h2]
   split at h
   ·
    rename_i h3
    rw [if_pos h3]
    exact ⟨rfl, by simpa using fun e => h1 (.inr e), h3⟩
   · cases h
theorem EF {l : List Pr} (hn : ((l.map sp).map (·.1)).Nodup) : lD 0 (srt (l.map sp)) := by
 refine ⟨?_, fun x _ => XQ _, fun x _ y _ => rfl, fun x hx b hb => ?_⟩
 ·
  have h1 := yE (l.map sp)
  have h2 : ((srt (l.map sp)).map (·.1)).Nodup := ((iF (l.map sp)).map (·.1)).nodup_iff.2 hn
  unfold List.Nodup at h2
  rw [Zg] at h2
  refine (h1.and h2).imp fun h => ?_
  exact Y1 fun hn => h.2 (Zy h.1 (List.not_lt.1 hn))
 ·
  obtain ⟨y, _, rfl⟩ := XA.1 ((iF (l.map sp)).mem_iff.1 hx)
  have := iG y.1 b hb
  omega
theorem Js {l : List Pr} (h : ji l = 0) : (sJ l).ok := WT _ _ _ fun x hx => by
 obtain ⟨y, hy, rfl⟩ := XA.1 ((iF (l.map sp)).mem_iff.1 hx)
 have := jf (lQ h).2.1 hy
 show (split y.1).length ≤ _
 rw [dB]
 omega
def jM (l : List Pr) : List UInt8 := if ji l = 0 then sumT (sJ l) else zero32
end E
end Go.Proofs.YtelbhdobjdnglaaGreat
namespace Go.Proofs.YtelbhdobjdnglaaGreat
set_option linter.unusedVariables false
open Rlp
namespace Jn
structure Sl where
 key : List UInt8
 val : List UInt8
structure Ch where
 addr : List UInt8
 gone : Bool
 nonce : Int
 bal : List UInt8
 code : List UInt8
 slots : List Sl
structure Df where
 id : List UInt8
 par : List UInt8
 chs : List Ch
def Sl.ok (s : Sl) : Prop := s.key.length = 32 ∧ s.val.length = 32
def Ch.ok (c : Ch) : Prop := c.addr.length = 20 ∧ c.bal.length = 32 ∧ -9223372036854775808 ≤ c.nonce ∧ c.nonce ≤ 9223372036854775807 ∧ ∀ s ∈ c.slots, s.ok
def Df.ok (d : Df) : Prop := d.id.length = 32 ∧ d.par.length = 32 ∧ ∀ c ∈ d.chs, c.ok
def wG (l : List UInt8) : Raw := .mk false l []
def FC (xs : List Raw) : Raw := .mk true [] xs
def Wi (n : Nat) : Raw := wG (be n)
def N7 (l : List UInt8) : Raw := wG (strip l)
def VX (s : Sl) : Raw := FC [N7 s.key, N7 s.val]
def chI (c : Ch) : Raw := FC [wG c.addr, Wi (if c.gone then 1 else 0), Wi c.nonce.toNat, N7 c.bal, wG c.code, FC (c.slots.map VX)]
def dfI (d : Df) : Raw := FC [wG d.id, wG d.par, FC (d.chs.map chI)]
abbrev cmp (l m : List UInt8) : Int := Lib.compareBytes l m
def OH : List Sl → Bool
 | [] => true
 | [_] => true
 | a :: b :: l => decide (cmp a.key b.key < 0) && OH (b :: l)
def Xg (c : Ch) : Bool := decide (0 ≤ c.nonce) && OH c.slots
def OI : List Ch → Bool
 | [] => true
 | [_] => true
 | a :: b :: l => decide (cmp a.addr b.addr < 0) && OI (b :: l)
def may (l : List Ch) : Bool := l.all Xg && OI l
def og (d : Df) : Except Nat (List UInt8) := if may d.chs then (match packed (dfI d) with | some b => .ok b | none => .error 3) else .error 1
def isB : Raw → Option (List UInt8)
 | .mk false bs _ => some bs
 | .mk true _ _ => none
def isL : Raw → Option (List Raw)
 | .mk true _ xs => some xs
 | .mk false _ _ => none
def VW (x : Raw) : Option Sl :=
 match isL x with
 | some [a, b] => match NZ a, NZ b with
  | some k, some v => some ⟨k, v⟩
  | _, _ => none
 | _ => none
def VA {α : Type} (f : Raw → Option α) : List Raw → Option (List α)
 | [] => some []
 | x :: xs => match f x with
  | none => none
  | some y => match VA f xs with
   | none => none
   | some ys => some (y :: ys)
def chR (x : Raw) : Option Ch :=
 match isL x with
 | some [a, g, n, w, c, s] =>
  match isB a, WG g, WG n, NZ w, isB c, isL s with
  | some a, some g, some n, some w, some c, some s => if a.length = 20 ∧ g ≤ 1 then (match VA VW s with | some ss => some ⟨a, g == 1, n, w, c, ss⟩ | none => none) else none
  | _, _, _, _, _, _ => none
 | _ => none
def dfR (x : Raw) : Option Df :=
 match isL x with
 | some [i, p, l] =>
  match isB i, isB p, isL l with
  | some i, some p, some l => if i.length = 32 ∧ p.length = 32 then (match VA chR l with | some cs => some ⟨i, p, cs⟩ | none => none) else none
  | _, _, _ => none
 | _ => none
def ET (b : List UInt8) : Except Nat Df :=
 match gY b with
 | .error e => .error e
 | .ok x => match dfR x with
  | none => .error 4
  | some d => if may d.chs then .ok d else .error 4
theorem VI (bs : List UInt8) (xs : List Raw) : E (.mk true bs xs) = head (EL xs).length 192 ++ EL xs := by rw [E]
mutual
theorem E5 : ∀ x : Raw, (E x).length ≤ most → fE x = some (E x)
 | .mk false bs xs, h => by
  rw [E] at h ⊢
  rw [fE]
  have h2 : bs.length ≤ (EB bs).length := by unfold EB; split <;> simp
  rw [if_neg (by omega)]
 | .mk true bs xs, h => by
  rw [VI] at h ⊢
  rw [List.length_append] at h
  rw [fE, Bg xs [] (by simp; omega)]
  rfl
theorem Bg : ∀ (xs : List Raw) (acc : List UInt8), acc.length + (EL xs).length ≤ most → gI xs acc = some (acc ++ EL xs)
 | [], acc, h => by rw [gI, EL, X9]
 | x :: xs, acc, h => by
  rw [EL, List.length_append] at h
  rw [gI, E5 x (by omega), EL]
  dsimp only
  rw [if_neg (by omega), Bg xs (acc ++ E x) (by rw [List.length_append]; omega), List.append_assoc]
end
theorem NJ (xs : List Raw) (bs : List UInt8) (m k : Nat) (h : ∀ x ∈ xs, dP x m ≤ k) : dP (.mk true bs xs) (m + 1) ≤ k + 1 := by
 rw [dP]
 have := (maxD_le xs m 0 k).2 ⟨XQ _, h⟩
 omega
end Jn
end Go.Proofs.YtelbhdobjdnglaaGreat
namespace Go.Proofs.YtelbhdobjdnglaaGreat
set_option linter.unusedVariables false
open Go.RowKit Mono Rlp
namespace E
theorem vW {x : Raw} (hd : dP x 32 ≤ 32) (h : (E x).length ≤ most) : packed x = some (Rlp.E x) := by
 rw [tN, if_neg (by omega), Jn.E5 _ h]
 dsimp only
 rw [if_neg (by omega)]
theorem wB (ks : Nat → Tn) (v : List UInt8) : gK (.br ks v) = .mk true [] ((List.range 16).map (fun i => mQ (ks i)) ++ [.mk false v []]) := rfl
end E
end Go.Proofs.YtelbhdobjdnglaaGreat
