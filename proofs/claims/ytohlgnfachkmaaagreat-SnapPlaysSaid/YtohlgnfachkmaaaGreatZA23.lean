/-
 Merged: lemmas of this claim.
 Conditions: none.
-/
import Derived.Test.YtohlgnfachkmaaaGreatZA11
import Derived.Test.YtohlgnfachkmaaaGreatZA22
import Derived.Test.YtohlgnfachkmaaaGreatZA21
import Derived.Test.YtohlgnfachkmaaaGreatZA16
import Derived.Test.YtohlgnfachkmaaaGreatZA0
namespace Go.Proofs.YtohlgnfachkmaaaGreat
set_option linter.unusedVariables false
set_option maxRecDepth 20000
set_option maxHeartbeats 16000000
open Go.RowKit Mono Rlp Wd Go.Sort
namespace E
section
variable {g : Nat} {base : List UInt8} {v : Value}
theorem Dj {ls : List Ly} (hll : ls.length ≤ 1000000) (hn : (ls.map Ly.id).Nodup) {k : Nat} {x : Ly} (hx : ls[k]? = some x) : FnM 39 [.v (ptr g), .arr 32 x.id] [rtO g base v, rlO v ls] (fun r os' => r = .val (.v (.int .i64 (k : Int))) ∧ os' = [rtO g base v, rlO v ls]) :=
 FnM.mono (jZ ls hll x.id) fun r os' ⟨⟨q, hq, hr⟩, ho⟩ => ⟨by
  rcases hq with ⟨_, hq⟩ | ⟨m, y, rfl, hy, he⟩
  · exact absurd (Ll.2 ⟨x, LC hx, rfl⟩) hq
  ·
   have h1 : (ls.map Ly.id)[k]? = (ls.map Ly.id)[m]? := by rw [Ls, Ls, hx, hy, NS, NS, he]
   rw [hr, (List.getElem?_inj (by rw [Lc]; exact (Lp.1 hx).1) hn).1 h1], ho⟩
theorem yG {ls : List Ly} (hll : ls.length ≤ 1000000) {to : List UInt8} (hto : to ∉ ls.map Ly.id) : FnM 14 [.v (ptr g), .arr 32 to] [rtO g base v, rlO v ls] (fun r os' => r = .tpl [.sl 32 [], .v (.int .i64 6)] ∧ os' = [rtO g base v, rlO v ls]) := by
 have h1 := jZ (g := g) (base := base) (v := v) ls hll to
 refine FnM.walk 84 Tryz.func14 rfl Tryz.ntmps14 (by simp) fun X => ?_
 repeat (refine stp ?_; intros)
 rename_i g3
 refine EL.le (Le.pick [1, 2, 0] [_, _, _] rfl (by decide) rfl) ?_
 refine aH (os := [rtO g base v, rlO v ls]) h1 (kk := ?_)
 rintro _ _ ⟨⟨k, hk, rfl⟩, rfl⟩
 simp only [KN, KO]
 rcases hk with ⟨rfl, _⟩ | ⟨n, y, rfl, hy, he⟩
 ·
  skip
  repeat (refine stp ?_; intros)
  refine EK.fO [rtO g base v, rlO v ls] rfl rfl rfl ?_ (by (repeat first | exact KZ _ | apply List.Sublist.cons_cons | apply List.Sublist.cons)) ⟨rfl, rfl⟩
  (exact RL.a)
 · exact absurd (Ll.2 ⟨y, LC hy, he⟩) hto
theorem JM {ls : List Ly} {N s : Nat} (hT : Trs base ls N s) (hll : ls.length ≤ 1000000) {to : List UInt8} (hto : to ∈ ls.map Ly.id) : FnM 14 [.v (ptr g), .arr 32 to] [rtO g base v, rlO v ls] (fun r os' => ∃ v' : Value, r = .tpl [.sl 32 ((sortL ((ls.filter fun x => !eH base to ls x.id).map Ly.id)).map (D.arr 32)), .v (.int .i64 0)] ∧ os' = [rtO g to v', rlO v' (ls.filter fun x => eH base to ls x.id)]) := by
 have hml : (ls.map dLy).length = ls.length := Lc _
 have h1 := jZ (g := g) (base := base) (v := v) ls hll to
 have hF1 := qM base to ls
 have hF2 := fun h => lU (base := base) (to := to) (ls := ls) h
 have hF3 := fun {x : Ly} (hx : x ∈ ls) h1 h2 => nP (base := base) (to := to) hT.nod hx h1 h2
 generalize eH base to ls = F at hF1 hF2 hF3
 refine FnM.walk 84 Tryz.func14 rfl Tryz.ntmps14 (by simp) fun X => ?_
 repeat (refine stp ?_; intros)
 rename_i g3
 refine EL.le (Le.pick [1, 2, 0] [_, _, _] rfl (by decide) rfl) ?_
 refine aH (os := [rtO g base v, rlO v ls]) h1 (kk := ?_)
 rintro _ _ ⟨⟨k, hk, rfl⟩, rfl⟩
 simp only [KN, KO]
 rcases hk with ⟨rfl, hk⟩ | ⟨n, y, rfl, hy, he⟩
 · exact absurd hto hk
 clear h1 hy he
 repeat (refine stp ?_; intros)
 refine EC.le (Le.row 95 65) ?_
 refine EC.le (Le.row 23 32) ?_
 refine EC.loop (ι := {x : Nat × Value × Value × List (List UInt8) // x.1 ≤ ls.length ∧ x.2.2.2.Perm (((ls.take x.1).filter fun x => !F x.id).map Ly.id) ∧ x.2.2.2.Pairwise (· ≤ ·)})
  (fun x => ⟨[(8, .val (.v (.int .i64 (x.1.1 : Int)))), (7, .val (.v x.1.2.2.1)), (6, .val (.v x.1.2.1)), (3, .val (.v (ptr g3))), (0, .val (.v (ptr g)))], [.row x.1.2.1 23 32 (x.1.2.2.2.map (D.arr 32)), .row x.1.2.2.1 95 65 (((ls.take x.1.1).filter fun x => F x.id).map dLy), rtO g base v, rlO v ls, .var g3 23 (.arr 32 to)], []⟩)
  (fun x => ls.length - x.1.1) ⟨(0, dn, dn, []), LH _, .nil, .nil⟩ ?_ ?_
 · exact Le.kp
 rintro ⟨⟨i, u, v2, ys⟩, hi, hp, ho⟩
 dsimp only at hi hp ho ⊢
 have hyl : ys.length ≤ ls.length := by
  have h1 := hp.length_eq
  have h2 := MN (fun x : Ly => !F x.id) (ls.take i)
  rw [Lc] at h1
  rw [MJ] at h2
  omega
 have hfl : (((ls.take i).filter fun x => F x.id).map dLy).length ≤ ls.length := by
  have h2 := MN (fun x : Ly => F x.id) (ls.take i)
  rw [MJ] at h2
  rw [Lc]
  omega
 by_cases hlt : i < ls.length
 ·
  have hd : (ls.map dLy)[i]? = some (dLy ls[i]) := by rw [Ls, La hlt]; rfl
  have htk : ls.take (i + 1) = ls.take i ++ [ls[i]] := Lm hlt
  have hmem := MB hlt
  generalize ls[i] = y at hd htk hmem
  repeat
   (first
    | (apply bn (k := i) (off := 0) (d := dLy y); rfl; exact I3; exact ⟨by omega, hd⟩; iterate 4 rfl) | (refine stp ?_; intros))
  rename_i g9
  obtain ⟨r0, hr0⟩ := InL.of (Ll.2 ⟨y, hmem, rfl⟩)
  generalize hL : ((ls.take i).filter fun x => F x.id).map dLy = L at hfl ⊢
  refine EC.loop (ι := {x : List UInt8 × Nat // InL ls x.1 x.2 ∧ F x.1 = F y.id})
   (fun x => ⟨[(9, .val (.v (ptr g9))), (8, .val (.v (.int .i64 (i : Int)))), (7, .val (.v v2)), (6, .val (.v u)), (3, .val (.v (ptr g3))), (0, .val (.v (ptr g)))], [.var g9 23 (.arr 32 x.1.1), .row u 23 32 (ys.map (D.arr 32)), .row v2 95 65 L, rtO g base v, rlO v ls, .var g3 23 (.arr 32 to)], []⟩)
   (fun x => x.1.2) ⟨(y.id, r0), hr0, rfl⟩ ?_ ?_
  · exact Le.kp
  rintro ⟨⟨q, r⟩, hq, hqF⟩
  dsimp only at hq hqF ⊢
  have hb := (aP q to).2
  have hb2 := (aP q base).2
  have hb3 := (aP q to).1
  by_cases e : q = to
  ·
   rw [show (q != to) = false by simp [e]] at hb
   rw [show (q == to) = true by simp [e]] at hb3
   have hFy : F y.id = true := by rw [← hqF, e, hF1]
   repeat (refine stp ?_; intros)
   refine EC.draw 10 (by kernel_rfl) ?_
   simp only [KQ, KX, KP, KR]
   repeat
    (first
     | (refine bM (hrun := hb) (kk := ?_)) | (refine sth ?_; intros))
   repeat
    (first
     | (refine bH (hrun := hb3) (kk := ?_)) | (apply bn (k := i) (off := 0) (d := dLy y); rfl; exact I4; exact ⟨by omega, hd⟩; iterate 4 rfl)
     | (refine stp ?_; intros))
   rename_i v3
   have hk1 : ys.Perm (((ls.take (i + 1)).filter fun x => !F x.id).map Ly.id) := by
    rw [htk, Ny, Oj (by simpa using hFy)]
    simpa using hp
   have hk2 : ((ls.take (i + 1)).filter fun x => F x.id).map dLy = L ++ [dLy y] := by rw [htk, Ny, List.filter_cons_of_pos (by simpa using hFy), List.filter_nil, MC, hL]; rfl
   refine EK.again ⟨(i + 1, u, v3, ys), hlt, hk1, ho⟩ (by dsimp only; omega) ?_
   dsimp only
   rw [hk2]
   simp only [LK]
   exact Le.kp
  rw [show (q != to) = true by simp [e]] at hb
  rw [show (q == to) = false by simp [e]] at hb3
  by_cases e2 : q = base
  ·
   rw [show (q != base) = false by simp [e2]] at hb2
   have hFy : F y.id = false := by rw [← hqF, e2, hF2 (by rw [← e2]; exact e)]
   have hput := JL (u := u) ys ho y.id (by omega)
   repeat (refine stp ?_; intros)
   refine EC.draw 10 (by kernel_rfl) ?_
   simp only [KQ, KX, KP, KR]
   repeat
    (first
     | (refine bM (hrun := hb) (kk := ?_)) | (refine bM (hrun := hb2) (kk := ?_)) | (refine sth ?_; intros))
   repeat
    (first
     | (refine bH (hrun := hb3) (kk := ?_)) | (apply bn (k := i) (off := 0) (d := dLy y); rfl; exact I4; exact ⟨by omega, hd⟩; iterate 4 rfl)
     | (refine stp ?_; intros))
   refine EL.le (Le.pick [1, 0, 2, 3, 4, 5] [_, _, _, _, _, _] rfl (by decide) rfl) ?_
   refine aH (os := [.row u 23 32 (ys.map (D.arr 32))]) hput (kk := ?_)
   rintro _ _ ⟨u', zs, hz1, hz2, rfl, rfl⟩
   simp only [KN, KO]
   repeat (refine stp ?_; intros)
   have hk1 : zs.Perm (((ls.take (i + 1)).filter fun x => !F x.id).map Ly.id) := by
    rw [htk, Ny, List.filter_cons_of_pos (by simpa using hFy), MC]
    exact hz1.trans ((hp.cons _).trans (MG (l₁ := [_])))
   have hk2 : ((ls.take (i + 1)).filter fun x => F x.id).map dLy = L := by rw [htk, Ny, Oj (by simpa using hFy), List.filter_nil, List.append_nil, hL]
   refine EK.again ⟨(i + 1, u', v2, zs), hlt, hk1, hz2⟩ (by dsimp only; omega) ?_
   dsimp only
   rw [hk2]
   simp only [LK]
   exact Le.kp
  rw [show (q != base) = true by simp [e2]] at hb2
  obtain ⟨x, hx, rfl, r', hr', hi'⟩ := hT.step hq e2
  obtain ⟨m, hm, hxm⟩ := Ns hx
  have hxm' : ls[m]? = some x := by rw [La hm, hxm]
  have hd2 : (ls.map dLy)[m]? = some (dLy x) := by rw [Ls, hxm']; rfl
  have hfa := Dj (g := g) (base := base) (v := v) hll hT.nod hxm'
  have hpar := hF3 hx e e2
  repeat (refine stp ?_; intros)
  refine EC.draw 10 (by kernel_rfl) ?_
  simp only [KQ, KX, KP, KR]
  repeat
   (first
    | (refine bM (hrun := hb) (kk := ?_)) | (refine bM (hrun := hb2) (kk := ?_)) | (refine sth ?_; intros))
  repeat (refine stp ?_; intros)
  refine EC.Em 10 (by kernel_rfl) ?_
  simp only [KQ, KX, KP, KR]
  refine EV.cut 6 ?_
  simp only [KQ, KX, KP, KR]
  repeat (refine sth ?_; intros)
  refine EM.nil ?_
  refine EV.qR (hfa) [3, 4, 0, 1, 2, 5] [_, _, _, _] rfl (by decide) rfl rfl (ah.refl _ _) (by intro _ _; simp [go_sem]) rfl rfl ?_
  refine EV.cut 3 ?_
  simp only [KQ, KX, KP, KR]
  repeat
   (first
    | (apply aB (k := m) (off := 32) (d := dLy x); rfl; exact I4; exact ⟨by omega, hd2⟩; iterate 4 rfl) | (refine sth ?_; intros))
  refine EM.nil ?_
  refine EV.nil0 ?_
  repeat (refine stp ?_; intros)
  refine EK.again ⟨(x.par, r'), hi', hpar.trans hqF⟩ hr' ?_
  exact Le.kp
 ·
  have hiE : i = ls.length := by omega
  subst hiE
  rw [L9] at hp
  have hk2 : ((ls.take ls.length).filter fun x => F x.id).map dLy = (ls.filter fun x => F x.id).map dLy := by rw [L9]
  have hs : ys = sortL ((ls.filter fun x => !F x.id).map Ly.id) := gu hp ho
  rw [← hs]
  repeat (refine stp ?_; intros)
  rw [hk2]
  refine EK.le (Le.freeze (pre := []) rfl) ?_
  refine EK.le (Le.pick [1, 0, 2, 3] [_, _, _, _] rfl (by decide) rfl) ?_
  exact EK.fO [rtO g to v2, rlO v2 (ls.filter fun x => F x.id)] rfl rfl rfl (RL.cons (Rf.fact Ld rfl) (RL.cons Rf.same RL.nil)) (by (repeat first | exact KZ _ | apply List.Sublist.cons_cons | apply List.Sublist.cons)) ⟨v2, rfl, rfl⟩
end
theorem GV (l m : List UInt8) : Fn 43 [.arr 32 l, .arr 32 m] (· = .val (.v (.int .i64 (dA l m)))) := by
 refine Fn.walk 8 Tryz.func43 rfl Tryz.ntmps43 (by simp) fun X => ?_
 repeat (refine stp ?_; intros)
 refine EC.draw 4 (by kernel_rfl) ?_
 simp only [KQ, KX, KP, KR]
 repeat
  (first
   | (apply jJ zn; iterate 3 rfl) | (apply EH.grow (xu (i1 := 1) (i2 := 0) (m1 := 32) (m2 := 32) rfl rfl rfl rfl rfl rfl rfl rfl rfl); rfl; rfl; rfl)
   | (refine sth ?_; intros))
 repeat (refine stp ?_; intros)
 exact EK.jg rfl rfl rfl
theorem sV (x : List UInt8 × List UInt8) (m : List UInt8) : Fn 95 ([aA x, .arr 32 m] ++ []) (· = .val (.v (.int .i64 (dA x.1 m)))) := by
 obtain ⟨xa, xv⟩ := x
 have h1 := GV xa m
 unfold aA
 dsimp only [List.append_nil]
 refine Fn.walk 9 Tryz.func95 rfl Tryz.ntmps95 (by simp) fun X => ?_
 repeat
  (first
   | (refine dQ (h1) (kk := ?_)) | (refine stp ?_; intros))
 exact EK.jg rfl rfl rfl
def slotL (sl : List (List UInt8 × List UInt8)) (k : List UInt8) : List UInt8 := ((sl.find? fun p => p.1 == k).map Prod.snd).getD zero32
theorem vM {sl : List (List UInt8 × List UInt8)} {k : List UInt8} (h : ∀ x ∈ sl, x.1 ≠ k) : slotL sl k = zero32 := by
 unfold slotL
 rw [List.find?_eq_none.2 fun x hx => by simpa using h x hx]
 rfl
theorem vN {sl : List (List UInt8 × List UInt8)} {i : Nat} {p : List UInt8 × List UInt8} (hp : sl[i]? = some p) (h : ∀ (j : Nat) (q : List UInt8 × List UInt8), j < i → sl[j]? = some q → q.1 ≠ p.1) : slotL sl p.1 = p.2 := by
 unfold slotL
 obtain ⟨hi, rfl⟩ := Lp.1 hp
 have : (sl.find? fun q => q.1 == sl[i].1) = some sl[i] := by
  rw [List.find?_eq_some_iff_getElem]
  exact ⟨by simp, i, hi, rfl, fun j hj => by simpa using h j sl[j] hj (La (by omega))⟩
 rw [this]
 rfl
theorem yx {sl : List (List UInt8 × List UInt8)} (ho : sl.Pairwise fun x y => x.1 < y.1) {i : Nat} {p : List UInt8 × List UInt8} (hp : sl[i]? = some p) : slotL sl p.1 = p.2 := vN hp fun j q hj hq e => by
 obtain ⟨h1, rfl⟩ := Lp.1 hp
 obtain ⟨h2, rfl⟩ := Lp.1 hq
 have := MO.1 ho j i h2 h1 hj
 rw [e] at this
 exact MF _ this
theorem Ey {L : List (List UInt8 × List UInt8)} (ho : L.Pairwise fun x y => x.1 < y.1) (hl : L.length ≤ 1000000) (a : List UInt8) : FnM 94 [.sl 64 (L.map aA), .arr 32 a, .v (.func (.func 95) #[] #[])] [] (fun r os' => (∃ k b, xX Prod.fst L a k b ∧ r = .tpl [.v (.int .i64 (k : Nat)), .v (.bool b)]) ∧ os' = []) := by
 have hml : (L.map aA).length = L.length := Lc _
 refine FnM.walk 49 Tryz.func94 rfl Tryz.ntmps94 (by simp) fun X => ?_
 repeat (refine stp ?_; intros)
 rename_i g4
 refine EC.loop (ι := {x : Nat × Nat // Srk Prod.fst L a x.1 x.2})
  (fun x => ⟨[(9, .val (.v (.int .i64 (x.1.1 : Int)))), (10, .val (.v (.int .i64 (x.1.2 : Int)))), (8, .val (.v (.int .i64 (L.map aA).length))), (4, .val (.v (ptr g4))), (2, .val (.v (.func (.func 95) #[] #[]))), (0, .val (.sl 64 (L.map aA)))], [.var g4 23 (.arr 32 a)], []⟩)
  (fun x => x.1.2 - x.1.1) ⟨(0, L.length), LH _, LG _, fun q _ h => absurd h (Nat.not_lt_zero _), fun q h h2 => absurd h (by dsimp only at h2; omega)⟩ ?_ ?_
 ·
  dsimp only
  rw [hml]
  exact Le.kp
 rintro ⟨⟨i, j⟩, hs⟩
 dsimp only at hs ⊢
 have hij := hs.ij
 have hjl := hs.le
 by_cases hlt : i < j
 ·
  have hhl : (i + j) / 2 < L.length := by omega
  have hd : (L.map aA)[(i + j) / 2]? = some (aA L[(i + j) / 2]) := by rw [Ls, La hhl]; rfl
  have hup := hs.up ho hhl (by omega)
  have hdn := hs.down ho hhl (by omega)
  have c1 := zY (i + j) (by omega) ((i : Int) + (j : Int)) (by omega)
  have c2 := zX ((i + j) / 2) (by omega)
  have hh := xP (i + j) (by omega)
  have hlo : i ≤ (i + j) / 2 := by omega
  have hhi : (i + j) / 2 < j := by omega
  generalize (i + j) / 2 = h at hhl hd hup hdn c2 hh hlo hhi
  generalize L[h] = x at hd hup hdn
  have hc := sV x a
  rw [← xK] at hup hdn
  obtain ⟨xa, xv⟩ := x
  unfold aA at hd hc
  dsimp only at hd hc hup hdn
  by_cases hcm : dA xa a < 0
  ·
   skip
   repeat
    (first
     | (apply iZ; rfl; exact c1; iterate 3 rfl) | (apply iZ; rfl; exact c2; iterate 3 rfl) | (refine bH (hrun := hh) (kk := ?_))
     | (refine stp ?_; intros))
   refine EC.draw 8 (by kernel_rfl) ?_
   simp only [KQ, KX, KP, KR]
   repeat
    (first
     | (apply EH.grow (iL (caps := []) (cds := []) hc (fun _ _ _ _ _ _ => rfl) rfl rfl rfl (ah.refl _ _) (by intro _ _; simp [go_sem])); rfl; rfl; rfl) | (refine sth ?_; intros))
   repeat (refine stp ?_; intros)
   refine EK.again ⟨(h + 1, j), hup hcm⟩ (by dsimp only; omega) ?_
   simp only [LK]
   exact Le.kp
  ·
   skip
   repeat
    (first
     | (apply iZ; rfl; exact c1; iterate 3 rfl) | (apply iZ; rfl; exact c2; iterate 3 rfl) | (refine bH (hrun := hh) (kk := ?_))
     | (refine stp ?_; intros))
   refine EC.draw 8 (by kernel_rfl) ?_
   simp only [KQ, KX, KP, KR]
   repeat
    (first
     | (apply EH.grow (iL (caps := []) (cds := []) hc (fun _ _ _ _ _ _ => rfl) rfl rfl rfl (ah.refl _ _) (by intro _ _; simp [go_sem])); rfl; rfl; rfl) | (refine sth ?_; intros))
   repeat (refine stp ?_; intros)
   refine EK.again ⟨(i, h), hdn hcm⟩ (by dsimp only; omega) ?_
   exact Le.kp
 ·
  obtain rfl : i = j := by omega
  by_cases hlt : i < L.length
  ·
   have hd : (L.map aA)[i]? = some (aA L[i]) := by rw [Ls, La hlt]; rfl
   have hyes : Prod.fst L[i] = a → xX Prod.fst L a i true := fun h => ⟨hjl, fun _ => ⟨hlt, h⟩, fun h => (by cases h)⟩
   have hno : Prod.fst L[i] ≠ a → xX Prod.fst L a i false := fun h => ⟨hjl, fun h => (by cases h), fun _ => hs.none ho fun _ => h⟩
   generalize L[i] = x at hd hyes hno
   have hc := sV x a
   rw [← jr] at hyes
   rw [ne_eq, ← jr] at hno
   obtain ⟨xa, xv⟩ := x
   unfold aA at hd hc
   dsimp only at hd hc hyes hno
   by_cases hcm : dA xa a = 0
   ·
    skip
    repeat (refine stp ?_; intros)
    refine EC.draw 15 (by kernel_rfl) ?_
    simp only [KQ, KX, KP, KR]
    repeat
     (first
      | (apply EH.grow (iL (caps := []) (cds := []) hc (fun _ _ _ _ _ _ => rfl) rfl rfl rfl (ah.refl _ _) (by intro _ _; simp [go_sem])); rfl; rfl; rfl) | (refine sth ?_; intros))
    repeat (refine stp ?_; intros)
    exact EK.fO [] rfl rfl rfl (ah.refl _ _) (KZ _) ⟨⟨i, true, hyes hcm, rfl⟩, rfl⟩
   ·
    skip
    repeat (refine stp ?_; intros)
    refine EC.draw 15 (by kernel_rfl) ?_
    simp only [KQ, KX, KP, KR]
    repeat
     (first
      | (apply EH.grow (iL (caps := []) (cds := []) hc (fun _ _ _ _ _ _ => rfl) rfl rfl rfl (ah.refl _ _) (by intro _ _; simp [go_sem])); rfl; rfl; rfl) | (refine sth ?_; intros))
    repeat (refine stp ?_; intros)
    exact EK.fO [] rfl rfl rfl (ah.refl _ _) (KZ _) ⟨⟨i, false, hno hcm, rfl⟩, rfl⟩
  ·
   have hno : xX Prod.fst L a i false := ⟨hjl, fun h => (by cases h), fun _ => hs.none ho fun hk => absurd hk hlt⟩
   repeat (refine stp ?_; intros)
   refine EC.draw 15 (by kernel_rfl) ?_
   simp only [KQ, KX, KP, KR]
   repeat (refine sth ?_; intros)
   repeat (refine stp ?_; intros)
   exact EK.fO [] rfl rfl rfl (ah.refl _ _) (KZ _) ⟨⟨i, false, hno, rfl⟩, rfl⟩
def fD (L : List AcL) (a : List UInt8) : AcL := (L.find? fun x => x.a == a).getD (AcL.none a)
theorem qx {L : List AcL} {a : List UInt8} (h : ∀ x ∈ L, x.a ≠ a) : fD L a = AcL.none a := by
 unfold fD
 rw [List.find?_eq_none.2 fun x hx => by simpa using h x hx]
 rfl
theorem wC {L : List AcL} {i : Nat} {x : AcL} (hx : L[i]? = some x) (h : ∀ (j : Nat) (y : AcL), j < i → L[j]? = some y → y.a ≠ x.a) : fD L x.a = x := by
 unfold fD
 obtain ⟨hi, rfl⟩ := Lp.1 hx
 have : (L.find? fun y => y.a == L[i].a) = some L[i] := by
  rw [List.find?_eq_some_iff_getElem]
  exact ⟨by simp, i, hi, rfl, fun j hj => by simpa using h j L[j] hj (La (by omega))⟩
 rw [this]
 rfl
theorem rX {L : List AcL} (ho : L.Pairwise fun x y => x.a < y.a) {x : AcL} (hx : x ∈ L) : fD L x.a = x := by
 obtain ⟨i, hi, rfl⟩ := Ns hx
 refine wC (La hi) fun j y hj hy e => ?_
 obtain ⟨h2, rfl⟩ := Lp.1 hy
 have := MO.1 ho j i h2 hi hj
 rw [e] at this
 exact MF _ this
theorem Bj {A : As} {L : List AcL} (h : Canon A L) (hl : L.length ≤ 1000000) (hb : ∀ x ∈ L, x.sl.length ≤ 1000000 ∧ x.cd.length ≤ 140737488355328) (a : List UInt8) : FnM 46 [.sl 55 (L.map ak), .arr 20 a] [] (fun r os' => r = .val (ak (fD L a)) ∧ os' = []) :=
 FnM.mono (J5 h hl hb a) fun r os' ⟨⟨x, hx, ha, hi, hr⟩, ho⟩ => ⟨by
  rw [hr]
  rcases hx with hx | rfl
  · rw [← ha, rX h.ord hx]
  ·
   have hz : A a = Ac.zero := hi.jo.1 rfl
   rw [qx fun y hy e => (h.mem y hy).2 (by rw [e]; exact hz)], ho⟩
theorem Az {A : As} {L : List AcL} (h : Canon A L) (a : List UInt8) : (fD L a).sl.Pairwise fun x y => x.1 < y.1 := by
 by_cases hm : ∃ x ∈ L, x.a = a
 ·
  obtain ⟨x, hx, rfl⟩ := hm
  rw [rX h.ord hx]
  exact (h.mem x hx).1.ord
 ·
  rw [qx fun x hx e => hm ⟨x, hx, e⟩]
  exact .nil
theorem wB {L : List AcL} {n : Nat} (hb : ∀ x ∈ L, x.sl.length ≤ n) (a : List UInt8) : (fD L a).sl.length ≤ n := by
 unfold fD
 cases hf : L.find? fun x => x.a == a with
 | none => exact LH _
 | some x => exact hb x (List.mem_of_find?_eq_some hf)
theorem GY (x : AcL) (ho : x.sl.Pairwise fun x y => x.1 < y.1) (hl : x.sl.length ≤ 1000000) (k : List UInt8) : FnM 47 [ak x, .arr 32 k] [] (fun r os' => r = .val (.arr 32 (slotL x.sl k)) ∧ os' = []) := by
 obtain ⟨xa, xn, xw, xc, xs⟩ := x
 unfold ak
 dsimp only at ho hl ⊢
 have h1 := Ey ho hl k
 have hml : (xs.map aA).length = xs.length := Lc _
 refine FnM.walk 23 Tryz.func47 rfl Tryz.ntmps47 (by simp) fun X => ?_
 repeat
  (first
   | (refine aH (os := []) h1 (kk := ?_); rintro _ _ ⟨⟨q, b, hs, rfl⟩, rfl⟩; simp only [KO])
   | (refine stp ?_; intros))
 cases b with
 | true =>
  obtain ⟨hk, hka⟩ := hs.yes rfl
  have hx : xs[q]? = some xs[q] := La hk
  have hd : (xs.map aA)[q]? = some (aA xs[q]) := by rw [Ls, hx]; rfl
  have hv := yx ho hx
  rw [hka] at hv
  rw [hv]
  generalize xs[q] = p at hd
  obtain ⟨p1, p2⟩ := p
  unfold aA at hd
  dsimp only at hd
  repeat (refine stp ?_; intros)
  exact EK.dY 0 [] rfl rfl rfl rfl (ah.refl _ _) (KZ _) ⟨rfl, rfl⟩
 | false =>
  rw [vM (hs.no rfl)]
  repeat (refine stp ?_; intros)
  exact EK.dY 0 [] rfl rfl rfl rfl (ah.refl _ _) (KZ _) ⟨rfl, rfl⟩
theorem sW (x : AcL) (hl : x.sl.length ≤ 1000000) (k : List UInt8) : Fn 23 [ak x, .arr 32 k] (· = .val (.arr 32 (slotL x.sl k))) := by
 refine FnM.toFn ?_
 obtain ⟨xa, xn, xw, xc, xs⟩ := x
 unfold ak
 dsimp only at hl ⊢
 have hml : (xs.map aA).length = xs.length := Lc _
 refine FnM.walk 28 Tryz.func23 rfl Tryz.ntmps23 (by simp) fun X => ?_
 repeat (refine stp ?_; intros)
 rename_i g2 g3 g4
 refine EC.loop (ι := {i : Nat // i ≤ xs.length ∧ ∀ (j : Nat) (q : List UInt8 × List UInt8), j < i → xs[j]? = some q → q.1 ≠ k})
  (fun i => ⟨[(5, .val (.v (.int .i64 (i.1 : Int)))), (4, .val (.v (ptr g4))), (3, .val (.v (ptr g3))), (2, .val (.v (ptr g2)))], [.var g4 23 (.arr 32 zero32), .var g3 23 (.arr 32 k), .var g2 57 (.tup [.arr 20 xa, .v (.int .i64 xn), .arr 32 xw, .bs xc, .sl 64 (xs.map aA)])], []⟩)
  (fun i => xs.length - i.1) ⟨0, LH _, fun j q h => absurd h (Nat.not_lt_zero _)⟩ ?_ ?_
 · exact Le.kp
 rintro ⟨i, hi, hno⟩
 dsimp only at hi hno ⊢
 by_cases hlt : i < xs.length
 ·
  have hx : xs[i]? = some xs[i] := La hlt
  have hd : (xs.map aA)[i]? = some (aA xs[i]) := by rw [Ls, hx]; rfl
  generalize xs[i] = p at hx hd
  have hb := (aP p.1 k).1
  by_cases he : p.1 = k
  ·
   have hv := vN hx fun j q hj hq => by rw [he]; exact hno j q hj hq
   rw [he] at hv
   rw [show (p.1 == k) = true by simp [he]] at hb
   rw [hv]
   obtain ⟨p1, p2⟩ := p
   unfold aA at hd
   dsimp only at hd hb
   repeat (refine stp ?_; intros)
   refine EC.draw 8 (by kernel_rfl) ?_
   simp only [KQ, KX, KP, KR]
   repeat
    (first
     | (refine bM (hrun := hb) (kk := ?_)) | (refine sth ?_; intros))
   repeat (refine stp ?_; intros)
   exact EK.dY 0 [] rfl rfl rfl rfl (ah.refl _ _) (KZ _) ⟨rfl, rfl⟩
  ·
   rw [show (p.1 == k) = false by simp [he]] at hb
   have hno2 : ∀ (j : Nat) (q : List UInt8 × List UInt8), j < i + 1 → xs[j]? = some q → q.1 ≠ k := fun j q hj hq => by
    by_cases e : j = i
    ·
     rw [e, hx] at hq
     cases hq
     exact he
    · exact hno j q (by omega) hq
   obtain ⟨p1, p2⟩ := p
   unfold aA at hd
   dsimp only at hd hb
   repeat (refine stp ?_; intros)
   refine EC.draw 8 (by kernel_rfl) ?_
   simp only [KQ, KX, KP, KR]
   repeat
    (first
     | (refine bM (hrun := hb) (kk := ?_)) | (refine sth ?_; intros))
   repeat (refine stp ?_; intros)
   refine EK.again ⟨i + 1, hlt, hno2⟩ (by dsimp only; omega) ?_
   simp only [LK]
   exact Le.kp
 ·
  have hiE : i = xs.length := by omega
  subst hiE
  rw [vM fun x hx e => by
   obtain ⟨j, hj, rfl⟩ := Ns hx
   exact hno j _ hj (La hj) e]
  repeat (refine stp ?_; intros)
  exact EK.dY 0 [] rfl rfl rfl rfl (ah.refl _ _) (KZ _) ⟨rfl, rfl⟩
theorem GX (L : List AcL) (hl : L.length ≤ 1000000) (a : List UInt8) : Fn 20 [.sl 55 (L.map ak), .arr 20 a] (· = .val (ak (fD L a))) := by
 refine FnM.toFn ?_
 have hml : (L.map ak).length = L.length := Lc _
 refine FnM.walk 25 Tryz.func20 rfl Tryz.ntmps20 (by simp) fun X => ?_
 repeat (refine stp ?_; intros)
 rename_i g3 g4
 refine EC.loop (ι := {i : Nat // i ≤ L.length ∧ ∀ (j : Nat) (y : AcL), j < i → L[j]? = some y → y.a ≠ a})
  (fun i => ⟨[(5, .val (.v (.int .i64 (i.1 : Int)))), (4, .val (.v (ptr g4))), (3, .val (.v (ptr g3))), (0, .val (.sl 55 (L.map ak)))], [.var g4 57 (.tup [.arr 20 (List.replicate 20 0), .v (.int .i64 0), .arr 32 zero32, .v dn, .v dn]), .var g3 36 (.arr 20 a)], []⟩)
  (fun i => L.length - i.1) ⟨0, LH _, fun j q h => absurd h (Nat.not_lt_zero _)⟩ ?_ ?_
 · exact Le.kp
 rintro ⟨i, hi, hno⟩
 dsimp only at hi hno ⊢
 by_cases hlt : i < L.length
 ·
  have hx : L[i]? = some L[i] := La hlt
  have hd : (L.map ak)[i]? = some (ak L[i]) := by rw [Ls, hx]; rfl
  generalize L[i] = x at hx hd
  have hb := (mW x.a a).1
  by_cases he : x.a = a
  ·
   have hv := wC hx fun j q hj hq => by rw [he]; exact hno j q hj hq
   rw [he] at hv
   rw [show (x.a == a) = true by simp [he]] at hb
   rw [hv]
   obtain ⟨xa, xn, xw, xc, xs⟩ := x
   unfold ak at hd ⊢
   dsimp only at hd hb ⊢
   repeat (refine stp ?_; intros)
   refine EC.draw 7 (by kernel_rfl) ?_
   simp only [KQ, KX, KP, KR]
   repeat
    (first
     | (refine bM (hrun := hb) (kk := ?_)) | (refine sth ?_; intros))
   repeat (refine stp ?_; intros)
   exact EK.dY 0 [] rfl rfl rfl rfl (ah.refl _ _) (KZ _) ⟨rfl, rfl⟩
  ·
   rw [show (x.a == a) = false by simp [he]] at hb
   have hno2 : ∀ (j : Nat) (y : AcL), j < i + 1 → L[j]? = some y → y.a ≠ a := fun j q hj hq => by
    by_cases e : j = i
    ·
     rw [e, hx] at hq
     cases hq
     exact he
    · exact hno j q (by omega) hq
   obtain ⟨xa, xn, xw, xc, xs⟩ := x
   unfold ak at hd
   dsimp only at hd hb
   repeat (refine stp ?_; intros)
   refine EC.draw 7 (by kernel_rfl) ?_
   simp only [KQ, KX, KP, KR]
   repeat
    (first
     | (refine bM (hrun := hb) (kk := ?_)) | (refine sth ?_; intros))
   repeat (refine stp ?_; intros)
   refine EK.again ⟨i + 1, hlt, hno2⟩ (by dsimp only; omega) ?_
   simp only [LK]
   exact Le.kp
 ·
  have hiE : i = L.length := by omega
  subst hiE
  rw [qx fun x hx e => by
   obtain ⟨j, hj, rfl⟩ := Ns hx
   exact hno j _ hj (La hj) e]
  repeat (refine stp ?_; intros)
  refine EK.dY 0 [] rfl rfl rfl rfl ?_ (KZ _) ⟨rfl, rfl⟩
  unfold ak AcL.none
  (exact RL.a)
theorem EK.oZ {N : Nat} {X : Cx N} {S : St} {fn : Func} {Φ : R → List Obj → Prop} {p u : Tmp} {g ty : Nat} {t : TypeId} {d d' e e' : D} (i : Nat) (os' : List Obj) (hres : fn.results = #[.cell p ty, .tmp u]) (hl : look S.regs p = some (.val (.v (.pointer (some ⟨g, 0, none⟩))))) (hi : S.objs[i]? = some (.var g t d)) (hT : assoc tyL ty = some (d.size, d.agg)) (hu : look S.regs u = some (.val e)) (hR : ah S.facts [d] [d']) (hR2 : ah S.facts [e] [e']) (ho : os'.Sublist S.objs) (hΦ : Φ (.tpl [d', e']) os') : EK X (bodyPost Tryz.prog fn (qZ X Φ) .ret) S := by
 constructor
 intro a w ha
 obtain ⟨x, h1, h2⟩ := qg ha.mem hi (tyI hT)
 have hp := (aG.1 (ha.regs p _ hl)).2
 have hp' : a.tmps[p]?.getD undef = .pointer (some ⟨g, 0, none⟩) := by simpa using hp
 have h3 : aO (X.ok S.objs w) w (.tpl [d', e']) (.tuple #[x, a.tmps.getD u undef]) := ⟨[x, a.tmps.getD u undef], rfl, _, _, rfl, Refine1.ku ha.mem.fact hR h2, _, _, rfl, Refine1.ku ha.mem.fact hR2 (ha.regs u _ hu), rfl⟩
 refine bodyPost_ret (v := .tuple #[x, a.tmps.getD u undef]) ?_ ha.defers ⟨_, _, os', rfl, hΦ, ha.mem.less ho (fun f hf => by cases hf), h3.mono (fun b hb => l7 ho hb) fun _ _ => rfl⟩
 simp [results, hres, hp', asAddr, h1]
section
variable {g m c : Nat} {base id par p : List UInt8} {es : List Ent} {L : List AcL}
theorem wQ (h : aC es id = none) : (aC es id).getD (.tup [.arr 32 zero32, .v dn]) = .tup [.arr 32 zero32, .v dn] ∧ (aC es id).isSome = false := by rw [h]; exact ⟨rfl, rfl⟩
theorem uM (h : aC es id = some (dJ p L)) : (aC es id).getD (.tup [.arr 32 zero32, .v dn]) = .tup [.arr 32 p, .sl 55 (L.map ak)] ∧ (aC es id).isSome = true := by rw [h]; exact ⟨rfl, rfl⟩
theorem vw {A : As} (hC : Canon A L) (h : aC es id = some (dJ p L)) (hl : L.length ≤ 1000000) (hb : ∀ x ∈ L, x.sl.length ≤ 1000000 ∧ x.cd.length ≤ 140737488355328) (a : List UInt8) : FnM 18 [.v (ptr g), .arr 32 id, .arr 20 a] [tO g m base, .map m 32 c es] (fun r os' => r = .tpl [ak (fD L a), .v (.int .i64 0)] ∧ os' = [tO g m base, .map m 32 c es]) := by
 have hz := uM h
 have hc := Bj hC hl hb a
 generalize fD L a = x at hc
 obtain ⟨xa, xn, xw, xc, xs⟩ := x
 unfold ak at hc ⊢
 dsimp only at hc ⊢
 refine FnM.walk 26 Tryz.func18 rfl Tryz.ntmps18 (by simp) fun X => ?_
 repeat (refine stp ?_; intros)
 refine EC.aZ 11 [0, 1, 2, 3, 4, 5, 6, 7, 8] [9, 10] [] _ (by kernel_rfl) (by kernel_rfl) rfl ?_
 simp only [au, KW, KY, KT, KU]
 repeat
  (first
   | (apply bV; exact hz; rfl; (first | exact I0 | exact I1 | exact I2 | exact I3 | exact I4 | exact I5); iterate 5 rfl) | (refine sth ?_; intros))
 refine EM.nil ?_
 repeat (first | rw [KN] | rw [KO])
 refine CH.mut (os := []) (rest := []) rfl rfl (dZ rfl rfl) ?_
 rintro _ _ ⟨g6, rfl, rfl⟩
 try simp only [St.put]
 repeat (first | rw [KN] | rw [KO])
 refine CH.mut (os := [_]) (rest := []) rfl rfl (dS (bT rfl rfl rfl rfl rfl)) ?_
 rintro _ _ ⟨rfl, rfl⟩
 try simp only [St.put]
 repeat (first | rw [KN] | rw [KO])
 refine CH.nil ?_
 try simp only [KP, KR]
 repeat (refine stp ?_; intros)
 refine aH (os := []) hc (kk := ?_)
 rintro _ _ ⟨rfl, rfl⟩
 simp only [KO]
 repeat (refine stp ?_; intros)
 exact EK.oZ 1 [tO g m base, .map m 32 c es] rfl rfl rfl rfl rfl (ah.refl _ _) (ah.refl _ _) (by (repeat first | exact KZ _ | apply List.Sublist.cons_cons | apply List.Sublist.cons)) ⟨rfl, rfl⟩
def nilA : AcL := AcL.none (List.replicate 20 0)
theorem vC (h : aC es id = none) (a : List UInt8) : FnM 18 [.v (ptr g), .arr 32 id, .arr 20 a] [tO g m base, .map m 32 c es] (fun r os' => r = .tpl [ak nilA, .v (.int .i64 6)] ∧ os' = [tO g m base, .map m 32 c es]) := by
 have hz := wQ h
 refine FnM.walk 26 Tryz.func18 rfl Tryz.ntmps18 (by simp) fun X => ?_
 repeat (refine stp ?_; intros)
 refine EC.aZ 11 [0, 1, 2, 3, 4, 5, 6, 7, 8] [9, 10] [] _ (by kernel_rfl) (by kernel_rfl) rfl ?_
 simp only [au, KW, KY, KT, KU]
 repeat
  (first
   | (apply bV; exact hz; rfl; (first | exact I0 | exact I1 | exact I2 | exact I3 | exact I4 | exact I5); iterate 5 rfl) | (refine sth ?_; intros))
 refine EM.nil ?_
 repeat (first | rw [KN] | rw [KO])
 refine CH.mut (os := []) (rest := []) rfl rfl (dZ rfl rfl) ?_
 rintro _ _ ⟨g6, rfl, rfl⟩
 try simp only [St.put]
 repeat (first | rw [KN] | rw [KO])
 refine CH.mut (os := [_]) (rest := []) rfl rfl (dS (bT rfl rfl rfl rfl rfl)) ?_
 rintro _ _ ⟨rfl, rfl⟩
 try simp only [St.put]
 repeat (first | rw [KN] | rw [KO])
 refine CH.nil ?_
 try simp only [KP, KR]
 repeat (refine stp ?_; intros)
 refine EK.oZ 1 [tO g m base, .map m 32 c es] rfl rfl rfl rfl rfl ?_ (ah.refl _ _) (by (repeat first | exact KZ _ | apply List.Sublist.cons_cons | apply List.Sublist.cons)) ⟨rfl, rfl⟩
 unfold ak nilA AcL.none
 (exact RL.a)
theorem Ci {A : As} (hC : Canon A L) (h : aC es id = some (dJ p L)) (hl : L.length ≤ 1000000) (hb : ∀ x ∈ L, x.sl.length ≤ 1000000 ∧ x.cd.length ≤ 140737488355328) (a k : List UInt8) : FnM 19 [.v (ptr g), .arr 32 id, .arr 20 a, .arr 32 k] [tO g m base, .map m 32 c es] (fun r os' => r = .tpl [.arr 32 (slotL (fD L a).sl k), .v (.int .i64 0)] ∧ os' = [tO g m base, .map m 32 c es]) := by
 have h1 := vw (g := g) (m := m) (c := c) (base := base) hC h hl hb a
 have h2 := GY (fD L a) (Az hC a) (wB (fun x hx => (hb x hx).1) a) k
 generalize fD L a = x at h1 h2
 obtain ⟨xa, xn, xw, xc, xs⟩ := x
 have hx : ak ⟨xa, xn, xw, xc, xs⟩ = .tup [.arr 20 xa, .v (.int .i64 xn), .arr 32 xw, .bs xc, .sl 64 (xs.map aA)] := rfl
 rw [hx] at h1 h2
 refine FnM.walk 26 Tryz.func19 rfl Tryz.ntmps19 (by simp) fun X => ?_
 repeat (refine stp ?_; intros)
 refine EL.le (Le.pick [4, 5, 0, 1, 2, 3] [_, _, _, _, _, _] rfl (by decide) rfl) ?_
 refine aH (os := [tO g m base, .map m 32 c es]) h1 (kk := ?_)
 rintro _ _ ⟨rfl, rfl⟩
 simp only [KN, KO]
 repeat (refine stp ?_; intros)
 refine aH (os := []) h2 (kk := ?_)
 rintro _ _ ⟨rfl, rfl⟩
 simp only [KO]
 repeat (refine stp ?_; intros)
 exact EK.oZ 3 [tO g m base, .map m 32 c es] rfl rfl rfl rfl rfl (ah.refl _ _) (ah.refl _ _) (by (repeat first | exact KZ _ | apply List.Sublist.cons_cons | apply List.Sublist.cons)) ⟨rfl, rfl⟩
theorem Cj (h : aC es id = none) (a k : List UInt8) : FnM 19 [.v (ptr g), .arr 32 id, .arr 20 a, .arr 32 k] [tO g m base, .map m 32 c es] (fun r os' => r = .tpl [.arr 32 zero32, .v (.int .i64 6)] ∧ os' = [tO g m base, .map m 32 c es]) := by
 have h1 := vC (g := g) (m := m) (c := c) (base := base) h a
 have hx : ak nilA = .tup [.arr 20 (List.replicate 20 0), .v (.int .i64 0), .arr 32 zero32, .bs [], .sl 64 []] := rfl
 rw [hx] at h1
 refine FnM.walk 26 Tryz.func19 rfl Tryz.ntmps19 (by simp) fun X => ?_
 repeat (refine stp ?_; intros)
 refine EL.le (Le.pick [4, 5, 0, 1, 2, 3] [_, _, _, _, _, _] rfl (by decide) rfl) ?_
 refine aH (os := [tO g m base, .map m 32 c es]) h1 (kk := ?_)
 rintro _ _ ⟨rfl, rfl⟩
 simp only [KN, KO]
 repeat (refine stp ?_; intros)
 exact EK.oZ 3 [tO g m base, .map m 32 c es] rfl rfl rfl rfl rfl (ah.refl _ _) (ah.refl _ _) (by (repeat first | exact KZ _ | apply List.Sublist.cons_cons | apply List.Sublist.cons)) ⟨rfl, rfl⟩
theorem yA (h : aC es id = none) : FnM 13 [.v (ptr g), .arr 32 id] [tO g m base, .map m 32 c es] (fun r os' => r = .tpl [.sl 32 [], .v (.int .i64 6)] ∧ os' = [tO g m base, .map m 32 c es]) := by
 have hz := wQ h
 refine FnM.walk 60 Tryz.func13 rfl Tryz.ntmps13 (by simp) fun X => ?_
 repeat (refine stp ?_; intros)
 refine EC.aZ 11 [0, 1, 2, 3, 4, 5, 6, 7, 8] [9, 10] [] _ (by kernel_rfl) (by kernel_rfl) rfl ?_
 simp only [au, KW, KY, KT, KU]
 repeat
  (first
   | (apply bV; exact hz; rfl; (first | exact I0 | exact I1 | exact I2 | exact I3 | exact I4 | exact I5); iterate 5 rfl) | (refine sth ?_; intros))
 refine EM.nil ?_
 repeat (first | rw [KN] | rw [KO])
 refine CH.mut (os := []) (rest := []) rfl rfl (dZ rfl rfl) ?_
 rintro _ _ ⟨g6, rfl, rfl⟩
 try simp only [St.put]
 repeat (first | rw [KN] | rw [KO])
 refine CH.mut (os := [_]) (rest := []) rfl rfl (dS (bT rfl rfl rfl rfl rfl)) ?_
 rintro _ _ ⟨rfl, rfl⟩
 try simp only [St.put]
 repeat (first | rw [KN] | rw [KO])
 refine CH.nil ?_
 try simp only [KP, KR]
 repeat (refine stp ?_; intros)
 refine EK.fO [tO g m base, .map m 32 c es] rfl rfl rfl ?_ (by (repeat first | exact KZ _ | apply List.Sublist.cons_cons | apply List.Sublist.cons)) ⟨rfl, rfl⟩
 (exact RL.a)
end
section
variable {g m c : Nat} {base id par p q : List UInt8} {es : List Ent} {L M : List AcL}
theorem vZ (h : aC es id = some (dJ p L)) (k : aC es par = none) (ch : List ChL) : FnM 11 [.v (ptr g), dDf id par ch] [tO g m base, .map m 32 c es] (fun r os' => r = .val (.v (.int .i64 1)) ∧ os' = [tO g m base, .map m 32 c es]) := by
 have hz1 := uM h
 have hz2 := wQ k
 refine FnM.walk 47 Tryz.func11 rfl Tryz.ntmps11 (by simp) fun X => ?_
 repeat (refine stp ?_; intros)
 refine EC.aZ 12 [0, 1, 2, 3, 4, 5, 6, 7, 8, 9] [10, 11] [] _ (by kernel_rfl) (by kernel_rfl) rfl ?_
 simp only [au, KW, KY, KT, KU]
 repeat
  (first
   | (apply bV; exact hz1; rfl; (first | exact I0 | exact I1 | exact I2 | exact I3 | exact I4 | exact I5); iterate 5 rfl) | (refine sth ?_; intros))
 refine EM.nil ?_
 repeat (first | rw [KN] | rw [KO])
 refine CH.mut (os := []) (rest := []) rfl rfl (dZ rfl rfl) ?_
 rintro _ _ ⟨g5, rfl, rfl⟩
 try simp only [St.put]
 repeat (first | rw [KN] | rw [KO])
 refine CH.mut (os := [_]) (rest := []) rfl rfl (dS (bT rfl rfl rfl rfl rfl)) ?_
 rintro _ _ ⟨rfl, rfl⟩
 try simp only [St.put]
 repeat (first | rw [KN] | rw [KO])
 refine CH.nil ?_
 try simp only [KP, KR]
 repeat (refine stp ?_; intros)
 refine EC.aZ 12 [0, 1, 2, 3, 4, 5, 6, 7, 8, 9] [10, 11] [] _ (by kernel_rfl) (by kernel_rfl) rfl ?_
 simp only [au, KW, KY, KT, KU]
 repeat
  (first
   | (apply bV; exact hz2; rfl; (first | exact I0 | exact I1 | exact I2 | exact I3 | exact I4 | exact I5); iterate 5 rfl) | (refine sth ?_; intros))
 refine EM.nil ?_
 repeat (first | rw [KN] | rw [KO])
 refine CH.mut (os := []) (rest := []) rfl rfl (dZ rfl rfl) ?_
 rintro _ _ ⟨g7, rfl, rfl⟩
 try simp only [St.put]
 repeat (first | rw [KN] | rw [KO])
 refine CH.mut (os := [_]) (rest := []) rfl rfl (dS (bT rfl rfl rfl rfl rfl)) ?_
 rintro _ _ ⟨rfl, rfl⟩
 try simp only [St.put]
 repeat (first | rw [KN] | rw [KO])
 refine CH.nil ?_
 try simp only [KP, KR]
 repeat (refine stp ?_; intros)
 exact EK.aI [tO g m base, .map m 32 c es] rfl rfl (by (repeat first | exact KZ _ | apply List.Sublist.cons_cons | apply List.Sublist.cons)) ⟨rfl, rfl⟩
theorem vY (h : aC es id = some (dJ p L)) (k : aC es par = some (dJ q M)) (ch : List ChL) : FnM 11 [.v (ptr g), dDf id par ch] [tO g m base, .map m 32 c es] (fun r os' => r = .val (.v (.int .i64 1)) ∧ os' = [tO g m base, .map m 32 c es]) := by
 have hz1 := uM h
 have hz2 := uM k
 refine FnM.walk 47 Tryz.func11 rfl Tryz.ntmps11 (by simp) fun X => ?_
 repeat (refine stp ?_; intros)
 refine EC.aZ 12 [0, 1, 2, 3, 4, 5, 6, 7, 8, 9] [10, 11] [] _ (by kernel_rfl) (by kernel_rfl) rfl ?_
 simp only [au, KW, KY, KT, KU]
 repeat
  (first
   | (apply bV; exact hz1; rfl; (first | exact I0 | exact I1 | exact I2 | exact I3 | exact I4 | exact I5); iterate 5 rfl) | (refine sth ?_; intros))
 refine EM.nil ?_
 repeat (first | rw [KN] | rw [KO])
 refine CH.mut (os := []) (rest := []) rfl rfl (dZ rfl rfl) ?_
 rintro _ _ ⟨g5, rfl, rfl⟩
 try simp only [St.put]
 repeat (first | rw [KN] | rw [KO])
 refine CH.mut (os := [_]) (rest := []) rfl rfl (dS (bT rfl rfl rfl rfl rfl)) ?_
 rintro _ _ ⟨rfl, rfl⟩
 try simp only [St.put]
 repeat (first | rw [KN] | rw [KO])
 refine CH.nil ?_
 try simp only [KP, KR]
 repeat (refine stp ?_; intros)
 refine EC.aZ 12 [0, 1, 2, 3, 4, 5, 6, 7, 8, 9] [10, 11] [] _ (by kernel_rfl) (by kernel_rfl) rfl ?_
 simp only [au, KW, KY, KT, KU]
 repeat
  (first
   | (apply bV; exact hz2; rfl; (first | exact I0 | exact I1 | exact I2 | exact I3 | exact I4 | exact I5); iterate 5 rfl) | (refine sth ?_; intros))
 refine EM.nil ?_
 repeat (first | rw [KN] | rw [KO])
 refine CH.mut (os := []) (rest := []) rfl rfl (dZ rfl rfl) ?_
 rintro _ _ ⟨g7, rfl, rfl⟩
 try simp only [St.put]
 repeat (first | rw [KN] | rw [KO])
 refine CH.mut (os := [_]) (rest := []) rfl rfl (dS (bT rfl rfl rfl rfl rfl)) ?_
 rintro _ _ ⟨rfl, rfl⟩
 try simp only [St.put]
 repeat (first | rw [KN] | rw [KO])
 refine CH.nil ?_
 try simp only [KP, KR]
 repeat (refine stp ?_; intros)
 exact EK.aI [tO g m base, .map m 32 c es] rfl rfl (by (repeat first | exact KZ _ | apply List.Sublist.cons_cons | apply List.Sublist.cons)) ⟨rfl, rfl⟩
theorem vX (h : aC es id = none) (k : aC es par = none) (ch : List ChL) : FnM 11 [.v (ptr g), dDf id par ch] [tO g m base, .map m 32 c es] (fun r os' => r = .val (.v (.int .i64 22)) ∧ os' = [tO g m base, .map m 32 c es]) := by
 have hz1 := wQ h
 have hz2 := wQ k
 refine FnM.walk 47 Tryz.func11 rfl Tryz.ntmps11 (by simp) fun X => ?_
 repeat (refine stp ?_; intros)
 refine EC.aZ 12 [0, 1, 2, 3, 4, 5, 6, 7, 8, 9] [10, 11] [] _ (by kernel_rfl) (by kernel_rfl) rfl ?_
 simp only [au, KW, KY, KT, KU]
 repeat
  (first
   | (apply bV; exact hz1; rfl; (first | exact I0 | exact I1 | exact I2 | exact I3 | exact I4 | exact I5); iterate 5 rfl) | (refine sth ?_; intros))
 refine EM.nil ?_
 repeat (first | rw [KN] | rw [KO])
 refine CH.mut (os := []) (rest := []) rfl rfl (dZ rfl rfl) ?_
 rintro _ _ ⟨g5, rfl, rfl⟩
 try simp only [St.put]
 repeat (first | rw [KN] | rw [KO])
 refine CH.mut (os := [_]) (rest := []) rfl rfl (dS (bT rfl rfl rfl rfl rfl)) ?_
 rintro _ _ ⟨rfl, rfl⟩
 try simp only [St.put]
 repeat (first | rw [KN] | rw [KO])
 refine CH.nil ?_
 try simp only [KP, KR]
 repeat (refine stp ?_; intros)
 refine EC.aZ 12 [0, 1, 2, 3, 4, 5, 6, 7, 8, 9] [10, 11] [] _ (by kernel_rfl) (by kernel_rfl) rfl ?_
 simp only [au, KW, KY, KT, KU]
 repeat
  (first
   | (apply bV; exact hz2; rfl; (first | exact I0 | exact I1 | exact I2 | exact I3 | exact I4 | exact I5); iterate 5 rfl) | (refine sth ?_; intros))
 refine EM.nil ?_
 repeat (first | rw [KN] | rw [KO])
 refine CH.mut (os := []) (rest := []) rfl rfl (dZ rfl rfl) ?_
 rintro _ _ ⟨g7, rfl, rfl⟩
 try simp only [St.put]
 repeat (first | rw [KN] | rw [KO])
 refine CH.mut (os := [_]) (rest := []) rfl rfl (dS (bT rfl rfl rfl rfl rfl)) ?_
 rintro _ _ ⟨rfl, rfl⟩
 try simp only [St.put]
 repeat (first | rw [KN] | rw [KO])
 refine CH.nil ?_
 try simp only [KP, KR]
 repeat (refine stp ?_; intros)
 exact EK.aI [tO g m base, .map m 32 c es] rfl rfl (by (repeat first | exact KZ _ | apply List.Sublist.cons_cons | apply List.Sublist.cons)) ⟨rfl, rfl⟩
end
theorem vJ {p q : List (List UInt8)} (h : p.Perm q) : sortL p = sortL q := gu ((aW p).trans h) (gU p)
section
variable {g m c : Nat} {base to : List UInt8} {es : List Ent} {ls : List Ly} {n s : Nat}
theorem FP (hT : Trs base ls n s) (hM : Mpd es ls) (e : Ent) (he : e ∈ es) : FnM 41 [.v (ptr g), .arr 32 e.2.1, .arr 32 to] [tO g m base, .map m 32 c es] (fun r os' => r = .val (.v (.bool (eH base to ls e.2.1))) ∧ os' = [tO g m base, .map m 32 c es]) := by
 obtain ⟨r, hr⟩ := InL.of (hM.keys.mem_iff.1 (Ll.2 ⟨e, he, rfl⟩))
 refine Ef (eH base to ls) (InL ls) (qM _ _ _) (fun h => lU h) (fun k r hk h1 h2 => ?_) e.2.1 r hr
 obtain ⟨x, hx, rfl, r', h3, h4⟩ := hT.step hk h2
 exact ⟨x.par, x.L, r', hM.get x hx, nP hT.nod hx h1 h2, h3, h4⟩
theorem FN (hM : Mpd es ls) (F : List UInt8 → Bool) : sortL ((es.filter fun e => !F e.2.1).map (·.2.1)) = sortL ((ls.filter fun x => !F x.id).map Ly.id) := vJ (hM.flat fun k => !F k).keys
theorem Dy (hT : Trs base ls n s) (hM : Mpd es ls) : (es.map (·.2.1)).Nodup := hM.keys.nodup_iff.2 hT.nod
theorem Ai (hT : Trs base ls n s) (hM : Mpd es ls) (hl : ls.length ≤ 1000000) : FnM 25 [.v (ptr g)] [tO g m base, .map m 32 c es] (fun r os' => r = .val (.sl 32 ((sortL ((ls.filter fun x => x.id != base).map Ly.id)).map (D.arr 32))) ∧ os' = [tO g m base, .map m 32 c es]) := by
 have hN := Dy hT hM
 have hb : base ∈ sortL (es.map (·.2.1)) := (aW _).mem_iff.2 (hM.keys.mem_iff.2 hT.has)
 obtain ⟨K1, K2, hK⟩ := Oo hb
 have h1 := zl (g := g) (m := m) (c := c) (base := base) (es := es) hK hN (by rw [hM.len]; exact hl)
 have hnd : (K1 ++ base :: K2).Nodup := by rw [← hK]; exact (aW _).nodup_iff.2 hN
 have hso := gU (es.map (·.2.1))
 rw [hK] at hso
 have e1 : (K1 ++ base :: K2).filter (fun k => k != base) = K1 ++ K2 := by
  rw [Ny, Oj (by simp), NU.2 fun k hk => ?_, NU.2 fun k hk => ?_]
  ·
   have := (MR.1 (MX.1 hnd).2.1).1
   simp only [bne_iff_ne, ne_eq]
   exact fun e => this (e ▸ hk)
  ·
   have := (MX.1 hnd).2.2 k hk base Ld
   simpa using this
 have e2 : K1 ++ K2 = sortL ((ls.filter fun x => x.id != base).map Ly.id) := by
  rw [← e1]
  refine gu ?_ (hso.sublist OL)
  have h2 : ((ls.filter fun x => x.id != base).map Ly.id) = (ls.map Ly.id).filter fun k => k != base := by rw [List.filter_map]; rfl
  rw [h2, ← hK]
  exact (((aW _).trans hM.keys).filter _)
 rw [e2] at h1
 exact h1
end
end E
end Go.Proofs.YtohlgnfachkmaaaGreat
namespace Go.Proofs.YtohlgnfachkmaaaGreat
set_option linter.unusedVariables false
set_option maxRecDepth 20000
set_option maxHeartbeats 8000000
open Go.RowKit Mono Rlp Wd
namespace E
def vP (p : List UInt8 × List UInt8) : List Value := bvs p.1 ++ bvs p.2
def CV (p : List UInt8 × List UInt8) : Prop := p.1.length = 32 ∧ p.2.length = 32
theorem vO {ok : Nat → Prop} {w : World} {s : List UInt8 × List UInt8} {v : Value} (h : bF ok w (aA s) v) : v = .agg (vP s).toArray ∧ CV s := by
 obtain ⟨cs, h', rfl⟩ := (fP rfl).1 h
 unfold aA at h'
 rw [Reads, aQ] at h'
 obtain ⟨c1, c2, rfl, h1, h2⟩ := h'
 rw [aQ] at h2
 obtain ⟨c3, c4, rfl, h3, h4⟩ := h2
 rw [aQ] at h4
 rw [Reads] at h1 h3
 rw [h1.2, h3.2, h4, List.append_nil]
 exact ⟨rfl, h1.1, h3.1⟩
theorem Ei (w : World) (s : List UInt8 × List UInt8) (hs : CV s) : (Op.equalIn 10000 86 (.agg (vP s).toArray) (.agg (vP s).toArray)).run Tryz.prog w = .ok true w := by
 rw [show (10000 : Nat) = 9999 + 1 from rfl, run_equalIn_struct w 9999 86 _ _ (by kernel_rfl) (by kernel_rfl)]
 simp only [Program.fieldsOf, Tryz.underlying86]
 have hp : ∀ (x : List UInt8 × List UInt8) (o : Nat) (l : List UInt8), CV x → (o = 0 ∧ l = x.1 ∨ o = 32 ∧ l = x.2) → ∀ w, (part 23 (vP x).toArray o).run Tryz.prog w = .ok (aT l) w := by
  intro x o l hx ho w
  have h1 : (part 23 (vP x).toArray o).run Tryz.prog w = .ok (.agg ((vP x).toArray.extract o (o + 32))) w := by
   kernel_rfl
  rw [h1]
  have hk : (vP x).toArray.extract o (o + 32) = (bvs l).toArray := by
   apply NY
   rw [Array.toList_extract]
   unfold vP
   rcases ho with ⟨rfl, rfl⟩ | ⟨rfl, rfl⟩
   · rw [List.extract_eq_take_drop, KR, List.take_left' (by rw [aS, hx.1])]
   · rw [List.extract_eq_take_drop, List.drop_left' (by rw [aS, hx.1]), List.take_of_length_le (by rw [aS, hx.2]; decide)]
  rw [hk]
  rfl
 have hW := fun w l hl => G5 (T := 23) (n := 32) 9997 Tryz.underlying23 Tryz.underlying5 (fun w => by kernel_rfl) w l l hl hl
 simp only [Op.eqFields, ne_eq, String.reduceEq, not_false_eq_true, if_true, Lr, hp s 0 s.1 hs (.inl ⟨rfl, rfl⟩), Lh, hW _ _ hs.1, beq_self_eq_true]
 simp [hW _ _ hs.2, Sem.run_bind, hp s 32 s.2 hs (.inr ⟨rfl, rfl⟩)]
theorem Bz (s : List UInt8 × List UInt8) : Bin .neq 86 (aA s) (aA s) (.bool false) := by
 refine ⟨rfl, fun ok w p q hp hq => ?_⟩
 obtain ⟨rfl, h1⟩ := vO hp
 obtain ⟨rfl, h2⟩ := vO hq
 refine ⟨fun x y => run_eqGuard_agg w _ _ _ _ _ _ (by kernel_rfl), ?_⟩
 rw [run_neq_struct, Ei w s h1]
 rfl
theorem iW (x : AcL) (hx : x.sl.length ≤ 1099511627776) : Fn 22 [ak x, ak x] (· = .val (.v (.bool true))) := by
 obtain ⟨a1, a2, a3, a4, a5⟩ := x
 unfold ak
 dsimp only at hx ⊢
 have h1 := (mW a1 a1).2
 have h3 := (aP a3 a3).2
 have h4 := (y8 a4 a4).2
 rw [bne_self_eq_false] at h1 h3 h4
 have hl : (a5.map aA).length = a5.length := Lc _
 refine Fn.walk 61 Tryz.func22 rfl Tryz.ntmps22 (by simp) fun X => ?_
 repeat
  (first
   | (refine bH (hrun := h1) (kk := ?_)) | (refine bH (hrun := h3) (kk := ?_))
   | (refine bH (hrun := h4) (kk := ?_)) | (refine stp ?_; intros))
 rename_i g2 g3
 refine EC.loop (ι := {k : Nat // k ≤ a5.length})
  (fun k => ⟨[(5, .val (.v (.int .i64 (k.1 : Int)))), (2, .val (.v (.pointer (some ⟨g2, 0, none⟩)))), (3, .val (.v (.pointer (some ⟨g3, 0, none⟩))))],
   [.var g3 57 (.tup [.arr 20 a1, .v (.int .i64 a2), .arr 32 a3, .bs a4, .sl 64 (a5.map aA)]), .var g2 57 (.tup [.arr 20 a1, .v (.int .i64 a2), .arr 32 a3, .bs a4, .sl 64 (a5.map aA)])], []⟩)
  (fun k => a5.length - k.1) ⟨0, by omega⟩ ?_ ?_
 · exact Le.kp
 rintro ⟨k, hk⟩
 dsimp only at hk ⊢
 by_cases hlt : k < a5.length
 ·
  have hy : (a5.map aA)[k]? = some (aA a5[k]) := by rw [Ls, La hlt]; rfl
  generalize a5[k] = s at hy
  have hb := Bz s
  repeat (refine stp ?_; intros)
  refine EC.draw 11 (by kernel_rfl) ?_
  simp only [KQ, KX, KP, KR]
  repeat
   (first
    | (refine bM (hrun := hb) (kk := ?_)) | (refine sth ?_; intros))
  repeat (refine stp ?_; intros)
  refine EK.again ⟨k + 1, hlt⟩ (by dsimp only; omega) ?_
  simp only [LK]
  exact Le.kp
 ·
  skip
  repeat (refine stp ?_; intros)
  exact EK.jg rfl rfl rfl
theorem kK (l : List AcL) (hl : l.length ≤ 1099511627776) (hx : ∀ x ∈ l, x.sl.length ≤ 1099511627776) : Fn 21 [.sl 55 (l.map ak), .sl 55 (l.map ak)] (· = .val (.v (.bool true))) := by
 have hml : (l.map ak).length = l.length := Lc _
 refine Fn.walk 27 Tryz.func21 rfl Tryz.ntmps21 (by simp) fun X => ?_
 repeat (refine stp ?_; intros)
 refine EC.loop (ι := {k : Nat // k ≤ l.length})
  (fun k => ⟨[(5, .val (.v (.int .i64 (k.1 : Int)))), (0, .val (.sl 55 (l.map ak))), (1, .val (.sl 55 (l.map ak)))], [], []⟩)
  (fun k => l.length - k.1) ⟨0, by omega⟩ ?_ ?_
 · exact Le.kp
 rintro ⟨k, hk⟩
 dsimp only at hk ⊢
 by_cases hlt : k < l.length
 ·
  have hy : (l.map ak)[k]? = some (ak l[k]) := by rw [Ls, La hlt]; rfl
  have hc := iW l[k] (hx _ (MB hlt))
  generalize l[k] = s at hy hc
  repeat (refine stp ?_; intros)
  refine EC.draw 10 (by kernel_rfl) ?_
  simp only [KQ, KX, KP, KR]
  repeat
   (first
    | (refine dB (hc) (kk := ?_)) | (refine sth ?_; intros))
  repeat (refine stp ?_; intros)
  refine EK.again ⟨k + 1, hlt⟩ (by dsimp only; omega) ?_
  simp only [LK]
  exact Le.kp
 ·
  skip
  repeat (refine stp ?_; intros)
  exact EK.jg rfl rfl rfl
end E
end Go.Proofs.YtohlgnfachkmaaaGreat
