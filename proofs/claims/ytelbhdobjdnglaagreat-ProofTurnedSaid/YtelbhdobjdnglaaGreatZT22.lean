/-
 Merged: lemmas of this claim.
 Conditions: none.
-/
import Derived.Test.YtelbhdobjdnglaaGreatZT21
import Derived.Test.YtelbhdobjdnglaaGreatZT17
import Derived.Test.YtelbhdobjdnglaaGreatZT18
import Derived.Test.YtelbhdobjdnglaaGreatZT11
import Derived.Test.YtelbhdobjdnglaaGreatZT0
namespace Go.Proofs.YtelbhdobjdnglaaGreat
set_option linter.unusedVariables false
set_option maxRecDepth 20000
set_option maxHeartbeats 16000000
open Go.RowKit Mono Rlp
namespace E
theorem yP (x : Pr) : ∀ S : List Pr, ∃ y ∈ gG x S, y.1 = x.1
 | [] => ⟨x, by simp [gG], rfl⟩
 | z :: S => by
  rw [gG]
  split
  ·
   obtain ⟨y, h1, h2⟩ := yP x S
   exact ⟨y, Xw _ h1, h2⟩
  ·
   split
   ·
    rename_i h
    exact ⟨z, List.mem_cons_self, by simpa using h⟩
   · exact ⟨x, List.mem_cons_self, rfl⟩
def RlT (U : List (List UInt8)) (C : Nat) (s t : List Pr) : Prop := t.length ≤ s.length + C ∧ (∀ y ∈ t, y ∈ s ∨ ∃ u ∈ U, y = (hash u, u)) ∧ (∀ y ∈ s, y ∈ t) ∧ ∀ u ∈ U, ∃ y ∈ t, y.1 = hash u
def Xj (g : Nat) : Bld g where
 σ := List Pr
 os ns := [bO g ns]
 sz ns := ns.length
 Rl U C s t := RlT U C s t
 none s := ⟨Nat.le_refl _, fun y h => .inl h, fun y h => h, fun u h => (by cases h)⟩
 app h1 h2 := ⟨by have := h1.1; have := h2.1; omega, fun y hy => by
  rcases h2.2.1 y hy with h | ⟨u, hu, e⟩
  ·
   rcases h1.2.1 y h with h | ⟨u, hu, e⟩
   · exact .inl h
   · exact .inr ⟨u, XJ.2 (.inl hu), e⟩
  · exact .inr ⟨u, XJ.2 (.inr hu), e⟩, fun y hy => h2.2.2.1 y (h1.2.2.1 y hy), fun u hu => by
  rcases XJ.1 hu with hu | hu
  ·
   obtain ⟨y, hy, e⟩ := h1.2.2.2 u hu
   exact ⟨y, h2.2.2.1 y hy, e⟩
  · exact h2.2.2.2 u hu⟩
 more h1 h2 := ⟨by have := h1.1; omega, h1.2⟩
 size h := h.1
 put s x h1 h2 := (QD g s x h1 h2).mono fun r os' ⟨hr, ho⟩ => ⟨_, ⟨nV _ _, fun y hy => by
  rcases uF _ _ y hy with h | h
  · exact .inr ⟨x, by simp, h⟩
  · exact .inl h, fun y hy => nU _ _ _ hy, fun u hu => by
  obtain rfl : u = x := by simpa using hu
  exact yP (hash u, u) s⟩, hr, ho⟩
def G6 (l : List Pr) (ns : List Pr) : Prop := ns.length ≤ 200 * l.length + 1 ∧ (∀ y ∈ ns, ∃ u ∈ bZ 200 (l.map sp) ++ [pkB (aB 200 (l.map sp))], y = (hash u, u)) ∧ (l ≠ [] → ∀ u ∈ bZ 200 (l.map sp) ++ [pkB (aB 200 (l.map sp))], ∃ y ∈ ns, y.1 = hash u)
theorem O8 : G6 [] [] := ⟨by simp, (fun y hy => by cases hy), fun h => absurd rfl h⟩
theorem Fj {l ns : List Pr} {b : List UInt8} (hne : (l.map sp).isEmpty = false) (h : RlT (bZ 200 (l.map sp)) (200 * (l.map sp).length) [] ns) (hb : pkB (aB 200 (l.map sp)) = b) : G6 l (gG (hash b, b) ns) := by
 subst hb
 refine ⟨?_, fun y hy => ?_, fun _ u hu => ?_⟩
 ·
  have h1 := h.1
  have h2 := nV (hash (pkB (aB 200 (l.map sp))), pkB (aB 200 (l.map sp))) ns
  rw [List.length_map] at h1
  simp only [List.length_nil, XU] at h1
  omega
 ·
  rcases uF _ _ y hy with e | hy
  · exact ⟨_, by simp, e⟩
  ·
   rcases h.2.1 y hy with h1 | ⟨u, hu, e⟩
   · cases h1
   · exact ⟨u, XJ.2 (.inl hu), e⟩
 ·
  rcases XJ.1 hu with hu | hu
  ·
   obtain ⟨y, hy, e⟩ := h.2.2.2 u hu
   exact ⟨y, nU _ _ _ hy, e⟩
  ·
   obtain rfl : u = _ := by simpa using hu
   exact yP (hash _, _) ns
theorem Gj (l : List Pr) : Fn 29 [.sl 2 (l.map dPr)] (fun r => ∃ ns : List Pr, (ji l = 0 → G6 l ns) ∧ r = .tpl [.arr 32 (iH l), .sl 33 (ns.map dNd), .v (.int .i64 (ji l : Int))]) := by
 have hml : (l.map dPr).length = l.length := List.length_map _
 have hM := zK l
 have hE := P5
 unfold iH
 refine FnM.toFn ?_
 refine FnM.walk 60 Tryz.func29 rfl Tryz.ntmps29 (by simp) fun X => ?_
 by_cases he : ji l = 0
 ·
  rw [he] at hM ⊢
  rw [if_neg (by decide)]
  have hlen := (show l.length ≤ 100000 from by
   unfold ji at he
   split at he
   · cases he
   ·
    rename_i h1
    have : ¬ 100000 < l.length := fun e => h1 (.inl e)
    omega)
  have hlg : l.any lg = false := (lQ he).2.1
  by_cases hnil : l = []
  ·
   subst hnil
   rw [if_pos (show ([] : List Pr).isEmpty = true from rfl)]
   repeat
    (first
     | (apply aA (hM); rfl; exact aj.refl _ _; exact enA; iterate 2 rfl) | (apply aA (hE); rfl; exact aj.refl _ _; exact enA; iterate 2 rfl)
     | (apply ak; iterate 3 rfl) | (apply ah; iterate 3 rfl) | (apply aC (b := true); (iterate 2 rfl); exact aK; iterate 2 rfl)
     | (apply aC (b := false); (iterate 2 rfl); exact aK; iterate 2 rfl) | (apply aJ; iterate 4 rfl) | (apply aT; rfl; rfl; rfl; intro _)
     | (apply aI; rfl; exact saA; iterate 4 rfl) | apply EL.nil
     | (apply EC.t0; rfl) | (apply EC.f0; rfl) | (with_reducible first | apply EK.nc | apply EC.seq | apply EC.r0 | apply EC.k0 | apply EC.ret | apply EK.aG))
   refine EK.C9 0 [] rfl rfl rfl rfl rfl rfl ?_ ?_ ?_ (Xt _) ⟨⟨[], fun _ => O8, rfl⟩, rfl⟩
   · (exact RL.a)
   · exact RL.cons Rf.sl0 RL.nil
   · (exact RL.a)
  ·
   obtain ⟨y, l', rfl⟩ : ∃ y l', l = y :: l' := by
    cases l with
    | nil => exact absurd rfl hnil
    | cons y l' => exact ⟨y, l', rfl⟩
   rw [if_neg (show ¬ ((y :: l').isEmpty = true) from Xv)]
   have hne : ((y :: l').map sp).isEmpty = false := rfl
   have hlen2 : ((y :: l').map dPr).length = l'.length + 1 := by simp
   have hL2 : (y :: l').length = l'.length + 1 := rfl
   repeat
    (first
     | (apply aA (hM); rfl; exact aj.refl _ _; exact enA; iterate 2 rfl) | (apply ak; iterate 3 rfl) | (apply ah; iterate 3 rfl)
     | (apply aC (b := false); (iterate 2 rfl); exact aK; iterate 2 rfl) | (apply aJ; iterate 4 rfl) | (apply aT; rfl; rfl; rfl; intro _) | apply EL.nil
     | (apply EC.f0; rfl) | (with_reducible first | apply EK.nc | apply EC.seq | apply EC.r0 | apply EC.k0 | apply EC.b0))
   rename_i g2
   generalize hL : y :: l' = l at *
   clear hnil
   refine EC.le (Le.row 146 2) ?_
   refine EC.loop (ι := {x : Nat × Value // x.1 ≤ l.length})
    (fun x => ⟨[(7, .val (.v (.int .i64 (x.1.1 : Int)))), (6, .val (.v x.1.2)), (0, .val (.sl 2 (l.map dPr))), (2, .val (.v (.pointer (some ⟨g2, 0, none⟩))))], [.row x.1.2 146 2 (((l.take x.1.1).map sp).map dPr), .var g2 29 (.arr 32 zero32)], []⟩)
    (fun x => l.length - x.1.1) ⟨(0, .slice none 0 0), XQ _⟩ ?_ ?_
   · exact Le.kp
   rintro ⟨⟨i, v⟩, hi⟩
   dsimp only at hi ⊢
   by_cases hlt : i < l.length
   ·
    have hd : (l.map dPr)[i]? = some (.tup [.bs l[i].1, .bs l[i].2]) := by rw [XK, List.getElem?_eq_getElem hlt]; rfl
    have hsz := jf hlg (XW hlt)
    have hS := uV l[i].1 (by omega)
    have hl3 : (((l.take i).map sp).map dPr).length = i := by rw [List.length_map, List.length_map, List.length_take]; omega
    have htk : ((l.take (i + 1)).map sp).map dPr = ((l.take i).map sp).map dPr ++ [.tup [.bs (split l[i].1), .bs l[i].2]] := by
     rw [XE hlt, Yd, Yd]
     rfl
    repeat
     (first
      | (apply ak; iterate 3 rfl) | (apply aC (b := true); (iterate 2 rfl); exact aK; iterate 2 rfl) | (apply aJ; iterate 4 rfl) | apply EL.nil
      | (apply EC.t0; rfl) | (with_reducible first | apply EK.nc | apply EC.seq | apply EC.r0 | apply EC.k0 | apply EC.b0))
    refine EC.iU 15 [0, 1, 2, 3, 4, 5, 6, 7, 8, 9, 10, 11, 12, 13] [14] [_] _ (by kernel_rfl) (by kernel_rfl) rfl ?_
    simp only [bJ, XD, XG, Xz, Xy]
    repeat
     (first
      | (apply fD (hS); rfl; exact aj.refl _ _; exact enA; iterate 2 rfl) | (apply aX; iterate 3 rfl) | (apply dA; iterate 7 rfl)
      | (apply bD; iterate 5 rfl)
      | (apply dJ; (iterate 4 rfl); exact ixA; iterate 2 rfl)
      | (apply iM; iterate 7 rfl) | (apply kK; iterate 9 rfl))
    refine EM.nil ?_
    repeat (first | rw [Xr] | rw [List.nil_append])
    refine CH.mut (os := [_]) (rest := []) rfl rfl (gq rfl rfl rfl rfl rfl ?_) ?_
    ·
     rw [hl3]
     constructor <;> (simp; omega)
    rintro _ _ ⟨v', rfl, rfl⟩
    try simp only [St.put]
    repeat (first | rw [Xr] | rw [List.nil_append])
    refine CH.nil ?_
    try simp only [mP, Xq]
    repeat
     (first
      | (apply ak; iterate 3 rfl) | (apply ah; iterate 3 rfl) | (apply jh; (iterate 3 rfl); (focus omega); (focus omega); iterate 2 rfl) | apply EL.nil
      | (with_reducible first | apply EK.nc | apply EC.r0 | apply EK.n0))
    refine EK.again ⟨(i + 1, v'), hlt⟩ (by dsimp only; omega) ?_
    dsimp only
    rw [htk]
    simp only [XV]
    exact Le.kp
   ·
    have hie : i = l.length := by omega
    rw [show l.take i = l by rw [hie, Yl]]
    refine EC.le (Le.freeze (pre := []) rfl) ?_
    refine EC.le (Le.refine (t := 6) (d' := .sl 2 ((l.map sp).map dPr)) rfl (Rf.fact List.mem_cons_self rfl)) ?_
    simp only [List.nil_append]
    have hNd : ∀ gb, FnM 71 [.v (ptr gb), .sl 2 ((l.map sp).map dPr)] [bO gb []] (fun r os' => ∃ t : List Pr, RlT (bZ 200 (l.map sp)) (200 * (l.map sp).length) [] t ∧ r = .val (aO (aB 200 (l.map sp))) ∧ os' = [bO gb t]) := fun gb => Jh (Xj gb) 200 (l.map sp) ([] : List Pr) hne (fun z hz => by
     obtain ⟨w, hw, rfl⟩ := XA.1 hz
     have := jf hlg hw
     show (split w.1).length < 200
     rw [dB]
     omega) (fun z hz => by
     obtain ⟨w, hw, rfl⟩ := XA.1 hz
     have := jf hlg hw
     show (split w.1).length ≤ _
     rw [dB]
     omega) (by rw [List.length_map]; omega) (by rw [List.length_map]; show 0 + _ ≤ _; omega)
    have h2 := DN (aB 200 (l.map sp))
    repeat
     (first
      | (apply fU; rfl; rfl; rfl; intro gb; refine EL.le (Le.VN (d' := .tup [.sl 33 (([] : List Pr).map dNd), .v (.pointer none), .v (.bool false)]) (by apply Rf.tup; exact RL.cons Rf.sl0 RL.a)) ?_)
      | (apply ak; iterate 3 rfl) | (apply ah; iterate 3 rfl) | (apply aC (b := false); (iterate 2 rfl); exact aK; iterate 2 rfl)
      | (apply aJ; iterate 4 rfl) | (apply eH; iterate 7 rfl) | apply EL.nil | (apply EC.f0; rfl)
      | (with_reducible first | apply EK.nc | apply EC.seq | apply EC.r0 | apply EC.x0 | apply EK.s0 | apply EK.aY))
    refine jr (hNd gb) [] [_] rfl rfl (aj.refl _ _) (by intro _ _; simp [go_sem]) rfl rfl ?_
    rintro _ _ ⟨ns1, hn1, rfl, rfl⟩
    simp only [Xr, List.nil_append]
    have hn2 := hn1
    have hn1 := hn1.1
    rw [List.length_map] at hn1
    simp only [List.length_nil, XU] at hn1
    have hpb : packed (aB 200 (l.map sp)) = none ∨ packed (aB 200 (l.map sp)) = some (pkB (aB 200 (l.map sp))) := by
     unfold pkB
     cases h : packed (aB 200 (l.map sp)) with
     | none => exact .inl rfl
     | some b => exact .inr rfl
    rcases hpb with hp | hp
    ·
     have h0 : pkB (aB 200 (l.map sp)) = [] := by unfold pkB; rw [hp]; rfl
     rw [hp] at h2
     rw [h0]
     unfold og at h2
     dsimp only at h2
     repeat
      (first
       | (apply aA (h2); rfl; exact aj.refl _ _; exact enA; iterate 2 rfl) | (apply ak; iterate 3 rfl) | (apply ah; iterate 3 rfl)
       | (apply aF; iterate 4 rfl) | apply EL.nil | (with_reducible first | apply EK.nc | apply EC.seq | apply EC.r0))
     have hle := xY (aB 200 (l.map sp))
     refine jr (QD gb ns1 [] (by omega) (by simp)) [] [_] rfl rfl RL.a (by intro _ _; simp [go_sem]) rfl rfl ?_
     rintro _ _ ⟨rfl, rfl⟩
     simp only [Xr, List.nil_append]
     repeat
      (first
       | (apply aT; rfl; rfl; rfl; intro _) | (apply aI; rfl; exact saA; iterate 4 rfl) | apply EL.nil
       | ((with_reducible apply EK.h0); apply EK.code) | (with_reducible apply EC.seq))
     refine EC.le (Le.pick [2, 0, 1] [_, _, _] rfl (by decide) rfl) ?_
     refine EC.iU 8 [0, 1, 2, 3, 4, 6, 7] [5] [_] _ (by kernel_rfl) (by kernel_rfl) rfl ?_
     simp only [bJ, XD, XG, Xz, Xy]
     repeat
      (first
       | (apply aX; iterate 3 rfl) | (apply fA; iterate 3 rfl) | (apply dH; iterate 6 rfl) | (apply dw; rfl; exact I.a; iterate 4 rfl)
       | (apply gU; iterate 3 rfl))
     refine EM.nil ?_
     repeat (first | rw [Xr] | rw [List.nil_append])
     refine CH.mut (os := [_]) (rest := []) rfl rfl (l9 (iQ rfl rfl rfl rfl rfl)) ?_
     rintro _ _ ⟨rfl, rfl⟩
     try simp only [St.put]
     repeat (first | rw [Xr] | rw [List.nil_append])
     refine CH.nil ?_
     try simp only [mP, Xq]
     repeat
      (first
       | apply EL.nil | ((with_reducible apply EK.h0); apply EK.code) | (with_reducible apply EC.ret))
     refine EK.C9 0 [] rfl rfl rfl rfl rfl rfl (aj.refl _ _) (aj.refl _ _) (aj.refl _ _) (Xt _) ⟨⟨_, fun _ => Fj hne hn2 h0, rfl⟩, rfl⟩
    ·
     rw [hp] at h2
     unfold og at h2
     dsimp only at h2
     repeat
      (first
       | (apply aA (h2); rfl; exact aj.refl _ _; exact enA; iterate 2 rfl) | (apply ak; iterate 3 rfl) | (apply ah; iterate 3 rfl)
       | (apply aF; iterate 4 rfl) | apply EL.nil | (with_reducible first | apply EK.nc | apply EC.seq | apply EC.r0))
     have hle := xY (aB 200 (l.map sp))
     refine jr (QD gb ns1 (pkB (aB 200 (l.map sp))) (by omega) (by exact hle)) [] [_] rfl rfl RL.a (by intro _ _; simp [go_sem]) rfl rfl ?_
     rintro _ _ ⟨rfl, rfl⟩
     simp only [Xr, List.nil_append]
     repeat
      (first
       | (apply aT; rfl; rfl; rfl; intro _) | (apply aI; rfl; exact saA; iterate 4 rfl) | apply EL.nil
       | ((with_reducible apply EK.h0); apply EK.code) | (with_reducible apply EC.seq))
     refine EC.le (Le.pick [2, 0, 1] [_, _, _] rfl (by decide) rfl) ?_
     refine EC.iU 8 [0, 1, 2, 3, 4, 6, 7] [5] [_] _ (by kernel_rfl) (by kernel_rfl) rfl ?_
     simp only [bJ, XD, XG, Xz, Xy]
     repeat
      (first
       | (apply aX; iterate 3 rfl) | (apply fA; iterate 3 rfl) | (apply dH; iterate 6 rfl) | (apply dw; rfl; exact I.a; iterate 4 rfl)
       | (apply gU; iterate 3 rfl))
     refine EM.nil ?_
     repeat (first | rw [Xr] | rw [List.nil_append])
     refine CH.mut (os := [_]) (rest := []) rfl rfl (l9 (iQ rfl rfl rfl rfl rfl)) ?_
     rintro _ _ ⟨rfl, rfl⟩
     try simp only [St.put]
     repeat (first | rw [Xr] | rw [List.nil_append])
     refine CH.nil ?_
     try simp only [mP, Xq]
     repeat
      (first
       | apply EL.nil | ((with_reducible apply EK.h0); apply EK.code) | (with_reducible apply EC.ret))
     refine EK.C9 0 [] rfl rfl rfl rfl rfl rfl (aj.refl _ _) (aj.refl _ _) (aj.refl _ _) (Xt _) ⟨⟨_, fun _ => Fj hne hn2 rfl, rfl⟩, rfl⟩
 ·
  rw [if_pos he]
  have hne : (ji l : Int) ≠ 0 := by omega
  repeat
   (first
    | (apply aA (hM); rfl; exact aj.refl _ _; exact enA; iterate 2 rfl) | (apply ak; iterate 3 rfl) | (apply ah; iterate 3 rfl)
    | (apply aC (b := true); (iterate 2 rfl); exact aK; iterate 2 rfl) | (apply Ah; iterate 5 rfl) | (apply aT; rfl; rfl; rfl; intro _)
    | (apply aI; rfl; exact saA; iterate 4 rfl) | apply EL.nil
    | (apply EC.t0; rfl) | (with_reducible first | apply EK.nc | apply EC.seq | apply EC.r0 | apply EC.ret | apply EK.aG))
  refine EK.C9 0 [] rfl rfl rfl rfl rfl rfl ?_ ?_ ?_ (Xt _) ⟨⟨[], fun h => absurd h he, rfl⟩, rfl⟩
  · (exact RL.a)
  · exact RL.cons Rf.sl0 RL.nil
  · (exact RL.a)
def eF : Raw := .mk false [] []
def isL : Raw → Bool
 | .mk l _ _ => l
def bts : Raw → List UInt8
 | .mk _ b _ => b
def its : Raw → List Raw
 | .mk _ _ xs => xs
mutual
def dep : Raw → Nat
 | .mk _ _ xs => Az xs + 1
def Az : List Raw → Nat
 | [] => 0
 | x :: xs => max (dep x) (Az xs)
end
theorem vw {x : Raw} : ∀ {xs : List Raw}, x ∈ xs → dep x ≤ Az xs
 | y :: xs, h => by
  rw [Az]
  rcases XB.1 h with rfl | h
  · omega
  ·
   have := vw h
   omega
def rfB (N : Raw → Bool) (none : Bool) : Raw → Bool
 | .mk true b xs => decide ((pkB (.mk true b xs)).length < 32) && N (.mk true b xs)
 | .mk false b _ => decide (b.length = 32) || (none && decide (b.length = 0))
def some1 (x : Raw) : Bool := isL x || decide (0 < (bts x).length)
def brB (N : Raw → Bool) (xs : List Raw) : Bool := (xs.take 16).all (rfB N true) && !(isL (xs.getD 16 eF)) && decide (2 ≤ ((xs.take 16).filter some1).length + (if 0 < (bts (xs.getD 16 eF)).length then 1 else 0))
def prB (N : Raw → Bool) (a b : Raw) : Bool := !(isL a) && match rdP (bts a) with
 | none => false
 | some (p, true) => !(isL b) && decide (0 < (bts b).length)
 | some (p, false) => decide (0 < p.length) && rfB N false b && !(isL b && decide ((its b).length = 2))
def isN : Nat → Raw → Bool
 | 0, _ => false
 | _ + 1, .mk false _ _ => false
 | f + 1, .mk true _ xs => if xs.length = 17 then brB (isN f) xs else if xs.length = 2 then prB (isN f) (xs.getD 0 eF) (xs.getD 1 eF) else false
theorem QV (b : List UInt8) : b.length ≤ (EB b).length := by
 rw [oO]
 unfold szE szB
 split
 · omega
 · split <;> omega
theorem KW {x : Raw} : ∀ {xs : List Raw}, x ∈ xs → (Rlp.E x).length ≤ (Rlp.EL xs).length
 | y :: xs, h => by
  rw [Rlp.EL, List.length_append]
  rcases XB.1 h with rfl | h
  · omega
  ·
   have := KW h
   omega
theorem W9 {b : List UInt8} {xs : List Raw} {x : Raw} (h : x ∈ xs) : (Rlp.E x).length ≤ (Rlp.E (.mk true b xs)).length := by
 rw [Rlp.E, List.length_append]
 have := KW h
 omega
theorem uw (N : Raw → Bool) (n : Bool) (b : List UInt8) (xs : List Raw) : rfB N n (.mk true b xs) = (decide ((pkB (.mk true b xs)).length < 32) && N (.mk true b xs)) := rfl
theorem rH (N : Raw → Bool) (n : Bool) (b : List UInt8) (xs : List Raw) : rfB N n (.mk false b xs) = (decide (b.length = 32) || (n && decide (b.length = 0))) := rfl
structure Gd (x : Raw) : Prop where
 nrm : norm x = x
 deep : ∀ m, dP x m ≤ 32
 dep : dep x ≤ 33
 len : (Rlp.E x).length ≤ most
theorem wX {p : List UInt8 → Except Nat (Raw × Nat)} {Q : Raw → Prop} (hp : ∀ b x k, p b = .ok (x, k) → Q x) : ∀ (f : Nat) (b : List UInt8) (xs : List Raw), bF p f b = .ok xs → ∀ x ∈ xs, Q x
 | _, [], xs, h => by unfold bF at h; cases h; intro x hx; cases hx
 | 0, _ :: _, xs, h => by unfold bF at h; cases h
 | f + 1, c :: b, xs, h => by
  unfold bF at h
  split at h
  · cases h
  ·
   rename_i x k hx
   split at h
   · cases h
   ·
    rename_i ys hy
    cases h
    intro z hz
    rcases XB.1 hz with rfl | hz
    · exact hp _ _ _ hx
    · exact wX hp f _ ys hy z hz
theorem BD : ∀ xs : List Raw, (∀ x ∈ xs, norm x = x) → ou xs = xs
 | [], _ => by rw [ou]
 | x :: xs, h => by rw [ou, h x List.mem_cons_self, BD xs fun y hy => h y (Xw _ hy)]
theorem Ku {n : Nat} : ∀ xs : List Raw, (∀ x ∈ xs, dep x ≤ n) → Az xs ≤ n
 | [], _ => by rw [Az]; omega
 | x :: xs, h => by
  rw [Az]
  have h1 := h x List.mem_cons_self
  have h2 := Ku xs fun y hy => h y (Xw _ hy)
  omega
theorem yD (p : Option (List UInt8 → Except Nat (Raw × Nat))) (d : Nat) (hp : ∀ q, p = some q → 0 < d ∧ ∀ b x k, q b = .ok (x, k) → norm x = x ∧ (∀ m, dP x m ≤ d - 1) ∧ dep x ≤ d) (b : List UInt8) (x : Raw) (n : Nat) (h : pY p b = .ok (x, n)) : norm x = x ∧ (∀ m, dP x m ≤ d) ∧ dep x ≤ d + 1 := by
 have hB : ∀ l : List UInt8, norm (.mk false l []) = .mk false l [] ∧ (∀ m, dP (.mk false l []) m ≤ d) ∧ dep (.mk false l []) ≤ d + 1 := fun l => ⟨by rw [norm], fun m => by rw [dP]; omega, by rw [dep, Az]; omega⟩
 cases b with
 | nil => cases h
 | cons c t =>
  rw [fG] at h
  split at h
  ·
   cases h
   exact hB _
  ·
   split at h
   ·
    split at h
    · cases h
    ·
     split at h
     · cases h
     ·
      cases h
      exact hB _
   ·
    cases p with
    | none => cases h
    | some p =>
     obtain ⟨hd, hq⟩ := hp p rfl
     dsimp only at h
     split at h
     · cases h
     ·
      split at h
      · cases h
      ·
       rename_i ys hy
       cases h
       have hall := wX hq _ _ _ hy
       refine ⟨by rw [norm, BD ys fun x hx => (hall x hx).1], fun m => ?_, ?_⟩
       ·
        cases m with
        | zero => rw [dP]; omega
        | succ m =>
         rw [dP]
         have := (maxD_le ys m 0 (d - 1)).2 ⟨XQ _, fun x hx => (hall x hx).2.1 m⟩
         omega
       ·
        rw [dep]
        have := Ku ys fun x hx => (hall x hx).2.2
        omega
theorem yS : ∀ (d : Nat) (b : List UInt8) (x : Raw) (n : Nat), parse d b = .ok (x, n) → norm x = x ∧ (∀ m, dP x m ≤ d) ∧ dep x ≤ d + 1
 | 0, b, x, n, h => yD none 0 (fun q e => by cases e) b x n h
 | d + 1, b, x, n, h => yD (some (parse d)) (d + 1) (fun q e => by cases e; exact ⟨Nat.succ_pos _, yS d⟩) b x n h
theorem ER {b : List UInt8} {x : Raw} (h : gY b = .ok x) : Gd x := by
 have hE := JF h
 unfold gY at h
 split at h
 · cases h
 ·
  rename_i hl
  split at h
  · cases h
  ·
   rename_i y n hy
   split at h
   ·
    cases h
    obtain ⟨h1, h2, h3⟩ := yS 32 b x n hy
    exact ⟨h1, h2, h3, by rw [← hE]; omega⟩
   · cases h
theorem Gd.pk {x : Raw} (h : Gd x) : packed x = some (Rlp.E x) := vW (h.deep 32) h.len
theorem Gd.pkB {x : Raw} (h : Gd x) : E.pkB x = Rlp.E x := by
 unfold E.pkB
 rw [h.pk]
 rfl
theorem BA : ∀ {xs : List Raw}, ou xs = xs → ∀ x ∈ xs, norm x = x
 | y :: xs, h, x, hx => by
  rw [ou] at h
  injection h with h1 h2
  rcases XB.1 hx with rfl | hx
  · exact h1
  · exact BA h2 x hx
theorem Gd.kid {b : List UInt8} {xs : List Raw} {y : Raw} (h : Gd (.mk true b xs)) (hy : y ∈ xs) : Gd y where
 nrm := by
  have := h.nrm
  rw [norm] at this
  injection this with _ _ h3
  exact BA h3 y hy
 deep m := by
  have h1 := h.deep (m + 1)
  rw [dP] at h1
  have := ((maxD_le xs m 0 31).1 (by omega)).2 y hy
  omega
 dep := by
  have h1 := h.dep
  rw [E.dep] at h1
  have := vw hy
  omega
 len := Yi (W9 hy) h.len
theorem Sm : Gd eF := ⟨by rw [eF, norm], fun m => by rw [eF, dP]; omega, by rw [eF, E.dep, Az]; omega, by decide⟩
inductive Nd where
 | nil
 | hash (w : List UInt8)
 | leaf (p v : List UInt8)
 | ext (p : List UInt8) (k : Nd)
 | br (ks : Nat → Nd) (v : List UInt8)
def Nd.isNil : Nd → Bool
 | .nil => true
 | _ => false
def Nd.xM : Nd → Bool
 | .br _ _ => true
 | .hash _ => true
 | _ => false
def gX (N : Raw → Nd × Bool) (x : Raw) : Nd × Bool := if isL x then (match packed x with
  | none => (.nil, false)
  | some b => if b.length < 32 then N x else (.nil, false)) else if (bts x).length = 0 then (.nil, true) else if (bts x).length = 32 then (.hash (bts x), true) else (.nil, false)
def sO (N : Raw → Nd × Bool) (a b : Raw) : Nd × Bool := match rdP (bts a) with
 | none => (.nil, false)
 | some (p, lf) => if isL a then (.nil, false) else if lf then (.leaf p (bts b), !isL b && decide (0 < (bts b).length)) else if (gX N b).1.xM then (.ext p (gX N b).1, (gX N b).2 && decide (0 < p.length)) else (.nil, false)
def cntF (N : Raw → Nd × Bool) (xs : List Raw) : Nat := (xs.filter fun x => !(gX N x).1.isNil).length
def brF (N : Raw → Nd × Bool) (xs : List Raw) : Nd × Bool := if (xs.take 16).all (fun x => (gX N x).2) then (.br (fun k => (gX N (xs.getD k eF)).1) (bts (xs.getD 16 eF)), !isL (xs.getD 16 eF) && decide (1 < cntF N (xs.take 16) + (if 0 < (bts (xs.getD 16 eF)).length then 1 else 0))) else (.nil, false)
def bP : Nat → Raw → Nd × Bool
 | 0, _ => (.nil, false)
 | _ + 1, .mk false _ _ => (.nil, false)
 | f + 1, .mk true _ xs => if xs.length = 2 then sO (bP f) (xs.getD 0 eF) (xs.getD 1 eF) else if xs.length = 17 then brF (bP f) xs else (.nil, false)
theorem all_eq {α : Type} {p q : α → Bool} : ∀ {l : List α}, (∀ x ∈ l, p x = q x) → l.all p = l.all q
 | [], _ => rfl
 | x :: l, h => by rw [List.all_cons, List.all_cons, h x List.mem_cons_self, all_eq fun y hy => h y (Xw _ hy)]
theorem zI {α : Type} {p q : α → Bool} : ∀ {l : List α}, (∀ x ∈ l, p x = q x) → l.filter p = l.filter q
 | [], _ => rfl
 | x :: l, h => by rw [List.filter_cons, List.filter_cons, h x List.mem_cons_self, zI fun y hy => h y (Xw _ hy)]
theorem tV : ∀ (f : Nat) (x : Raw), (bP f x).2 = true → (bP f x).1.isNil = false
 | 0, x, h => by cases h
 | _ + 1, .mk false _ _, h => by cases h
 | f + 1, .mk true b xs, h => by
  rw [bP] at h ⊢
  split
  ·
   rename_i h2
   rw [if_pos h2] at h
   unfold sO at h ⊢
   split
   ·
    rename_i e
    rw [e] at h
    cases h
   ·
    rename_i p lf e
    rw [e] at h
    dsimp only at h
    split
    ·
     rename_i h3
     rw [if_pos h3] at h
     cases h
    ·
     split
     · rfl
     ·
      split
      · rfl
      ·
       rename_i h3 h4 h5
       rw [if_neg h3, if_neg h4, if_neg h5] at h
       cases h
  ·
   rename_i h2
   rw [if_neg h2] at h
   split
   ·
    rename_i h3
    rw [if_pos h3] at h
    unfold brF at h ⊢
    split
    · rfl
    ·
     rename_i h4
     rw [if_neg h4] at h
     cases h
   ·
    rename_i h3
    rw [if_neg h3] at h
    cases h
theorem Pe : ∀ (f : Nat) (x : Raw), (bP f x).2 = true → (bP f x).1.xM = !decide ((its x).length = 2)
 | 0, x, h => by cases h
 | _ + 1, .mk false _ _, h => by cases h
 | f + 1, .mk true b xs, h => by
  rw [bP] at h ⊢
  show _ = !decide (xs.length = 2)
  split
  ·
   rename_i h2
   rw [if_pos h2] at h
   rw [decide_eq_true h2]
   unfold sO at h ⊢
   split
   · rfl
   ·
    rename_i p lf e
    rw [e] at h
    dsimp only at h
    split
    · rfl
    ·
     split
     · rfl
     ·
      split
      · rfl
      · rfl
  ·
   rename_i h2
   rw [if_neg h2] at h
   rw [decide_eq_false h2]
   split
   ·
    rename_i h3
    rw [if_pos h3] at h
    unfold brF at h ⊢
    split
    · rfl
    ·
     rename_i h4
     rw [if_neg h4] at h
     cases h
   ·
    rename_i h3
    rw [if_neg h3] at h
    cases h
theorem rO {N : Raw → Nd × Bool} {x : Raw} (hx : Gd x) (hl : isL x = true) : gX N x = if (Rlp.E x).length < 32 then N x else (.nil, false) := by
 unfold gX
 rw [if_pos hl, hx.pk]
theorem JE {f : Nat} {x : Raw} (hx : Gd x) (ih : (bP f x).2 = isN f x) : (gX (bP f) x).2 = rfB (isN f) true x ∧ ((gX (bP f) x).2 = true → (!(gX (bP f) x).1.isNil) = some1 x) := by
 obtain ⟨l, b, xs⟩ := x
 cases l with
 | true =>
  rw [rO hx rfl]
  rw [uw]
  unfold some1
  rw [hx.pkB, show isL (.mk true b xs) = true from rfl, Bool.true_or]
  split
  ·
   rename_i h
   rw [decide_eq_true h, Y4]
   exact ⟨ih, fun h2 => by rw [tV f _ h2]; rfl⟩
  ·
   rename_i h
   rw [decide_eq_false h, ZO]
   exact ⟨rfl, fun h => by cases h⟩
 | false =>
  rw [rH]
  unfold gX some1
  rw [show isL (.mk false b xs) = false from rfl, if_neg Xv, show bts (.mk false b xs) = b from rfl, Bool.false_or]
  by_cases h0 : b.length = 0
  ·
   rw [if_pos h0]
   refine ⟨by simp [h0], fun _ => ?_⟩
   rw [h0]
   rfl
  ·
   rw [if_neg h0]
   by_cases h32 : b.length = 32
   ·
    rw [if_pos h32]
    refine ⟨by simp [h32], fun _ => ?_⟩
    rw [h32]
    rfl
   ·
    rw [if_neg h32]
    refine ⟨by simp [h0, h32], fun h => by cases h⟩
theorem kQ : ∀ (f : Nat) (x : Raw), Gd x → (bP f x).2 = isN f x
 | 0, x, _ => rfl
 | _ + 1, .mk false _ _, _ => by rw [bP, isN]
 | f + 1, .mk true b xs, hx => by
  have ih : ∀ y ∈ xs, (bP f y).2 = isN f y := fun y hy => kQ f y (hx.kid hy)
  rw [bP, isN]
  by_cases h2 : xs.length = 2
  ·
   rw [if_pos h2, if_neg (by omega), if_pos h2]
   match xs, h2 with
   | [a, c], _ =>
    have hc := hx.kid (y := c) (Xw _ List.mem_cons_self)
    have ic := ih c (Xw _ List.mem_cons_self)
    show (sO (bP f) a c).2 = prB (isN f) a c
    unfold sO prB
    cases hr : rdP (bts a) with
    | none => simp
    | some pl =>
     obtain ⟨p, lf⟩ := pl
     dsimp only
     cases hla : isL a with
     | true => rfl
     | false =>
      rw [if_neg Xv, ZP, Y4]
      cases lf with
      | true => rfl
      | false =>
       rw [if_neg Xv]
       dsimp only
       obtain ⟨cl, cb, cx⟩ := c
       cases cl with
       | true =>
        rw [rO hc rfl]
        rw [uw]
        rw [hc.pkB, show isL (.mk true cb cx) = true from rfl, Y4]
        split
        ·
         rename_i hlt
         rw [decide_eq_true hlt, Y4]
         cases hn : isN f (.mk true cb cx) with
         | true =>
          rw [hn] at ic
          rw [Pe f _ ic, ic]
          cases hd : decide ((its (.mk true cb cx)).length = 2) with
          | true => simp
          | false => simp
         | false =>
          rw [hn] at ic
          rw [ic]
          split <;> simp
        ·
         rename_i hlt
         rw [decide_eq_false hlt]
         simp [Nd.xM]
       | false =>
        rw [rH]
        unfold gX
        rw [show isL (.mk false cb cx) = false from rfl, if_neg Xv, show bts (.mk false cb cx) = cb from rfl]
        by_cases h0 : cb.length = 0
        ·
         rw [if_pos h0]
         simp [Nd.xM, h0]
        ·
         rw [if_neg h0]
         by_cases h32 : cb.length = 32
         ·
          rw [if_pos h32]
          simp [Nd.xM, h32]
         ·
          rw [if_neg h32]
          simp [Nd.xM, h32]
  ·
   rw [if_neg h2]
   by_cases h17 : xs.length = 17
   ·
    rw [if_pos h17, if_pos h17]
    unfold brF brB
    have hk : ∀ y ∈ xs.take 16, (gX (bP f) y).2 = rfB (isN f) true y := fun y hy => (JE (hx.kid (YD hy)) (ih y (YD hy))).1
    rw [all_eq hk]
    cases hall : (xs.take 16).all (rfB (isN f) true) with
    | false => simp
    | true =>
     rw [if_pos rfl, Y4]
     dsimp only
     congr 1
     have : (xs.take 16).filter (fun x => !(gX (bP f) x).1.isNil) = (xs.take 16).filter some1 := zI fun y hy => (JE (hx.kid (YD hy)) (ih y (YD hy))).2 (by rw [hk y hy]; exact X6.1 hall y hy)
     unfold cntF
     rw [this]
     rfl
   · rw [if_neg h17, if_neg h17, if_neg h2]
theorem kD {S : St} {ops : Array Oper} {o : Oper} {Ty : TypeId} {x : Operand} {d : D} (ho : o.op = .box Ty x) (hx : ev S x = some (.val d)) : oN ops S o (· = .val (.pd d)) := fun base ok a w ha => by
 obtain ⟨cs, h1, h2⟩ := JM ho hx base ok a w ha
 rw [h1]
 have hg := ay w (.cells cs.toArray Ty)
 refine ⟨hg, _, rfl, (bM rfl).2 ?_⟩
 rw [Reads]
 have hs : w.heap.size < (w.alloc (.cells cs.toArray Ty)).heap.size := by simp
 have hr : (w.alloc (.cells cs.toArray Ty)).heap[w.heap.size]? = some (.cells cs.toArray Ty (0, 0)) := (MapKept.heap_alloc w _).1
 exact ⟨w.heap.size, 0, cs, rfl, ⟨.inr (Nat.le_refl _), hs⟩, jC hr, Reads.mono (fun b hb => ⟨.inl hb, XM (ha.lt b hb) hg.size⟩) (fun p hp => hg.cell (ha.lt _ hp)) _ _ h2⟩
theorem EK.bV {N : Nat} {X : Cx N} {fn : Func} {Φ : R → List Obj → Prop} {S : St} {t u : Tmp} {d e d' e' : D} (os' : List Obj) (hres : fn.results = #[.tmp t, .tmp u]) (hl : look S.regs t = some (.val d)) (hk : look S.regs u = some (.val e)) (hR : aj S.facts [d, e] [d', e']) (ho : os'.Sublist S.objs) (hΦ : Φ (.tpl [d', e']) os') : EK X (bodyPost Tryz.prog fn (Ai X Φ) .ret) S := by
 refine EK.le (S' := ⟨S.regs, os', S.facts⟩) ?_ (EK.UC hres hl hk hR hΦ)
 exact fun a w h => ⟨h.mem.less ho (fun f hf => hf), fun t r ht => cO.mono (fun b hb => pq ho hb) (fun _ _ => rfl) (h.regs t r ht), h.size, h.defers⟩
end E
end Go.Proofs.YtelbhdobjdnglaaGreat
