/-
 Merged: lemmas of this claim.
 Conditions: none.
-/
import Derived.Test.YtelbhdobjdnglaaGreatZC18
import Derived.Test.YtelbhdobjdnglaaGreatZC19
import Derived.Test.YtelbhdobjdnglaaGreatZC22
import Derived.Test.YtelbhdobjdnglaaGreatZC5
import Derived.Test.YtelbhdobjdnglaaGreatZC16
import Derived.Test.YtelbhdobjdnglaaGreatZC15
import Derived.Test.YtelbhdobjdnglaaGreatZC20
import Derived.Laws.CopyOwn
import Derived.Test.YtelbhdobjdnglaaGreatZC0
namespace Go.Proofs.YtelbhdobjdnglaaGreat
set_option linter.unusedVariables false
set_option maxRecDepth 20000
set_option maxHeartbeats 16000000
open Go.RowKit Mono Rlp
namespace E
theorem Jm (t : Nd) : Bin .neq 110 (dN t) (.v .nilIface) (.bool !t.isNil) := by
 have key : ∀ T d, Bin .neq 110 (.ifc T d) (.v .nilIface) (.bool true) := fun T d => by
  refine ⟨rfl, fun ok w p q hp hq => ?_⟩
  obtain rfl := (aY.1 hq).2
  obtain ⟨cs, h1, rfl⟩ := hp
  rw [Reads] at h1
  obtain ⟨cs', rfl, _⟩ := h1
  exact ⟨fun x y => by simp [eqGuard, form, D.agg], run_neq_held_nil _ _ _ _ (by kernel_rfl)⟩
 cases t with
 | nil =>
  refine ⟨rfl, fun ok w p q hp hq => ?_⟩
  obtain rfl := (aY.1 hp).2
  obtain rfl := (aY.1 hq).2
  exact ⟨fun x y => by cases x <;> cases y <;> kernel_rfl, by kernel_rfl⟩
 | hash a => exact key _ _
 | leaf a b => exact key _ _
 | ext a b => exact key _ _
 | br a b => exact key _ _
theorem Tv (t : Nd) (u : D) (h1 : u.size = 1) (h2 : u.agg = false) : (dN t).upd 0 u = some u := by
 cases t <;> (rw [dN]; simp [D.upd, h1, h2])
theorem xG {ds : List D} (hs : ∀ e ∈ ds, ∃ s : Nd, e = dN s) : D.sizes ds = ds.length := by
 induction ds with
 | nil => rfl
 | cons e ds ih =>
  obtain ⟨s, rfl⟩ := hs e (by simp)
  rw [D.sizes, (jV s).1, ih fun e he => hs e (by simp [he]), WS, Yv]
theorem QT {ds : List D} {b : D} (k : Nat) (t : Nd) (hs : ∀ e ∈ ds, ∃ s : Nd, e = dN s) (hl : ds.length = 16) (hk : k < 16) : (D.tup [.tup ds, b]).upd k (dN t) = some (.tup [.tup (ds.set k (dN t)), b]) := by
 have hsz : D.sizes ds = 16 := by rw [xG hs, hl]
 have h1 := (jV t).1
 have h2 := (jV t).2
 have h3 := Ew ds k (dN t) (fun e he => by
  obtain ⟨s, rfl⟩ := hs e he
  exact ⟨(jV s).1, (jV s).2, Tv s⟩) (by omega) h1 h2
 rw [D.upd, if_neg (by rw [h2]; simp), D.vg, if_pos (by rw [D.size, hsz]; exact hk), D.upd, if_neg (by rw [h2]; simp), h3]
 rfl
theorem NW {ds : List D} {b : D} (v : List UInt8) (hs : ∀ e ∈ ds, ∃ s : Nd, e = dN s) (hl : ds.length = 16) : (D.tup [.tup ds, .v (.slice none 0 0)]).upd 16 (.bs v) = some (.tup [.tup ds, .bs v]) := by
 have hsz : D.sizes ds = 16 := by rw [xG hs, hl]
 simp [D.upd, D.vg, D.size, D.agg, hsz]
def oC (N : Raw → Nd × Bool) (xs : List Raw) (k : Nat) : List D := (List.range 16).map fun i => if i < k then dN (iU N (xs.getD i jw)).1 else .v .nilIface
theorem IK (N : Raw → Nd × Bool) (xs : List Raw) : oC N xs 0 = List.replicate 16 (.v .nilIface) := by
 unfold oC
 simp only [Nat.not_lt_zero, if_false]
 rfl
theorem JU (N : Raw → Nd × Bool) (xs : List Raw) (k : Nat) : (∀ e ∈ oC N xs k, ∃ s : Nd, e = dN s) ∧ (oC N xs k).length = 16 := by
 unfold oC
 refine ⟨fun e he => ?_, by simp⟩
 obtain ⟨i, _, rfl⟩ := Xg.1 he
 by_cases h : i < k
 ·
  rw [if_pos h]
  exact ⟨_, rfl⟩
 ·
  rw [if_neg h]
  exact ⟨.nil, rfl⟩
theorem IL (N : Raw → Nd × Bool) (xs : List Raw) (k : Nat) (hk : k < 16) : oC N xs (k + 1) = (oC N xs k).set k (dN (iU N (xs.getD k jw)).1) := by
 unfold oC
 refine Yo fun d => ?_
 rw [List.getElem?_set]
 by_cases hd : k = d
 ·
  subst hd
  rw [if_pos rfl, if_pos (by simpa using hk), Xl, YA hk, XW, if_pos (Nat.lt_succ_self _)]
 ·
  rw [if_neg hd, Xl, Xl]
  by_cases h16 : d < 16
  ·
   rw [YA h16, XW, XW]
   by_cases h1 : d < k
   · rw [if_pos h1, if_pos (by omega)]
   · rw [if_neg h1, if_neg (by omega)]
  ·
   rw [XM (by simp; omega)]
   rfl
theorem MG (N : Raw → Nd × Bool) (xs : List Raw) : oC N xs 16 = (List.range 16).map fun i => dN (iU N (xs.getD i jw)).1 := by
 unfold oC
 exact XL fun i hi => if_pos (X7.1 hi)
theorem Nq (xs : List Raw) (N : Raw → Nd × Bool) (h17 : xs.length = 17) (H : ∀ y ∈ xs, isL y = true → Fn 111 [aX y] (· = jR (N y))) : Fn 160 [.sl 3 (bG xs)] (· = jR (brF N xs)) := by
 refine FnM.toFn ?_
 have hml : (bG xs).length = 17 := by rw [gJ, WY, h17]
 have hat : ∀ k, (hk : k < xs.length) → (bG xs)[k]? = some (aX xs[k]) := fun k hk => by rw [gJ, Xl, List.getElem?_eq_getElem hk]; rfl
 have h16 := hat 16 (by omega)
 have hgd : ∀ k, (hk : k < xs.length) → xs.getD k jw = xs[k] := fun k hk => getD_mem hk
 generalize hDs : bG xs = Ds at hml hat h16
 refine FnM.walk 59 Tryz.func160 rfl Tryz.ntmps160 (by simp) fun X => ?_
 repeat
  (first
   | (apply ak; iterate 3 rfl) | (apply ah; iterate 3 rfl) | (apply dX; iterate 7 rfl) | (apply cZ; rfl; rfl; rfl; intro _) | apply EL.nil
   | (with_reducible first | apply EK.nc | apply EC.seq | apply EC.r0 | apply EC.b0))
 rename_i g
 refine EC.loop (ι := {k : Nat // k ≤ 16 ∧ (xs.take k).all (fun x => (iU N x).2) = true})
  (fun k => ⟨[(12, .val (.v (.int .i64 (k.1 : Int)))), (5, .val (.v (.int .i64 ((cntF N (xs.take k.1) : Nat) : Int)))), (4, .val (.v (.pointer (some ⟨g, 0, none⟩)))), (0, .val (.sl 3 Ds))], [.var g 244 (.tup [.tup (oC N xs k.1), .v (.slice none 0 0)])], []⟩)
  (fun k => 16 - k.1) ⟨0, Xo _, rfl⟩ ?_ ?_
 ·
  dsimp only
  rw [IK]
  exact Le.kp
 rintro ⟨k, hk, hall⟩
 dsimp only at hk ⊢
 by_cases hlt : k < 16
 ·
  have hkx : k < xs.length := by omega
  have hd := hat k hkx
  have htk : xs.take (k + 1) = xs.take k ++ [xs[k]] := Xa hkx
  have hR := PN xs[k] N (H xs[k] (XH hkx))
  have hno : (iU N xs[k]).2 = false → (xs.take 16).all (fun x => (iU N x).2) = false := fun h => by
   refine Y5.2 fun ha => ?_
   have := Xk.1 ha xs[k] (List.mem_iff_getElem.2 ⟨k, by rw [Xi]; omega, by rw [List.getElem_take]⟩)
   rw [h] at this
   cases this
  have hks := IL N xs k hlt
  rw [hgd k hkx] at hks
  have hkN := JU N xs k
  have hcn : cntF N (xs.take (k + 1)) = cntF N (xs.take k) + (if (iU N xs[k]).1.isNil then 0 else 1) := by
   unfold cntF
   rw [htk, YF, List.length_append]
   congr 1
   cases h : (iU N xs[k]).1.isNil with
   | true => rw [Ym (by simp [h])]; rfl
   | false => rw [Yd (by simp [h])]; rfl
  have hcl : cntF N (xs.take k) ≤ 16 := XD (YJ _ _) (by rw [Xi]; omega)
  have hal1 : (iU N xs[k]).2 = true → (xs.take (k + 1)).all (fun x => (iU N x).2) = true := fun h => by
   rw [htk, List.all_append, hall]
   simp [h]
  generalize cntF N (xs.take k) = n at *
  generalize oC N xs k = K at *
  generalize xs[k] = y at *
  have hnn := Jm (iU N y).1
  have hup := QT (b := .v (.slice none 0 0)) k (iU N y).1 hkN.1 hkN.2 hlt
  have ho1 := (jV (iU N y).1).1
  have ho2 := (jV (iU N y).1).2
  unfold jR at hR
  obtain ⟨yl, yb, yx⟩ := y
  unfold aX at hd hR
  generalize iU N (.mk yl yb yx) = r at *
  obtain ⟨c, ok⟩ := r
  dsimp only at *
  cases ok with
  | false =>
   have : brF N xs = (.nil, false) := by
    unfold brF
    rw [if_neg]
    rw [hno rfl]
    exact Bool.false_ne_true
   rw [this]
   repeat
    (first
     | (apply aC (hR); rfl; exact aj.refl _ _; exact enA; iterate 2 rfl)
     | (apply bH (d := .tup [.v (.bool yl), .bs yb, .sl 3 (bG yx)]); (iterate 4 rfl); exact ⟨by omega, by rw [Xy]; exact hd⟩; iterate 2 rfl)
     | (apply ak; iterate 3 rfl) | (apply ah; iterate 3 rfl) | (apply aA; iterate 4 rfl) | (apply aG; iterate 5 rfl)
     | (apply bM; iterate 3 rfl) | (apply aF (b := true); (iterate 2 rfl); exact aQ; iterate 2 rfl) | apply EL.nil
     | (apply EC.t0; rfl) | (with_reducible first | apply EK.nc | apply EC.seq | apply EC.r0 | apply EC.k0 | apply EC.b0 | apply EC.ret | apply EK.bK | apply EK.aB))
   exact EK.cO [] rfl rfl rfl RL.a (WI _) ⟨rfl, rfl⟩
  | true =>
   cases hnil : c.isNil with
   | true =>
    rw [hnil] at hnn hcn
    rw [if_pos rfl, XI] at hcn
    repeat
     (first
      | (apply aC (hR); rfl; exact aj.refl _ _; exact enA; iterate 2 rfl) | (apply nC; (iterate 2 rfl); exact hnn; iterate 2 rfl)
      | (apply bH (d := .tup [.v (.bool yl), .bs yb, .sl 3 (bG yx)]); (iterate 4 rfl); exact ⟨by omega, by rw [Xy]; exact hd⟩; iterate 2 rfl)
      | (apply Aa; (iterate 3 rfl); exact ⟨by omega, by omega⟩; iterate 2 rfl)
      | (apply aO; rfl; exact .z; rfl; exact (by rw [ho1, ho2]; rfl); exact (by rw [show 0 + 0 + (k : Int).toNat * 1 = k by omega]; exact hup); rfl)
      | (apply ak; iterate 3 rfl) | (apply ah; iterate 3 rfl) | (apply aH; iterate 6 rfl) | (apply aA; iterate 4 rfl)
      | (apply aG; iterate 5 rfl) | (apply bM; iterate 3 rfl) | (apply aF (b := true); (iterate 2 rfl); exact aQ; iterate 2 rfl)
      | (apply jM; (iterate 3 rfl); (focus omega); (focus omega); iterate 2 rfl) | (apply kL; iterate 3 rfl) | apply EL.nil
      | (apply EC.t0; rfl) | (apply EC.f0; rfl)
      | (with_reducible first | apply EK.nc | apply EC.seq | apply EC.r0 | apply EC.k0 | apply EC.b0 | apply EK.n0))
    refine EK.again ⟨k + 1, hlt, hal1 rfl⟩ (by dsimp only; omega) ?_
    dsimp only
    rw [hcn, hks]
    simp only [XA]
    exact Le.kp
   | false =>
    rw [hnil] at hnn hcn
    rw [if_neg Bool.false_ne_true] at hcn
    repeat
     (first
      | (apply aC (hR); rfl; exact aj.refl _ _; exact enA; iterate 2 rfl) | (apply nC; (iterate 2 rfl); exact hnn; iterate 2 rfl)
      | (apply bH (d := .tup [.v (.bool yl), .bs yb, .sl 3 (bG yx)]); (iterate 4 rfl); exact ⟨by omega, by rw [Xy]; exact hd⟩; iterate 2 rfl)
      | (apply Aa; (iterate 3 rfl); exact ⟨by omega, by omega⟩; iterate 2 rfl)
      | (apply aO; rfl; exact .z; rfl; exact (by rw [ho1, ho2]; rfl); exact (by rw [show 0 + 0 + (k : Int).toNat * 1 = k by omega]; exact hup); rfl)
      | (apply ak; iterate 3 rfl) | (apply ah; iterate 3 rfl) | (apply aH; iterate 6 rfl) | (apply aA; iterate 4 rfl)
      | (apply aG; iterate 5 rfl) | (apply bM; iterate 3 rfl) | (apply aF (b := true); (iterate 2 rfl); exact aQ; iterate 2 rfl)
      | (apply jM; (iterate 3 rfl); (focus omega); (focus omega); iterate 2 rfl) | (apply kL; iterate 3 rfl) | apply EL.nil
      | (apply EC.t0; rfl) | (apply EC.f0; rfl)
      | (with_reducible first | apply EK.nc | apply EC.seq | apply EC.r0 | apply EC.k0 | apply EC.b0 | apply EK.n0))
    refine EK.again ⟨k + 1, hlt, hal1 rfl⟩ (by dsimp only; omega) ?_
    dsimp only
    rw [hcn, hks]
    simp only [XA]
    exact Le.kp
 ·
  have hke : k = 16 := by omega
  subst hke
  have hcl : cntF N (xs.take 16) ≤ 16 := XD (YJ _ _) (by rw [Xi]; omega)
  unfold brF
  rw [if_pos hall, hgd 16 (by omega)]
  unfold jR
  dsimp only
  rw [dN, ← MG]
  have hkN := JU N xs 16
  generalize cntF N (xs.take 16) = n at *
  generalize oC N xs 16 = K at *
  generalize xs[16]'(by omega) = y at h16 ⊢
  obtain ⟨yl, yb, yx⟩ := y
  have hup := NW (b := .v (.slice none 0 0)) yb hkN.1 hkN.2
  unfold aX at h16
  rw [show isL (.mk yl yb yx) = yl from rfl, show bts (.mk yl yb yx) = yb from rfl]
  have hL : ∀ b : Bool, (n + (if b then 1 else 0) : Nat) = (if b then n + 1 else n) := fun b => by cases b <;> rfl
  by_cases h0 : 0 < yb.length
  ·
   rw [if_pos h0]
   have hc0 : gq .gtr (yb.length : Int) 0 = some true := by
    simp only [gq, Xw, decide_eq_true_eq]
    omega
   cases yl with
   | true =>
    rw [Bool.not_true, Yk]
    repeat
     (first
      | (apply dO; iterate 2 rfl) | (apply bH (d := .tup [.v (.bool true), .bs yb, .sl 3 (bG yx)]); (iterate 4 rfl); exact ⟨by decide, h16⟩; iterate 2 rfl)
      | (apply aF (b := true); (iterate 2 rfl); exact hc0; iterate 2 rfl)
      | (apply aO; rfl; exact .s .z; rfl; rfl; exact hup; rfl; refine EL.le (Le.pin (p := 4) (pre := [_]) rfl rfl) ?_; simp only [WL, WJ])
      | (apply ak; iterate 3 rfl) | (apply ah; iterate 3 rfl) | (apply aH; iterate 6 rfl) | (apply aG; iterate 5 rfl)
      | (apply aK; iterate 4 rfl) | (apply bM; iterate 3 rfl) | (apply aI; rfl; exact I.a; iterate 4 rfl)
      | (apply aF (b := false); (iterate 2 rfl); exact aQ; iterate 2 rfl) | (apply jM; (iterate 3 rfl); (focus omega); (focus omega); iterate 2 rfl)
      | (apply aV; iterate 4 rfl) | (apply kL; iterate 3 rfl) | (apply iP; iterate 4 rfl) | (apply aT; rfl; rfl; rfl; intro _)
      | (apply aO; rfl; exact saA; iterate 4 rfl) | apply EL.nil
      | (apply EC.t0; rfl) | (apply EC.f0; rfl) | (with_reducible first | apply EK.nc | apply EC.seq | apply EC.r0 | apply EC.x0 | apply EC.ret | apply EK.s0 | apply EK.aJ))
    exact EK.cO [] rfl rfl rfl RL.a (WI _) ⟨rfl, rfl⟩
   | false =>
    rw [YD, XO]
    by_cases h1 : 1 < n + 1
    ·
     rw [decide_eq_true h1]
     repeat
      (first
       | (apply bH (d := .tup [.v (.bool false), .bs yb, .sl 3 (bG yx)]); (iterate 4 rfl); exact ⟨by decide, h16⟩; iterate 2 rfl)
       | (apply aF (b := true); (iterate 2 rfl); exact hc0; iterate 2 rfl)
       | (apply aO; rfl; exact .s .z; rfl; rfl; exact hup; rfl; refine EL.le (Le.pin (p := 4) (pre := [_]) rfl rfl) ?_; simp only [WL, WJ])
       | (apply ak; iterate 3 rfl) | (apply ah; iterate 3 rfl) | (apply aH; iterate 6 rfl) | (apply aG; iterate 5 rfl)
       | (apply aK; iterate 4 rfl) | (apply bM; iterate 3 rfl) | (apply aI; rfl; exact I.a; iterate 4 rfl)
       | (apply aF (b := true); (iterate 2 rfl); exact aQ; iterate 2 rfl) | (apply aF (b := false); (iterate 2 rfl); exact aQ; iterate 2 rfl)
       | (apply jM; (iterate 3 rfl); (focus omega); (focus omega); iterate 2 rfl) | (apply aV; iterate 4 rfl) | (apply kL; iterate 3 rfl)
       | (apply iP; iterate 4 rfl) | (apply aT; rfl; rfl; rfl; intro _)
       | (apply aO; rfl; exact saA; iterate 4 rfl) | apply EL.nil
       | (apply EC.t0; rfl) | (apply EC.f0; rfl) | (with_reducible first | apply EK.nc | apply EC.seq | apply EC.r0 | apply EC.x0 | apply EC.ret | apply EK.s0 | apply EK.aJ))
     exact EK.cO [] rfl rfl rfl RL.a (WI _) ⟨rfl, rfl⟩
    ·
     rw [decide_eq_false h1]
     repeat
      (first
       | (apply bH (d := .tup [.v (.bool false), .bs yb, .sl 3 (bG yx)]); (iterate 4 rfl); exact ⟨by decide, h16⟩; iterate 2 rfl)
       | (apply aF (b := true); (iterate 2 rfl); exact hc0; iterate 2 rfl)
       | (apply aO; rfl; exact .s .z; rfl; rfl; exact hup; rfl; refine EL.le (Le.pin (p := 4) (pre := [_]) rfl rfl) ?_; simp only [WL, WJ])
       | (apply ak; iterate 3 rfl) | (apply ah; iterate 3 rfl) | (apply aH; iterate 6 rfl) | (apply aG; iterate 5 rfl)
       | (apply aK; iterate 4 rfl) | (apply bM; iterate 3 rfl) | (apply aI; rfl; exact I.a; iterate 4 rfl)
       | (apply aF (b := false); (iterate 2 rfl); exact aQ; iterate 2 rfl) | (apply jM; (iterate 3 rfl); (focus omega); (focus omega); iterate 2 rfl)
       | (apply aV; iterate 4 rfl) | (apply kL; iterate 3 rfl) | (apply iP; iterate 4 rfl) | (apply aT; rfl; rfl; rfl; intro _)
       | (apply aO; rfl; exact saA; iterate 4 rfl) | apply EL.nil
       | (apply EC.t0; rfl) | (apply EC.f0; rfl) | (with_reducible first | apply EK.nc | apply EC.seq | apply EC.r0 | apply EC.x0 | apply EC.ret | apply EK.s0 | apply EK.aJ))
     exact EK.cO [] rfl rfl rfl RL.a (WI _) ⟨rfl, rfl⟩
  ·
   rw [if_neg h0, XI]
   have hc0 : gq .gtr (yb.length : Int) 0 = some false := by
    simp only [gq, Xw, decide_eq_false_iff_not]
    omega
   cases yl with
   | true =>
    rw [Bool.not_true, Yk]
    repeat
     (first
      | (apply dO; iterate 2 rfl) | (apply bH (d := .tup [.v (.bool true), .bs yb, .sl 3 (bG yx)]); (iterate 4 rfl); exact ⟨by decide, h16⟩; iterate 2 rfl)
      | (apply aF (b := false); (iterate 2 rfl); exact hc0; iterate 2 rfl)
      | (apply aO; rfl; exact .s .z; rfl; rfl; exact hup; rfl; refine EL.le (Le.pin (p := 4) (pre := [_]) rfl rfl) ?_; simp only [WL, WJ])
      | (apply ak; iterate 3 rfl) | (apply ah; iterate 3 rfl) | (apply aH; iterate 6 rfl) | (apply aG; iterate 5 rfl)
      | (apply aK; iterate 4 rfl) | (apply bM; iterate 3 rfl) | (apply aI; rfl; exact I.a; iterate 4 rfl)
      | (apply aF (b := false); (iterate 2 rfl); exact aQ; iterate 2 rfl) | (apply aV; iterate 4 rfl) | (apply kL; iterate 3 rfl)
      | (apply iP; iterate 4 rfl) | (apply aT; rfl; rfl; rfl; intro _)
      | (apply aO; rfl; exact saA; iterate 4 rfl) | apply EL.nil
      | (apply EC.f0; rfl) | (with_reducible first | apply EK.nc | apply EC.seq | apply EC.r0 | apply EC.k0 | apply EC.x0 | apply EC.ret | apply EK.s0 | apply EK.aJ))
    exact EK.cO [] rfl rfl rfl RL.a (WI _) ⟨rfl, rfl⟩
   | false =>
    rw [YD, XO]
    by_cases h1 : 1 < n
    ·
     rw [decide_eq_true h1]
     repeat
      (first
       | (apply bH (d := .tup [.v (.bool false), .bs yb, .sl 3 (bG yx)]); (iterate 4 rfl); exact ⟨by decide, h16⟩; iterate 2 rfl)
       | (apply aF (b := false); (iterate 2 rfl); exact hc0; iterate 2 rfl)
       | (apply aO; rfl; exact .s .z; rfl; rfl; exact hup; rfl; refine EL.le (Le.pin (p := 4) (pre := [_]) rfl rfl) ?_; simp only [WL, WJ])
       | (apply ak; iterate 3 rfl) | (apply ah; iterate 3 rfl) | (apply aH; iterate 6 rfl) | (apply aG; iterate 5 rfl)
       | (apply aK; iterate 4 rfl) | (apply bM; iterate 3 rfl) | (apply aI; rfl; exact I.a; iterate 4 rfl)
       | (apply aF (b := true); (iterate 2 rfl); exact aQ; iterate 2 rfl) | (apply aF (b := false); (iterate 2 rfl); exact aQ; iterate 2 rfl)
       | (apply aV; iterate 4 rfl) | (apply kL; iterate 3 rfl) | (apply iP; iterate 4 rfl) | (apply aT; rfl; rfl; rfl; intro _)
       | (apply aO; rfl; exact saA; iterate 4 rfl) | apply EL.nil
       | (apply EC.f0; rfl) | (with_reducible first | apply EK.nc | apply EC.seq | apply EC.r0 | apply EC.k0 | apply EC.x0 | apply EC.ret | apply EK.s0 | apply EK.aJ))
     exact EK.cO [] rfl rfl rfl RL.a (WI _) ⟨rfl, rfl⟩
    ·
     rw [decide_eq_false h1]
     repeat
      (first
       | (apply bH (d := .tup [.v (.bool false), .bs yb, .sl 3 (bG yx)]); (iterate 4 rfl); exact ⟨by decide, h16⟩; iterate 2 rfl)
       | (apply aF (b := false); (iterate 2 rfl); exact hc0; iterate 2 rfl)
       | (apply aO; rfl; exact .s .z; rfl; rfl; exact hup; rfl; refine EL.le (Le.pin (p := 4) (pre := [_]) rfl rfl) ?_; simp only [WL, WJ])
       | (apply ak; iterate 3 rfl) | (apply ah; iterate 3 rfl) | (apply aH; iterate 6 rfl) | (apply aG; iterate 5 rfl)
       | (apply aK; iterate 4 rfl) | (apply bM; iterate 3 rfl) | (apply aI; rfl; exact I.a; iterate 4 rfl)
       | (apply aF (b := false); (iterate 2 rfl); exact aQ; iterate 2 rfl) | (apply aV; iterate 4 rfl) | (apply kL; iterate 3 rfl)
       | (apply iP; iterate 4 rfl) | (apply aT; rfl; rfl; rfl; intro _)
       | (apply aO; rfl; exact saA; iterate 4 rfl) | apply EL.nil
       | (apply EC.f0; rfl) | (with_reducible first | apply EK.nc | apply EC.seq | apply EC.r0 | apply EC.k0 | apply EC.x0 | apply EC.ret | apply EK.s0 | apply EK.aJ))
     exact EK.cO [] rfl rfl rfl RL.a (WI _) ⟨rfl, rfl⟩
theorem Sv : ∀ (f : Nat) (x : Raw), dep x < f → Gd x → Fn 111 [aX x] (· = jR (fF f x)) := by
 intro f
 induction f with
 | zero => exact fun x h _ => absurd h (Nat.not_lt_zero _)
 | succ f IH =>
 rintro ⟨l, b, xs⟩ h hE
 cases l with
 | false =>
  rw [fF, aX]
  refine FnM.toFn ?_
  refine FnM.walk 34 Tryz.func111 rfl Tryz.ntmps111 (by simp) fun X => ?_
  repeat
   (first
    | (apply ah; iterate 3 rfl) | (apply aH; iterate 6 rfl) | (apply bM; iterate 3 rfl) | (apply aI; rfl; exact I.a; iterate 4 rfl)
    | (apply cZ; rfl; rfl; rfl; intro _) | apply EL.nil | (apply EC.t0; rfl)
    | (with_reducible first | apply EK.nc | apply EC.seq | apply EC.r0 | apply EC.k0 | apply EC.b0 | apply EC.ret | apply EK.n0))
  exact EK.cO [] rfl rfl rfl RL.a (WI _) ⟨rfl, rfl⟩
 | true =>
  have ih : ∀ y ∈ xs, isL y = true → Fn 111 [aX y] (· = jR (fF f y)) := fun y hy _ => IH y (by have := xK hy; rw [dep] at h; omega) (hE.kid hy)
  rw [fF]
  have hml : (bG xs).length = xs.length := by rw [gJ, WY]
  by_cases h2 : xs.length = 2
  ·
   rw [if_pos h2]
   match xs, h2 with
   | [x, y], _ =>
    have hgx := hE.kid (y := x) WT
    have hx0 : (bts x).length ≤ 536870912 := by
     obtain ⟨xl, xb, xx⟩ := x
     show xb.length ≤ _
     cases xl with
     | false =>
      have h1 := hgx.len
      rw [Rlp.E] at h1
      have := QL xb
      simp only [most] at h1
      omega
     | true =>
      have h1 := hgx.nrm
      rw [norm] at h1
      injection h1 with _ h1 _
      rw [← h1]
      exact Xo _
    have hP := Sr x y (fF f) hx0 (ih y (WZ _ WT))
    rw [show [x, y].getD 0 jw = x from rfl, show [x, y].getD 1 jw = y from rfl]
    unfold jR at hP ⊢
    generalize qE (fF f) x y = r at hP ⊢
    rw [aX, bG, bG, bG]
    refine FnM.toFn ?_
    refine FnM.walk 34 Tryz.func111 rfl Tryz.ntmps111 (by simp) fun X => ?_
    obtain ⟨xl, xb, xx⟩ := x
    obtain ⟨yl, yb, yx⟩ := y
    rw [aX, aX] at hP ⊢
    repeat
     (first
      | (apply ah; iterate 3 rfl) | (apply aH; iterate 6 rfl) | (apply bM; iterate 3 rfl) | (apply aI; rfl; exact I.a; iterate 4 rfl)
      | (apply aF (b := true); (iterate 2 rfl); exact aQ; iterate 2 rfl) | (apply bC; iterate 4 rfl) | (apply cZ; rfl; rfl; rfl; intro _) | apply EL.nil
      | (apply EC.t0; rfl) | (apply EC.f0; rfl) | (with_reducible first | apply EK.nc | apply EC.seq | apply EC.r0 | apply EC.b0))
    refine EC.draw 11 (by kernel_rfl) ?_
    simp only [WH, WO, WG, WM]
    repeat
     (first
      | (apply jv (hP); rfl; exact aj.refl _ _; exact enA; iterate 2 rfl) | (apply dJ; iterate 6 rfl) | (apply dZ; iterate 4 rfl)
      | (apply fA; iterate 5 rfl) | (apply dP; rfl; exact I.a; iterate 4 rfl)
      | (apply gU; (iterate 4 rfl); exact ixA; iterate 2 rfl)
      | ((with_reducible apply EH.nil); rfl))
    repeat
     (first
      | (apply ah; iterate 3 rfl) | apply EL.nil | (with_reducible first | apply EK.nc | apply EC.ret | apply EK.bK | apply EK.aB))
    exact EK.cO [] rfl rfl rfl RL.a (WI _) ⟨rfl, rfl⟩
  ·
   rw [if_neg h2]
   have hc2 : gq .eql ((bG xs).length : Int) 2 = some false := by
    simp only [gq, Xw, beq_eq_false_iff_ne]
    omega
   by_cases h17 : xs.length = 17
   ·
    rw [if_pos h17]
    have hB := Nq xs (fF f) h17 ih
    unfold jR at hB ⊢
    generalize brF (fF f) xs = r at hB ⊢
    rw [aX]
    refine FnM.toFn ?_
    refine FnM.walk 34 Tryz.func111 rfl Tryz.ntmps111 (by simp) fun X => ?_
    repeat
     (first
      | (apply aC (hB); rfl; exact aj.refl _ _; exact enA; iterate 2 rfl) | (apply aF (b := false); (iterate 2 rfl); exact hc2; iterate 2 rfl)
      | (apply ah; iterate 3 rfl) | (apply aH; iterate 6 rfl) | (apply aA; iterate 4 rfl) | (apply bM; iterate 3 rfl)
      | (apply aI; rfl; exact I.a; iterate 4 rfl) | (apply aF (b := true); (iterate 2 rfl); exact aQ; iterate 2 rfl) | (apply bC; iterate 4 rfl)
      | (apply cZ; rfl; rfl; rfl; intro _) | apply EL.nil | (apply EC.t0; rfl) | (apply EC.f0; rfl)
      | (with_reducible first | apply EK.nc | apply EC.seq | apply EC.r0 | apply EC.b0 | apply EC.ret | apply EK.bK | apply EK.aB))
    exact EK.cO [] rfl rfl rfl RL.a (WI _) ⟨rfl, rfl⟩
   ·
    rw [if_neg h17]
    have hc17 : gq .eql ((bG xs).length : Int) 17 = some false := by
     simp only [gq, Xw, beq_eq_false_iff_ne]
     omega
    rw [aX]
    refine FnM.toFn ?_
    refine FnM.walk 34 Tryz.func111 rfl Tryz.ntmps111 (by simp) fun X => ?_
    repeat
     (first
      | (apply aF (b := false); (iterate 2 rfl); (first | exact hc2 | exact hc17); iterate 2 rfl) | (apply ah; iterate 3 rfl) | (apply aH; iterate 6 rfl)
      | (apply bM; iterate 3 rfl) | (apply aI; rfl; exact I.a; iterate 4 rfl) | (apply bC; iterate 4 rfl) | (apply cZ; rfl; rfl; rfl; intro _)
      | apply EL.nil | (apply EC.f0; rfl)
      | (with_reducible first | apply EK.nc | apply EC.seq | apply EC.r0 | apply EC.k0 | apply EC.b0 | apply EC.ret | apply EK.n0))
    exact EK.cO [] rfl rfl rfl RL.a (WI _) ⟨rfl, rfl⟩
theorem xH (b : List UInt8) : Gd (rdX b) := by
 unfold rdX
 cases hr : fU b with
 | ok x => exact OD hr
 | error e => exact RP
def E8 (b : List UInt8) : Nd × Bool := if rdE b = 0 ∧ isN 40 (rdX b) = true then fF 40 (rdX b) else (.nil, false)
theorem Sm (b : List UInt8) : Fn 64 [.bs b] (· = jR (E8 b)) := by
 have h1 := PZ b
 have hg := xH b
 have h2 := Sv 40 (rdX b) (by have := hg.dep; omega) hg
 have h3 := oz 40 (rdX b) hg
 unfold E8
 unfold yO at h1
 unfold jR at h2 ⊢
 generalize fF 40 (rdX b) = r at h2 h3 ⊢
 generalize isN 40 (rdX b) = q at h3 ⊢
 generalize rdX b = x at h1 h2
 generalize rdE b = e at h1 ⊢
 obtain ⟨xl, xb, xx⟩ := x
 rw [aX] at h1 h2
 obtain ⟨n, ok⟩ := r
 obtain rfl : ok = q := h3
 refine FnM.toFn ?_
 refine FnM.walk 23 Tryz.func64 rfl Tryz.ntmps64 (by simp) fun X => ?_
 by_cases he : e = 0
 ·
  subst he
  cases ok with
  | true =>
   rw [if_pos ⟨rfl, rfl⟩]
   dsimp only at h2 ⊢
   repeat
    (first
     | (apply aC (h1); rfl; exact aj.refl _ _; exact enA; iterate 2 rfl) | (apply aC (h2); rfl; exact aj.refl _ _; exact enA; iterate 2 rfl)
     | (apply ak; iterate 3 rfl) | (apply ah; iterate 3 rfl) | (apply aA; iterate 4 rfl) | (apply bM; iterate 3 rfl)
     | (apply aI; rfl; exact I.a; iterate 4 rfl) | (apply aF (b := false); (iterate 2 rfl); exact aQ; iterate 2 rfl)
     | (apply aT; rfl; rfl; rfl; intro _) | (apply aO; rfl; exact saA; iterate 4 rfl) | apply EL.nil
     | (apply EC.f0; rfl) | (with_reducible first | apply EK.nc | apply EC.seq | apply EC.r0 | apply EC.k0 | apply EC.ret))
   exact EK.cO [] rfl rfl rfl RL.a (WI _) ⟨rfl, rfl⟩
  | false =>
   rw [if_neg fun h => Bool.false_ne_true h.2]
   dsimp only at h2 ⊢
   repeat
    (first
     | (apply aC (h1); rfl; exact aj.refl _ _; exact enA; iterate 2 rfl) | (apply aC (h2); rfl; exact aj.refl _ _; exact enA; iterate 2 rfl)
     | (apply ak; iterate 3 rfl) | (apply ah; iterate 3 rfl) | (apply aA; iterate 4 rfl) | (apply bM; iterate 3 rfl)
     | (apply aI; rfl; exact I.a; iterate 4 rfl) | (apply aF (b := false); (iterate 2 rfl); exact aQ; iterate 2 rfl)
     | (apply aT; rfl; rfl; rfl; intro _) | (apply aO; rfl; exact saA; iterate 4 rfl) | apply EL.nil
     | (apply EC.t0; rfl) | (apply EC.f0; rfl)
     | (with_reducible first | apply EK.nc | apply EC.seq | apply EC.r0 | apply EC.k0 | apply EC.ret | apply EK.aB))
   exact EK.cO [] rfl rfl rfl RL.a (WI _) ⟨rfl, rfl⟩
 ·
  rw [if_neg fun h => he h.1]
  have hc : gq .neq (e : Int) 0 = some true := by
   have : (e : Int) ≠ 0 := by omega
   simp only [gq, Xw, bne_iff_ne]
   exact this
  repeat
   (first
    | (apply aC (h1); rfl; exact aj.refl _ _; exact enA; iterate 2 rfl) | (apply aF (b := true); (iterate 2 rfl); exact hc; iterate 2 rfl)
    | (apply ak; iterate 3 rfl) | (apply ah; iterate 3 rfl) | (apply aA; iterate 4 rfl) | (apply aT; rfl; rfl; rfl; intro _)
    | (apply aO; rfl; exact saA; iterate 4 rfl) | apply EL.nil
    | (apply EC.t0; rfl) | (with_reducible first | apply EK.nc | apply EC.seq | apply EC.r0 | apply EC.ret | apply EK.aB))
  exact EK.cO [] rfl rfl rfl RL.a (WI _) ⟨rfl, rfl⟩
end E
end Go.Proofs.YtelbhdobjdnglaaGreat
namespace Go.Proofs.YtelbhdobjdnglaaGreat
set_option linter.unusedVariables false
set_option maxRecDepth 20000
set_option maxHeartbeats 1000000
open Go.RowKit Mono Rlp
def Vh (x : Raw) : VP := fun v w => ∃ vb A n c, vb = .slice A n c ∧ n ≤ c ∧ c ≤ maxLen ∧ v = .tuple #[vb, .bool (uD x).isSome] ∧ ∀ bs, uD x = some bs → IsB w vb bs
theorem Bh (v : Value) (x : Raw) (w : World) (h : jl w v x) : Calls Tryz.prog 190 #[v] w (Ret (Vh x) w) := by
 have HX := Lib.hid h
 obtain ⟨lx, bx, xs⟩ := x
 obtain ⟨vb1, vl1, rfl, ⟨A0, c0, rfl, hc0, hm0, _⟩, A1, c1, rows1, rfl, hc1, hm1, _⟩ := eX h
 unfold maxLen at hm0 hm1
 clear h
 cases lx with
 | true =>
  go_enter Tryz.func190, Tryz.ntmps190
  go_wp2_with fail
  refine (yH _ _ _ (HX.out.gr (au w _))).mono ?_
  rintro e w1 ⟨v1, rfl, hg1, vl, rfl, hl⟩
  have HG1 := Lib.hid ((au w _).trans hg1)
  clear hg1 hl
  go_wp2_with fail
  go_quiet (fail)
  go_wp2_with fail
  refine bodyPost_ret (results_tmp2 rfl _ _ _) rfl ⟨_, rfl, uK HG1.out nq, .slice none 0 0, none, 0, 0, rfl, Nat.le_refl _, by simp [maxLen], rfl, fun bs h => by cases h⟩
 | false =>
  go_enter Tryz.func190, Tryz.ntmps190
  go_wp2_with fail
  refine (yH _ _ _ (HX.out.gr (au w _))).mono ?_
  rintro e w1 ⟨v1, rfl, hg1, vl, rfl, hl⟩
  have HG1 := Lib.hid ((au w _).trans hg1)
  obtain ⟨A, c, rfl, hd1, hd2, hr⟩ := hl
  have HR := Lib.hid hr
  have hd2' := hd2
  unfold maxLen at hd2
  clear hg1 hr
  rcases bx with _ | ⟨b, l⟩
  ·
   simp only [XP] at *
   go_wp2_with fail
   go_quiet (fail)
   go_wp2_with fail
   refine bodyPost_ret (results_tmp2 rfl _ _ _) rfl ⟨_, rfl, uK HG1.out nq, _, A, 0, c, rfl, by omega, hd2', rfl, fun bs h => ?_⟩
   cases h
   exact ⟨A, c, rfl, hd1, hd2', HR.out⟩
  ·
   obtain ⟨bl, o, rfl, hbl, hcell⟩ := vP HR.out 0 (by simp)
   have hlen : (b :: l).length = l.length + 1 := rfl
   rw [hlen] at *
   simp only [List.getElem_cons_zero] at hcell
   rw [XI] at hcell
   by_cases hb : b = 0
   ·
    subst hb
    have hcell' : w1.cell? ⟨bl, o, none⟩ = some (.int .u8 0) := hcell
    clear hcell
    go_wp2_with fail
    go_quiet (fail)
    go_wp2_with fail
    refine bodyPost_ret (results_tmp2 rfl _ _ _) rfl ⟨_, rfl, uK HG1.out nq, .slice (some ⟨bl, o, none⟩) (l.length + 1) c, some ⟨bl, o, none⟩, l.length + 1, c, rfl, hd1, hd2', rfl, fun bs h => ?_⟩
    cases h
   ·
    have hn : ((b.toNat : Int) == 0) = false := by
     rw [Y5]
     intro e
     have e2 : (b.toNat : Int) = 0 := by simpa using e
     exact hb (XR.1 (by rw [show (0 : UInt8).toNat = 0 from rfl]; omega))
    have hsome : uD (.mk false (b :: l) xs) = some (b :: l) := by rw [uD, if_neg (by simpa using hb)]
    have HS := Lib.hid hsome
    clear hsome
    go_wp2_with fail
    go_quiet (fail)
    go_wp2_with fail
    refine bodyPost_ret (results_tmp2 rfl _ _ _) rfl ⟨_, rfl, uK HG1.out nq, .slice (some ⟨bl, o, none⟩) (l.length + 1) c, some ⟨bl, o, none⟩, l.length + 1, c, rfl, hd1, hd2', ?_, fun bs h => ?_⟩
    ·
     rw [HS.out]
     simp
     exact .inr fun e => by rw [e] at hn; simp at hn
    ·
     rw [HS.out] at h
     cases h
     exact ⟨_, c, rfl, hd1, hd2', HR.out⟩
theorem N8 (n x : Nat) (hn : n < 2 ^ 56) (hx : x < 256) : bits .or .u64 ((n : Int) * 256) (x : Int) = ((n * 256 + x : Nat) : Int) := by
 have := u64_or_nat (n * 256) x (by omega) (by omega)
 rw [nat_join 8 (n * 256) x (by omega) (by omega)] at this
 rw [← this]
 simp
def FT (x : Raw) : Value := .tuple #[.int .i64 (((lX x).getD 0 : Nat) : Int), .bool (lX x).isSome]
theorem vS {x : Raw} (h : lX x = none) : FT x = .tuple #[.int .i64 0, .bool false] := by unfold FT; rw [h]; rfl
theorem MP {x : Raw} {n : Nat} (h : lX x = some n) : FT x = .tuple #[.int .i64 (n : Int), .bool true] := by unfold FT; rw [h]; rfl
theorem Q9 (v : Value) (x : Raw) (w : World) (h : jl w v x) : Calls Tryz.prog 161 #[v] w (Ret (eqV (FT x)) w) := by
 have HX := Lib.hid h
 obtain ⟨lx, bx, xs⟩ := x
 obtain ⟨vb1, vl1, rfl, ⟨A0, c0, rfl, hc0, hm0, _⟩, A1, c1, rows1, rfl, hc1, hm1, _⟩ := eX h
 unfold maxLen at hm0 hm1
 clear h
 generalize bx.length = n0 at HX hc0 ⊢
 generalize xs.length = n1 at HX hc1 ⊢
 generalize Raw.mk lx bx xs = x at HX ⊢
 go_enter Tryz.func161, Tryz.ntmps161
 go_wp2_with fail
 refine (Bh _ x _ (HX.out.gr (au w _))).mono ?_
 rintro e w1 ⟨v1, rfl, hg1, vb, A, n, c, rfl, hn1, hn2, rfl, hb⟩
 have HG1 := Lib.hid ((au w _).trans hg1)
 unfold maxLen at hn2
 clear hg1
 cases hx : uD x with
 | none =>
  have HI := Lib.hid (vS (show lX x = none by unfold lX; rw [hx]; rfl))
  clear hb hx
  go_wp2_with fail
  refine bodyPost_ret (results_tmp2 rfl _ _ _) rfl ⟨_, rfl, HG1.out, ?_⟩
  unfold eqV
  rw [HI.out]
  rfl
 | some bs =>
  have hI : lX x = if bs.length ≤ 8 ∧ val bs ≤ 9223372036854775807 then some (val bs) else none := by unfold lX; rw [hx]; rfl
  obtain ⟨A', c', he, hd1, hd2, hr⟩ := hb bs hx
  injection he with e1 e2 e3
  subst e1 e2 e3
  have HR := Lib.hid hr
  clear hb hx hr hn1 hd2
  by_cases h8 : 8 < bs.length
  ·
   have HI := Lib.hid (vS (show lX x = none by rw [hI, if_neg (fun h => by omega)]))
   clear hI
   go_wp2_with fail
   refine bodyPost_ret (results_tmp2 rfl _ _ _) rfl ⟨_, rfl, HG1.out, ?_⟩
   unfold eqV
   rw [HI.out]
   rfl
  ·
   have h9 : bs.length ≤ 8 := by omega
   have HI := Lib.hid hI
   clear h8 hI
   go_wp2_with fail
   go_loopw [6, 23] (fun u i wr => ∃ k : Nat, k ≤ bs.length ∧ i = .int .i64 k ∧ u = .int .u64 (val (bs.take k) : Nat) ∧ wr = w1) (fun _ i _ => bs.length - (intOf i).toNat)
   case atStart => exact ⟨0, by omega, rfl, rfl, rfl⟩
   case round =>
    obtain ⟨k, hk, rfl, rfl, rfl⟩ := hrel
    by_cases h1 : k < bs.length
    ·
     obtain ⟨bl, o, rfl, hbl, hcell⟩ := vP HR.out k h1
     have hlt : val (bs.take k) < 2 ^ 56 := by
      have h2 := Hf (bs.take k)
      have h3 : 256 ^ (bs.take k).length ≤ 256 ^ 7 := YT (by omega) (by rw [Xi]; omega)
      omega
     have hbk := jh bs[k]
     have HJ := Lib.hid (N8 (val (bs.take k)) bs[k].toNat hlt hbk)
     have HV := Lib.hid (nO bs k h1)
     generalize val (bs.take k) = q at hlt HJ HV
     generalize bs[k].toNat = z at hcell hbk HJ HV
     go_wp2_with fail
     go_roundw
     case rel =>
      refine ⟨k + 1, by omega, by go_num, ?_, trivial⟩
      rw [HV.out, ← HJ.out]
     case measure => simp [intOf]; omega
    ·
     have hk2 : k = bs.length := by omega
     have htk : bs.take k = bs := XT (by omega)
     have hlt : val bs < 2 ^ 64 := by
      have h2 := Hf bs
      have h3 : 256 ^ bs.length ≤ 256 ^ 8 := YT (by omega) h9
      omega
     rw [htk]
     by_cases h3 : val bs ≤ 9223372036854775807
     ·
      have HI2 := Lib.hid (MP (show lX x = some (val bs) by rw [HI.out, if_pos ⟨h9, h3⟩]))
      generalize val bs = q at h3 hlt HI2 ⊢
      go_wp2_with fail
      refine bodyPost_ret (results_tmp2 rfl _ _ _) rfl ⟨_, rfl, HG1.out, ?_⟩
      unfold eqV
      rw [HI2.out]
      simp
     ·
      have HI2 := Lib.hid (vS (show lX x = none by rw [HI.out, if_neg (fun h => h3 h.2)]))
      have h4 : 9223372036854775807 < val bs := by omega
      generalize val bs = q at h3 h4 hlt HI2 ⊢
      clear h3
      go_wp2_with fail
      refine bodyPost_ret (results_tmp2 rfl _ _ _) rfl ⟨_, rfl, HG1.out, ?_⟩
      unfold eqV
      rw [HI2.out]
      simp
def xW (x : Raw) : Value := .tuple #[dG ((eF x).getD zero32), .bool (eF x).isSome]
theorem lM {x : Raw} (h : eF x = none) : xW x = .tuple #[dG zero32, .bool false] := by unfold xW; rw [h]; rfl
theorem sQ {x : Raw} {l : List UInt8} (h : eF x = some l) : xW x = .tuple #[dG l, .bool true] := by unfold xW; rw [h]; rfl
theorem Oo (v : Value) (x : Raw) (w : World) (h : jl w v x) : Calls Tryz.prog 162 #[v] w (Ret (eqV (xW x)) w) := by
 have HX := Lib.hid h
 obtain ⟨lx, bx, xs⟩ := x
 obtain ⟨vb1, vl1, rfl, ⟨A0, c0, rfl, hc0, hm0, _⟩, A1, c1, rows1, rfl, hc1, hm1, _⟩ := eX h
 unfold maxLen at hm0 hm1
 clear h
 generalize bx.length = n0 at HX hc0 ⊢
 generalize xs.length = n1 at HX hc1 ⊢
 generalize Raw.mk lx bx xs = x at HX ⊢
 go_enter Tryz.func162, Tryz.ntmps162
 go_wp2_with (refine dh (w.heap.size + 1) (by simp) rfl rfl ?_; intro w0 hA0 hG0 hs0; obtain ⟨q0, q1, q2⟩ := lJ ((hG0.out.block w.heap.size (by simp)).trans (heap_alloc_new w _)))
 have HG0 := Lib.hid ((au w (.cells #[.bool lx, .slice A0 n0 c0, .slice A1 n1 c1] 138)).trans hG0.out)
 refine (Bh _ x _ (HX.out.gr HG0.out)).mono ?_
 rintro e w1 ⟨v1, rfl, hg1, vb, A, n, c, rfl, hn1, hn2, rfl, hb⟩
 have HG1 := Lib.hid (HG0.out.trans hg1)
 have HA1 := Lib.hid (hA0.out.gr hg1)
 have hs1 := hg1.size
 unfold maxLen at hn2
 clear hg1 hA0 hG0 HG0
 cases hx : uD x with
 | none =>
  have HI := Lib.hid (lM (show eF x = none by unfold eF; rw [hx]; rfl))
  clear hb hx
  go_wp2_with first
   | (refine dh w1.heap.size rfl rfl rfl ?_; intro w2 hA2 hG2 hs2; have HA12 := Lib.hid (HA1.out.gr hG2.out))
   | (refine wpList_store_row rfl 29 (.tmp 2) (.tmp 19) rfl (w.heap.size + 1) (bvs zero32).toArray rfl rfl 29 _ HA12.out (fO _ dL) rfl (lD _) ?_)
  refine bodyPost_ret (gu rfl _ _ (w.heap.size + 1) 29 zero32 rfl (iM HA12.out) dL) rfl ?_
  exact ⟨_, rfl, bQ (HG1.out.trans hG2.out) _ _ (by omega), by unfold eqV; rw [HI.out]; rfl⟩
 | some bs =>
  have hW : eF x = if bs.length ≤ 32 then some (pad bs) else none := by unfold eF; rw [hx]; rfl
  obtain ⟨A', c', he, hd1, hd2, hr⟩ := hb bs hx
  injection he with e1 e2 e3
  subst e1 e2 e3
  have HR := Lib.hid hr
  clear hb hx hr hn1 hd2
  by_cases h8 : 32 < bs.length
  ·
   have HI := Lib.hid (lM (show eF x = none by rw [hW, if_neg (by omega)]))
   clear hW
   go_wp2_with first
    | (refine dh w1.heap.size rfl rfl rfl ?_; intro w2 hA2 hG2 hs2; have HA12 := Lib.hid (HA1.out.gr hG2.out))
    | (refine wpList_store_row rfl 29 (.tmp 2) (.tmp 19) rfl (w.heap.size + 1) (bvs zero32).toArray rfl rfl 29 _ HA12.out (fO _ dL) rfl (lD _) ?_)
   refine bodyPost_ret (gu rfl _ _ (w.heap.size + 1) 29 zero32 rfl (iM HA12.out) dL) rfl ?_
   exact ⟨_, rfl, bQ (HG1.out.trans hG2.out) _ _ (by omega), by unfold eqV; rw [HI.out]; rfl⟩
  ·
   have h9 : bs.length ≤ 32 := by omega
   have HI := Lib.hid (sQ (show eF x = some (pad bs) by rw [hW, if_pos h9]))
   have HP := Lib.hid (lV bs h9)
   have hSP : splice (bvs zero32) (32 - bs.length) (bvs bs) = bvs (pad bs) := by
    unfold splice pad zero32 bvs
    rw [XK, ← List.map_take, ← List.map_drop, List.take_replicate, List.drop_replicate, WY]
    rw [show min (32 - bs.length) 32 = 32 - bs.length by omega, show 32 - (32 - bs.length + bs.length) = 0 by omega]
    simp
   have HSP := Lib.hid hSP
   clear hW h8 hSP
   obtain ⟨dp, hsl, hdp⟩ := qo w1.heap.size bs.length (32 - (bs.length : Int)) rfl h9
   have HDP := Lib.hid hdp
   have HSL := Lib.hid hsl
   clear hdp hsl
   have hsrc : ∀ w' : World, Gr w1 w' → 0 < (bvs bs).length → dp = some ⟨w1.heap.size, 32 - bs.length, none⟩ ∧ ∃ ad, A = some ad ∧ ∀ j v, (bvs bs)[j]? = some v → w'.cell? (ad.add j) = some v := fun w' hg h0 => by
    rw [bJ] at h0
    obtain ⟨b, o, e, hb, hc⟩ := (HR.out.gr hg) (fun e => by have := congrArg List.length e; rw [bJ] at this; simp at this; rw [this] at h0; simp at h0)
    exact ⟨HDP.out h0, _, e, fun j v hv => by rw [eu]; exact hc j v hv⟩
   have HSRC := Lib.hid hsrc
   clear hsrc
   go_wp2_with first
    | (refine dh w1.heap.size rfl rfl rfl ?_; intro w2 hA2 hG2 hs2; have hsl2 := HSL.out w2; have HA12 := Lib.hid (HA1.out.gr hG2.out); have HG2 := Lib.hid (HG1.out.trans hG2.out))
    | (refine wpList_copy_splice rfl (.tmp 23) (.tmp 24) 38 38 rfl 5 Tryz.underlying38 (by kernel_rfl) dp A bs.length bs.length bs.length c rfl rfl w1.heap.size (32 - bs.length) (bvs zero32) 29 hA2.out (bvs bs) (by simp [bvs]) (HSRC.out w2 hG2.out) (by simp [bvs, zero32]; omega) (dR _) w1.heap.size w1 hG2.out (Nat.le_refl _) ?_; intro w3 hA3 hG3; rw [HSP.out] at hA3; have HG3 := Lib.hid (HG1.out.trans hG3); have HA13 := Lib.hid (HA1.out.gr hG3))
    | (refine wpList_load_row rfl 29 (.tmp 6) rfl w1.heap.size rfl 29 (bvs (pad bs)).toArray (0, 0) _ hA3.out rfl rfl (fO _ HP.out) ?_)
    | (refine wpList_store_row rfl 29 (.tmp 2) (.tmp 26) rfl (w.heap.size + 1) (bvs (pad bs)).toArray rfl rfl 29 _ HA13.out (fO _ HP.out) (by rw [qR _ HP.out]; rfl) (lD _) ?_)
   refine bodyPost_ret (gu rfl _ _ (w.heap.size + 1) 29 (pad bs) rfl (iM HA13.out) HP.out) rfl ?_
   exact ⟨_, rfl, bQ HG3.out _ _ (by omega), by unfold eqV; rw [HI.out]; rfl⟩
end Go.Proofs.YtelbhdobjdnglaaGreat
