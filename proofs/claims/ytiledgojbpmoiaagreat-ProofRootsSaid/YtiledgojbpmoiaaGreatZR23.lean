/-
 Merged (wip/tools/merge.py): PF7, PF6, BCL.
 Conditions: none.
-/
import Derived.Test.YtiledgojbpmoiaaGreatZR18
import Derived.Test.YtiledgojbpmoiaaGreatZR20
import Derived.Test.YtiledgojbpmoiaaGreatZR22
import Derived.Test.YtiledgojbpmoiaaGreatZR17
import Derived.Test.YtiledgojbpmoiaaGreatZR19
import Derived.Test.YtiledgojbpmoiaaGreatZR14
import Derived.Test.YtiledgojbpmoiaaGreatZR12
import Derived.Test.YtiledgojbpmoiaaGreatZR3
import Derived.Lib.SliceRun
namespace Go.Proofs.YtiledgojbpmoiaaGreat
set_option linter.unusedVariables false
set_option maxRecDepth 20000
set_option maxHeartbeats 16000000
open Go.RowKit Mono Rlp
namespace E
theorem kL (t : Nd) : Bin .neq 125 (dN t) (.v .nilIface) (.bool !t.isNil) := by
 have key : ∀ T d, Bin .neq 125 (.ifc T d) (.v .nilIface) (.bool true) := fun T d => by
  refine ⟨rfl, fun ok w p q hp hq => ?_⟩
  obtain rfl := (bF.1 hq).2
  obtain ⟨cs, h1, rfl⟩ := hp
  rw [Reads] at h1
  obtain ⟨cs', rfl, _⟩ := h1
  exact ⟨fun x y => by simp [eqGuard, form, D.agg], run_neq_held_nil _ _ _ _ (by kernel_rfl)⟩
 cases t with
 | nil =>
  refine ⟨rfl, fun ok w p q hp hq => ?_⟩
  obtain rfl := (bF.1 hp).2
  obtain rfl := (bF.1 hq).2
  exact ⟨fun x y => by cases x <;> cases y <;> kernel_rfl, by kernel_rfl⟩
 | hash a => exact key _ _
 | leaf a b => exact key _ _
 | ext a b => exact key _ _
 | br a b => exact key _ _
theorem VD (t : Nd) (u : D) (h1 : u.size = 1) (h2 : u.agg = false) : (dN t).upd 0 u = some u := by
 cases t <;> (rw [dN]; simp [D.upd, h1, h2])
theorem CO {ds : List D} (hs : ∀ e ∈ ds, ∃ s : Nd, e = dN s) : D.sizes ds = ds.length := by
 induction ds with
 | nil => rfl
 | cons e ds ih =>
  obtain ⟨s, rfl⟩ := hs e (by simp)
  rw [D.sizes, (lZ s).1, ih fun e he => hs e (by simp [he]), List.length_cons, Nat.add_comm]
theorem QZ {ds : List D} {b : D} (k : Nat) (t : Nd) (hs : ∀ e ∈ ds, ∃ s : Nd, e = dN s) (hl : ds.length = 16) (hk : k < 16) : (D.tup [.tup ds, b]).upd k (dN t) = some (.tup [.tup (ds.set k (dN t)), b]) := by
 have hsz : D.sizes ds = 16 := by rw [CO hs, hl]
 have h1 := (lZ t).1
 have h2 := (lZ t).2
 have h3 := xX ds k (dN t) (fun e he => by
  obtain ⟨s, rfl⟩ := hs e he
  exact ⟨(lZ s).1, (lZ s).2, VD s⟩) (by omega) h1 h2
 rw [D.upd, if_neg (by rw [h2]; simp), D.rX, if_pos (by rw [D.size, hsz]; exact hk), D.upd, if_neg (by rw [h2]; simp), h3]
 rfl
theorem Oa {ds : List D} {b : D} (v : List UInt8) (hs : ∀ e ∈ ds, ∃ s : Nd, e = dN s) (hl : ds.length = 16) : (D.tup [.tup ds, .v (.slice none 0 0)]).upd 16 (.bs v) = some (.tup [.tup ds, .bs v]) := by
 have hsz : D.sizes ds = 16 := by rw [CO hs, hl]
 simp [D.upd, D.rX, D.size, D.agg, hsz]
def nO (N : Raw → Nd × Bool) (xs : List Raw) (k : Nat) : List D := (List.range 16).map fun i => if i < k then dN (gY N (xs.getD i fM)).1 else .v .nilIface
theorem IK (N : Raw → Nd × Bool) (xs : List Raw) : nO N xs 0 = List.replicate 16 (.v .nilIface) := by
 unfold nO
 simp only [Nat.not_lt_zero, if_false]
 rfl
theorem JU (N : Raw → Nd × Bool) (xs : List Raw) (k : Nat) : (∀ e ∈ nO N xs k, ∃ s : Nd, e = dN s) ∧ (nO N xs k).length = 16 := by
 unfold nO
 refine ⟨fun e he => ?_, by simp⟩
 obtain ⟨i, _, rfl⟩ := List.mem_map.1 he
 by_cases h : i < k
 ·
  rw [if_pos h]
  exact ⟨_, rfl⟩
 ·
  rw [if_neg h]
  exact ⟨.nil, rfl⟩
theorem IL (N : Raw → Nd × Bool) (xs : List Raw) (k : Nat) (hk : k < 16) : nO N xs (k + 1) = (nO N xs k).set k (dN (gY N (xs.getD k fM)).1) := by
 unfold nO
 refine List.ext_getElem? fun d => ?_
 rw [List.getElem?_set]
 by_cases hd : k = d
 ·
  subst hd
  rw [if_pos rfl, if_pos (by simpa using hk), List.getElem?_map, List.getElem?_range hk, Option.map_some, if_pos (Nat.lt_succ_self _)]
 ·
  rw [if_neg hd, List.getElem?_map, List.getElem?_map]
  by_cases h16 : d < 16
  ·
   rw [List.getElem?_range h16, Option.map_some, Option.map_some]
   by_cases h1 : d < k
   · rw [if_pos h1, if_pos (by omega)]
   · rw [if_neg h1, if_neg (by omega)]
  ·
   rw [List.getElem?_eq_none (by simp; omega)]
   rfl
theorem MS (N : Raw → Nd × Bool) (xs : List Raw) : nO N xs 16 = (List.range 16).map fun i => dN (gY N (xs.getD i fM)).1 := by
 unfold nO
 exact List.map_congr_left fun i hi => if_pos (List.mem_range.1 hi)
theorem NC (xs : List Raw) (N : Raw → Nd × Bool) (h17 : xs.length = 17) (H : ∀ y ∈ xs, isL y = true → Fn 134 [aW y] (· = jv (N y))) : Fn 179 [.sl 3 (eY xs)] (· = jv (brF N xs)) := by
 refine FnM.toFn ?_
 have hml : (eY xs).length = 17 := by rw [jI, List.length_map, h17]
 have hat : ∀ k, (hk : k < xs.length) → (eY xs)[k]? = some (aW xs[k]) := fun k hk => by rw [jI, List.getElem?_map, List.getElem?_eq_getElem hk]; rfl
 have h16 := hat 16 (by omega)
 have hgd : ∀ k, (hk : k < xs.length) → xs.getD k fM = xs[k] := fun k hk => getD_mem hk
 generalize hDs : eY xs = Ds at hml hat h16
 refine FnM.walk 59 Tryz.func179 rfl Tryz.ntmps179 (by simp) fun X => ?_
 repeat
  (first
   | (apply au; iterate 3 rfl) | (apply ak; iterate 3 rfl) | (apply eU; iterate 7 rfl) | (apply gU; rfl; rfl; rfl; intro _) | apply EL.nil
   | ((with_reducible apply EK.ah); apply EK.code) | (with_reducible first | apply EC.seq | apply EC.region | apply EC.block))
 rename_i g
 refine EC.loop (ι := {k : Nat // k ≤ 16 ∧ (xs.take k).all (fun x => (gY N x).2) = true})
  (fun k => ⟨[(12, .val (.v (.int .i64 (k.1 : Int)))), (5, .val (.v (.int .i64 ((cntF N (xs.take k.1) : Nat) : Int)))), (4, .val (.v (.pointer (some ⟨g, 0, none⟩)))), (0, .val (.sl 3 Ds))], [.var g 244 (.tup [.tup (nO N xs k.1), .v (.slice none 0 0)])], []⟩)
  (fun k => 16 - k.1) ⟨0, Nat.zero_le _, rfl⟩ ?_ ?_
 ·
  dsimp only
  rw [IK]
  exact Le.kp
 rintro ⟨k, hk, hall⟩
 dsimp only at hk ⊢
 by_cases hlt : k < 16
 ·
  have hkx : k < xs.length := by omega
  have hd := hat k hkx
  have htk : xs.take (k + 1) = xs.take k ++ [xs[k]] := List.take_succ_eq_append_getElem hkx
  have hR := P9 xs[k] N (H xs[k] (List.getElem_mem hkx))
  have hno : (gY N xs[k]).2 = false → (xs.take 16).all (fun x => (gY N x).2) = false := fun h => by
   refine Bool.eq_false_iff.2 fun ha => ?_
   have := List.all_eq_true.1 ha xs[k] (List.mem_iff_getElem.2 ⟨k, by rw [List.length_take]; omega, by rw [List.getElem_take]⟩)
   rw [h] at this
   cases this
  have hks := IL N xs k hlt
  rw [hgd k hkx] at hks
  have hkN := JU N xs k
  have hcn : cntF N (xs.take (k + 1)) = cntF N (xs.take k) + (if (gY N xs[k]).1.isNil then 0 else 1) := by
   unfold cntF
   rw [htk, List.filter_append, List.length_append]
   congr 1
   cases h : (gY N xs[k]).1.isNil with
   | true => rw [List.filter_cons_of_neg (by simp [h])]; rfl
   | false => rw [List.filter_cons_of_pos (by simp [h])]; rfl
  have hcl : cntF N (xs.take k) ≤ 16 := Nat.le_trans (List.length_filter_le _ _) (by rw [List.length_take]; omega)
  have hal1 : (gY N xs[k]).2 = true → (xs.take (k + 1)).all (fun x => (gY N x).2) = true := fun h => by
   rw [htk, List.all_append, hall]
   simp [h]
  generalize cntF N (xs.take k) = n at *
  generalize nO N xs k = K at *
  generalize xs[k] = y at *
  have hnn := kL (gY N y).1
  have hup := QZ (b := .v (.slice none 0 0)) k (gY N y).1 hkN.1 hkN.2 hlt
  have ho1 := (lZ (gY N y).1).1
  have ho2 := (lZ (gY N y).1).2
  unfold jv at hR
  obtain ⟨yl, yb, yx⟩ := y
  unfold aW at hd hR
  generalize gY N (.mk yl yb yx) = r at *
  obtain ⟨c, ok⟩ := r
  dsimp only at *
  cases ok with
  | false =>
   have : brF N xs = (.nil, false) := by
    unfold brF
    rw [if_neg]
    rw [hno rfl]
    exact Bool.false_ne_true
   rw [this]
   repeat
    (first
     | (apply aA (hR); rfl; exact aj.refl _ _; exact enA; iterate 2 rfl)
     | (apply bJ (d := .tup [.v (.bool yl), .bs yb, .sl 3 (eY yx)]); (iterate 4 rfl); exact ⟨by omega, by rw [Int.toNat_natCast]; exact hd⟩; iterate 2 rfl)
     | (apply au; iterate 3 rfl) | (apply ak; iterate 3 rfl) | (apply aF; iterate 4 rfl) | (apply aK; iterate 5 rfl)
     | (apply dP; iterate 3 rfl) | (apply aC (b := true); (iterate 2 rfl); exact aO; iterate 2 rfl) | apply EL.nil | ((with_reducible apply EK.ah); apply EK.code)
     | (apply EC.cond_true; rfl) | (with_reducible first | apply EC.seq | apply EC.region | apply EC.skip | apply EC.block | apply EC.ret | apply EK.dV | apply EK.aH))
   exact EK.bT [] rfl rfl rfl (RL.cons Rf.same (RL.cons Rf.same RL.nil)) (List.nil_sublist _) ⟨rfl, rfl⟩
  | true =>
   cases hnil : c.isNil with
   | true =>
    rw [hnil] at hnn hcn
    rw [if_pos rfl, Nat.add_zero] at hcn
    repeat
     (first
      | (apply aA (hR); rfl; exact aj.refl _ _; exact enA; iterate 2 rfl) | (apply dY; (iterate 2 rfl); exact hnn; iterate 2 rfl)
      | (apply bJ (d := .tup [.v (.bool yl), .bs yb, .sl 3 (eY yx)]); (iterate 4 rfl); exact ⟨by omega, by rw [Int.toNat_natCast]; exact hd⟩; iterate 2 rfl)
      | (apply zY; (iterate 3 rfl); exact ⟨by omega, by omega⟩; iterate 2 rfl)
      | (apply aN; rfl; exact .z; rfl; exact (by rw [ho1, ho2]; rfl); exact (by rw [show 0 + 0 + (k : Int).toNat * 1 = k by omega]; exact hup); rfl)
      | (apply au; iterate 3 rfl) | (apply ak; iterate 3 rfl) | (apply cZ; iterate 6 rfl) | (apply aF; iterate 4 rfl)
      | (apply aK; iterate 5 rfl) | (apply dP; iterate 3 rfl) | (apply aC (b := true); (iterate 2 rfl); exact aO; iterate 2 rfl)
      | (apply jd; (iterate 3 rfl); (focus omega); (focus omega); iterate 2 rfl) | (apply iY; iterate 3 rfl) | apply EL.nil
      | ((with_reducible apply EK.ah); apply EK.code) | (apply EC.cond_true; rfl) | (apply EC.cond_false; rfl)
      | (with_reducible first | apply EC.seq | apply EC.region | apply EC.skip | apply EC.block | apply EK.aI))
    refine EK.again ⟨k + 1, hlt, hal1 rfl⟩ (by dsimp only; omega) ?_
    dsimp only
    rw [hcn, hks]
    simp only [Int.natCast_add]
    exact Le.kp
   | false =>
    rw [hnil] at hnn hcn
    rw [if_neg Bool.false_ne_true] at hcn
    repeat
     (first
      | (apply aA (hR); rfl; exact aj.refl _ _; exact enA; iterate 2 rfl) | (apply dY; (iterate 2 rfl); exact hnn; iterate 2 rfl)
      | (apply bJ (d := .tup [.v (.bool yl), .bs yb, .sl 3 (eY yx)]); (iterate 4 rfl); exact ⟨by omega, by rw [Int.toNat_natCast]; exact hd⟩; iterate 2 rfl)
      | (apply zY; (iterate 3 rfl); exact ⟨by omega, by omega⟩; iterate 2 rfl)
      | (apply aN; rfl; exact .z; rfl; exact (by rw [ho1, ho2]; rfl); exact (by rw [show 0 + 0 + (k : Int).toNat * 1 = k by omega]; exact hup); rfl)
      | (apply au; iterate 3 rfl) | (apply ak; iterate 3 rfl) | (apply cZ; iterate 6 rfl) | (apply aF; iterate 4 rfl)
      | (apply aK; iterate 5 rfl) | (apply dP; iterate 3 rfl) | (apply aC (b := true); (iterate 2 rfl); exact aO; iterate 2 rfl)
      | (apply jd; (iterate 3 rfl); (focus omega); (focus omega); iterate 2 rfl) | (apply iY; iterate 3 rfl) | apply EL.nil
      | ((with_reducible apply EK.ah); apply EK.code) | (apply EC.cond_true; rfl) | (apply EC.cond_false; rfl)
      | (with_reducible first | apply EC.seq | apply EC.region | apply EC.skip | apply EC.block | apply EK.aI))
    refine EK.again ⟨k + 1, hlt, hal1 rfl⟩ (by dsimp only; omega) ?_
    dsimp only
    rw [hcn, hks]
    simp only [Int.natCast_add]
    exact Le.kp
 ·
  have hke : k = 16 := by omega
  subst hke
  have hcl : cntF N (xs.take 16) ≤ 16 := Nat.le_trans (List.length_filter_le _ _) (by rw [List.length_take]; omega)
  unfold brF
  rw [if_pos hall, hgd 16 (by omega)]
  unfold jv
  dsimp only
  rw [dN, ← MS]
  have hkN := JU N xs 16
  generalize cntF N (xs.take 16) = n at *
  generalize nO N xs 16 = K at *
  generalize xs[16]'(by omega) = y at h16 ⊢
  obtain ⟨yl, yb, yx⟩ := y
  have hup := Oa (b := .v (.slice none 0 0)) yb hkN.1 hkN.2
  unfold aW at h16
  rw [show isL (.mk yl yb yx) = yl from rfl, show bts (.mk yl yb yx) = yb from rfl]
  have hL : ∀ b : Bool, (n + (if b then 1 else 0) : Nat) = (if b then n + 1 else n) := fun b => by cases b <;> rfl
  by_cases h0 : 0 < yb.length
  ·
   rw [if_pos h0]
   have hc0 : dL .gtr (yb.length : Int) 0 = some true := by
    simp only [dL, Option.some.injEq, decide_eq_true_eq]
    omega
   cases yl with
   | true =>
    rw [Bool.not_true, Bool.false_and]
    repeat
     (first
      | (apply fF; iterate 2 rfl) | (apply bJ (d := .tup [.v (.bool true), .bs yb, .sl 3 (eY yx)]); (iterate 4 rfl); exact ⟨by decide, h16⟩; iterate 2 rfl)
      | (apply aC (b := true); (iterate 2 rfl); exact hc0; iterate 2 rfl)
      | (apply aN; rfl; exact .s .z; rfl; rfl; exact hup; rfl; refine EL.le (Le.pin (p := 4) (pre := [_]) rfl rfl) ?_; simp only [List.cons_append, List.nil_append])
      | (apply au; iterate 3 rfl) | (apply ak; iterate 3 rfl) | (apply cZ; iterate 6 rfl) | (apply aK; iterate 5 rfl)
      | (apply aT; iterate 4 rfl) | (apply dP; iterate 3 rfl) | (apply dh; rfl; exact I.a; iterate 4 rfl)
      | (apply aC (b := false); (iterate 2 rfl); exact aO; iterate 2 rfl) | (apply jd; (iterate 3 rfl); (focus omega); (focus omega); iterate 2 rfl)
      | (apply aU; iterate 4 rfl) | (apply iY; iterate 3 rfl) | (apply fZ; iterate 4 rfl) | (apply aZ; rfl; rfl; rfl; intro _)
      | (apply aN; rfl; (focus (repeat first | exact .z | apply bC.s | apply aP.s)); iterate 4 rfl) | apply EL.nil | ((with_reducible apply EK.ah); apply EK.code)
      | (apply EC.cond_true; rfl) | (apply EC.cond_false; rfl) | (with_reducible first | apply EC.seq | apply EC.region | apply EC.exit | apply EC.ret | apply EK.bG | apply EK.aQ))
    exact EK.bT [] rfl rfl rfl (RL.cons Rf.same (RL.cons Rf.same RL.nil)) (List.nil_sublist _) ⟨rfl, rfl⟩
   | false =>
    rw [Bool.not_false, Bool.true_and]
    by_cases h1 : 1 < n + 1
    ·
     rw [decide_eq_true h1]
     repeat
      (first
       | (apply bJ (d := .tup [.v (.bool false), .bs yb, .sl 3 (eY yx)]); (iterate 4 rfl); exact ⟨by decide, h16⟩; iterate 2 rfl)
       | (apply aC (b := true); (iterate 2 rfl); exact hc0; iterate 2 rfl)
       | (apply aN; rfl; exact .s .z; rfl; rfl; exact hup; rfl; refine EL.le (Le.pin (p := 4) (pre := [_]) rfl rfl) ?_; simp only [List.cons_append, List.nil_append])
       | (apply au; iterate 3 rfl) | (apply ak; iterate 3 rfl) | (apply cZ; iterate 6 rfl) | (apply aK; iterate 5 rfl)
       | (apply aT; iterate 4 rfl) | (apply dP; iterate 3 rfl) | (apply dh; rfl; exact I.a; iterate 4 rfl)
       | (apply aC (b := true); (iterate 2 rfl); exact aO; iterate 2 rfl) | (apply aC (b := false); (iterate 2 rfl); exact aO; iterate 2 rfl)
       | (apply jd; (iterate 3 rfl); (focus omega); (focus omega); iterate 2 rfl) | (apply aU; iterate 4 rfl) | (apply iY; iterate 3 rfl)
       | (apply fZ; iterate 4 rfl) | (apply aZ; rfl; rfl; rfl; intro _)
       | (apply aN; rfl; (focus (repeat first | exact .z | apply bC.s | apply aP.s)); iterate 4 rfl) | apply EL.nil | ((with_reducible apply EK.ah); apply EK.code)
       | (apply EC.cond_true; rfl) | (apply EC.cond_false; rfl) | (with_reducible first | apply EC.seq | apply EC.region | apply EC.exit | apply EC.ret | apply EK.bG | apply EK.aQ))
     exact EK.bT [] rfl rfl rfl (RL.cons Rf.same (RL.cons Rf.same RL.nil)) (List.nil_sublist _) ⟨rfl, rfl⟩
    ·
     rw [decide_eq_false h1]
     repeat
      (first
       | (apply bJ (d := .tup [.v (.bool false), .bs yb, .sl 3 (eY yx)]); (iterate 4 rfl); exact ⟨by decide, h16⟩; iterate 2 rfl)
       | (apply aC (b := true); (iterate 2 rfl); exact hc0; iterate 2 rfl)
       | (apply aN; rfl; exact .s .z; rfl; rfl; exact hup; rfl; refine EL.le (Le.pin (p := 4) (pre := [_]) rfl rfl) ?_; simp only [List.cons_append, List.nil_append])
       | (apply au; iterate 3 rfl) | (apply ak; iterate 3 rfl) | (apply cZ; iterate 6 rfl) | (apply aK; iterate 5 rfl)
       | (apply aT; iterate 4 rfl) | (apply dP; iterate 3 rfl) | (apply dh; rfl; exact I.a; iterate 4 rfl)
       | (apply aC (b := false); (iterate 2 rfl); exact aO; iterate 2 rfl) | (apply jd; (iterate 3 rfl); (focus omega); (focus omega); iterate 2 rfl)
       | (apply aU; iterate 4 rfl) | (apply iY; iterate 3 rfl) | (apply fZ; iterate 4 rfl) | (apply aZ; rfl; rfl; rfl; intro _)
       | (apply aN; rfl; (focus (repeat first | exact .z | apply bC.s | apply aP.s)); iterate 4 rfl) | apply EL.nil | ((with_reducible apply EK.ah); apply EK.code)
       | (apply EC.cond_true; rfl) | (apply EC.cond_false; rfl) | (with_reducible first | apply EC.seq | apply EC.region | apply EC.exit | apply EC.ret | apply EK.bG | apply EK.aQ))
     exact EK.bT [] rfl rfl rfl (RL.cons Rf.same (RL.cons Rf.same RL.nil)) (List.nil_sublist _) ⟨rfl, rfl⟩
  ·
   rw [if_neg h0, Nat.add_zero]
   have hc0 : dL .gtr (yb.length : Int) 0 = some false := by
    simp only [dL, Option.some.injEq, decide_eq_false_iff_not]
    omega
   cases yl with
   | true =>
    rw [Bool.not_true, Bool.false_and]
    repeat
     (first
      | (apply fF; iterate 2 rfl) | (apply bJ (d := .tup [.v (.bool true), .bs yb, .sl 3 (eY yx)]); (iterate 4 rfl); exact ⟨by decide, h16⟩; iterate 2 rfl)
      | (apply aC (b := false); (iterate 2 rfl); exact hc0; iterate 2 rfl)
      | (apply aN; rfl; exact .s .z; rfl; rfl; exact hup; rfl; refine EL.le (Le.pin (p := 4) (pre := [_]) rfl rfl) ?_; simp only [List.cons_append, List.nil_append])
      | (apply au; iterate 3 rfl) | (apply ak; iterate 3 rfl) | (apply cZ; iterate 6 rfl) | (apply aK; iterate 5 rfl)
      | (apply aT; iterate 4 rfl) | (apply dP; iterate 3 rfl) | (apply dh; rfl; exact I.a; iterate 4 rfl)
      | (apply aC (b := false); (iterate 2 rfl); exact aO; iterate 2 rfl) | (apply aU; iterate 4 rfl) | (apply iY; iterate 3 rfl)
      | (apply fZ; iterate 4 rfl) | (apply aZ; rfl; rfl; rfl; intro _)
      | (apply aN; rfl; (focus (repeat first | exact .z | apply bC.s | apply aP.s)); iterate 4 rfl) | apply EL.nil | ((with_reducible apply EK.ah); apply EK.code)
      | (apply EC.cond_false; rfl) | (with_reducible first | apply EC.seq | apply EC.region | apply EC.skip | apply EC.exit | apply EC.ret | apply EK.bG | apply EK.aQ))
    exact EK.bT [] rfl rfl rfl (RL.cons Rf.same (RL.cons Rf.same RL.nil)) (List.nil_sublist _) ⟨rfl, rfl⟩
   | false =>
    rw [Bool.not_false, Bool.true_and]
    by_cases h1 : 1 < n
    ·
     rw [decide_eq_true h1]
     repeat
      (first
       | (apply bJ (d := .tup [.v (.bool false), .bs yb, .sl 3 (eY yx)]); (iterate 4 rfl); exact ⟨by decide, h16⟩; iterate 2 rfl)
       | (apply aC (b := false); (iterate 2 rfl); exact hc0; iterate 2 rfl)
       | (apply aN; rfl; exact .s .z; rfl; rfl; exact hup; rfl; refine EL.le (Le.pin (p := 4) (pre := [_]) rfl rfl) ?_; simp only [List.cons_append, List.nil_append])
       | (apply au; iterate 3 rfl) | (apply ak; iterate 3 rfl) | (apply cZ; iterate 6 rfl) | (apply aK; iterate 5 rfl)
       | (apply aT; iterate 4 rfl) | (apply dP; iterate 3 rfl) | (apply dh; rfl; exact I.a; iterate 4 rfl)
       | (apply aC (b := true); (iterate 2 rfl); exact aO; iterate 2 rfl) | (apply aC (b := false); (iterate 2 rfl); exact aO; iterate 2 rfl)
       | (apply aU; iterate 4 rfl) | (apply iY; iterate 3 rfl) | (apply fZ; iterate 4 rfl) | (apply aZ; rfl; rfl; rfl; intro _)
       | (apply aN; rfl; (focus (repeat first | exact .z | apply bC.s | apply aP.s)); iterate 4 rfl) | apply EL.nil | ((with_reducible apply EK.ah); apply EK.code)
       | (apply EC.cond_false; rfl) | (with_reducible first | apply EC.seq | apply EC.region | apply EC.skip | apply EC.exit | apply EC.ret | apply EK.bG | apply EK.aQ))
     exact EK.bT [] rfl rfl rfl (RL.cons Rf.same (RL.cons Rf.same RL.nil)) (List.nil_sublist _) ⟨rfl, rfl⟩
    ·
     rw [decide_eq_false h1]
     repeat
      (first
       | (apply bJ (d := .tup [.v (.bool false), .bs yb, .sl 3 (eY yx)]); (iterate 4 rfl); exact ⟨by decide, h16⟩; iterate 2 rfl)
       | (apply aC (b := false); (iterate 2 rfl); exact hc0; iterate 2 rfl)
       | (apply aN; rfl; exact .s .z; rfl; rfl; exact hup; rfl; refine EL.le (Le.pin (p := 4) (pre := [_]) rfl rfl) ?_; simp only [List.cons_append, List.nil_append])
       | (apply au; iterate 3 rfl) | (apply ak; iterate 3 rfl) | (apply cZ; iterate 6 rfl) | (apply aK; iterate 5 rfl)
       | (apply aT; iterate 4 rfl) | (apply dP; iterate 3 rfl) | (apply dh; rfl; exact I.a; iterate 4 rfl)
       | (apply aC (b := false); (iterate 2 rfl); exact aO; iterate 2 rfl) | (apply aU; iterate 4 rfl) | (apply iY; iterate 3 rfl)
       | (apply fZ; iterate 4 rfl) | (apply aZ; rfl; rfl; rfl; intro _)
       | (apply aN; rfl; (focus (repeat first | exact .z | apply bC.s | apply aP.s)); iterate 4 rfl) | apply EL.nil | ((with_reducible apply EK.ah); apply EK.code)
       | (apply EC.cond_false; rfl) | (with_reducible first | apply EC.seq | apply EC.region | apply EC.skip | apply EC.exit | apply EC.ret | apply EK.bG | apply EK.aQ))
     exact EK.bT [] rfl rfl rfl (RL.cons Rf.same (RL.cons Rf.same RL.nil)) (List.nil_sublist _) ⟨rfl, rfl⟩
theorem SB : ∀ (f : Nat) (x : Raw), dep x < f → Gd x → Fn 134 [aW x] (· = jv (bH f x)) := by
 intro f
 induction f with
 | zero => exact fun x h _ => absurd h (Nat.not_lt_zero _)
 | succ f IH =>
 rintro ⟨l, b, xs⟩ h hE
 cases l with
 | false =>
  rw [bH, aW]
  refine FnM.toFn ?_
  refine FnM.walk 34 Tryz.func134 rfl Tryz.ntmps134 (by simp) fun X => ?_
  repeat
   (first
    | (apply ak; iterate 3 rfl) | (apply cZ; iterate 6 rfl) | (apply dP; iterate 3 rfl) | (apply dh; rfl; exact I.a; iterate 4 rfl)
    | (apply gU; rfl; rfl; rfl; intro _) | apply EL.nil | ((with_reducible apply EK.ah); apply EK.code) | (apply EC.cond_true; rfl)
    | (with_reducible first | apply EC.seq | apply EC.region | apply EC.skip | apply EC.block | apply EC.ret | apply EK.aI))
  exact EK.bT [] rfl rfl rfl (RL.cons Rf.same (RL.cons Rf.same RL.nil)) (List.nil_sublist _) ⟨rfl, rfl⟩
 | true =>
  have ih : ∀ y ∈ xs, isL y = true → Fn 134 [aW y] (· = jv (bH f y)) := fun y hy _ => IH y (by have := uO hy; rw [dep] at h; omega) (hE.kid hy)
  rw [bH]
  have hml : (eY xs).length = xs.length := by rw [jI, List.length_map]
  by_cases h2 : xs.length = 2
  ·
   rw [if_pos h2]
   match xs, h2 with
   | [x, y], _ =>
    have hgx := hE.kid (y := x) List.mem_cons_self
    have hx0 : (bts x).length ≤ 536870912 := by
     obtain ⟨xl, xb, xx⟩ := x
     show xb.length ≤ _
     cases xl with
     | false =>
      have h1 := hgx.len
      rw [Rlp.E] at h1
      have := Ub xb
      simp only [most] at h1
      omega
     | true =>
      have h1 := hgx.nrm
      rw [norm] at h1
      injection h1 with _ h1 _
      rw [← h1]
      exact Nat.zero_le _
    have hP := SA x y (bH f) hx0 (ih y (List.mem_cons_of_mem _ List.mem_cons_self))
    rw [show [x, y].getD 0 fM = x from rfl, show [x, y].getD 1 fM = y from rfl]
    unfold jv at hP ⊢
    generalize rP (bH f) x y = r at hP ⊢
    rw [aW, eY, eY, eY]
    refine FnM.toFn ?_
    refine FnM.walk 34 Tryz.func134 rfl Tryz.ntmps134 (by simp) fun X => ?_
    obtain ⟨xl, xb, xx⟩ := x
    obtain ⟨yl, yb, yx⟩ := y
    rw [aW, aW] at hP ⊢
    repeat
     (first
      | (apply ak; iterate 3 rfl) | (apply cZ; iterate 6 rfl) | (apply dP; iterate 3 rfl) | (apply dh; rfl; exact I.a; iterate 4 rfl)
      | (apply aC (b := true); (iterate 2 rfl); exact aO; iterate 2 rfl) | (apply aJ; iterate 4 rfl) | (apply gU; rfl; rfl; rfl; intro _) | apply EL.nil
      | ((with_reducible apply EK.ah); apply EK.code) | (apply EC.cond_true; rfl) | (apply EC.cond_false; rfl) | (with_reducible first | apply EC.seq | apply EC.region | apply EC.block))
    refine EC.draw 11 (by kernel_rfl) ?_
    simp only [List.take_succ_cons, List.take_zero, List.drop_succ_cons, List.drop_zero]
    repeat
     (first
      | (apply dW (hP); rfl; exact aj.refl _ _; exact enA; iterate 2 rfl) | (apply dB; iterate 6 rfl) | (apply NW; iterate 4 rfl)
      | (apply bM; iterate 5 rfl) | (apply dH; rfl; exact I.a; iterate 4 rfl)
      | (apply dI; (iterate 4 rfl); (focus (first | exact ⟨by decide, rfl⟩ | (refine ⟨by omega, ?_⟩; rw [Int.toNat_natCast]; assumption))); iterate 2 rfl)
      | ((with_reducible apply EH.nil); rfl))
    repeat
     (first
      | (apply ak; iterate 3 rfl) | apply EL.nil | ((with_reducible apply EK.ah); apply EK.code) | (with_reducible first | apply EC.ret | apply EK.dV | apply EK.aH))
    exact EK.bT [] rfl rfl rfl (RL.cons Rf.same (RL.cons Rf.same RL.nil)) (List.nil_sublist _) ⟨rfl, rfl⟩
  ·
   rw [if_neg h2]
   have hc2 : dL .eql ((eY xs).length : Int) 2 = some false := by
    simp only [dL, Option.some.injEq, beq_eq_false_iff_ne]
    omega
   by_cases h17 : xs.length = 17
   ·
    rw [if_pos h17]
    have hB := NC xs (bH f) h17 ih
    unfold jv at hB ⊢
    generalize brF (bH f) xs = r at hB ⊢
    rw [aW]
    refine FnM.toFn ?_
    refine FnM.walk 34 Tryz.func134 rfl Tryz.ntmps134 (by simp) fun X => ?_
    repeat
     (first
      | (apply aA (hB); rfl; exact aj.refl _ _; exact enA; iterate 2 rfl) | (apply aC (b := false); (iterate 2 rfl); exact hc2; iterate 2 rfl)
      | (apply ak; iterate 3 rfl) | (apply cZ; iterate 6 rfl) | (apply aF; iterate 4 rfl) | (apply dP; iterate 3 rfl)
      | (apply dh; rfl; exact I.a; iterate 4 rfl) | (apply aC (b := true); (iterate 2 rfl); exact aO; iterate 2 rfl) | (apply aJ; iterate 4 rfl)
      | (apply gU; rfl; rfl; rfl; intro _) | apply EL.nil | ((with_reducible apply EK.ah); apply EK.code) | (apply EC.cond_true; rfl) | (apply EC.cond_false; rfl)
      | (with_reducible first | apply EC.seq | apply EC.region | apply EC.block | apply EC.ret | apply EK.dV | apply EK.aH))
    exact EK.bT [] rfl rfl rfl (RL.cons Rf.same (RL.cons Rf.same RL.nil)) (List.nil_sublist _) ⟨rfl, rfl⟩
   ·
    rw [if_neg h17]
    have hc17 : dL .eql ((eY xs).length : Int) 17 = some false := by
     simp only [dL, Option.some.injEq, beq_eq_false_iff_ne]
     omega
    rw [aW]
    refine FnM.toFn ?_
    refine FnM.walk 34 Tryz.func134 rfl Tryz.ntmps134 (by simp) fun X => ?_
    repeat
     (first
      | (apply aC (b := false); (iterate 2 rfl); (first | exact hc2 | exact hc17); iterate 2 rfl) | (apply ak; iterate 3 rfl) | (apply cZ; iterate 6 rfl)
      | (apply dP; iterate 3 rfl) | (apply dh; rfl; exact I.a; iterate 4 rfl) | (apply aJ; iterate 4 rfl) | (apply gU; rfl; rfl; rfl; intro _)
      | apply EL.nil | ((with_reducible apply EK.ah); apply EK.code) | (apply EC.cond_false; rfl)
      | (with_reducible first | apply EC.seq | apply EC.region | apply EC.skip | apply EC.block | apply EC.ret | apply EK.aI))
    exact EK.bT [] rfl rfl rfl (RL.cons Rf.same (RL.cons Rf.same RL.nil)) (List.nil_sublist _) ⟨rfl, rfl⟩
theorem CX (b : List UInt8) : Gd (rdX b) := by
 unfold rdX
 cases hr : jC b with
 | ok x => exact Ez hr
 | error e => exact RX
def Ai (b : List UInt8) : Nd × Bool := if rdE b = 0 ∧ isN 40 (rdX b) = true then bH 40 (rdX b) else (.nil, false)
theorem J7 (b : List UInt8) : Fn 88 [.bs b] (· = jv (Ai b)) := by
 have h1 := U6 b
 have hg := CX b
 have h2 := SB 40 (rdX b) (by have := hg.dep; omega) hg
 have h3 := kJ 40 (rdX b) hg
 unfold Ai
 unfold OX at h1
 unfold jv at h2 ⊢
 generalize bH 40 (rdX b) = r at h2 h3 ⊢
 generalize isN 40 (rdX b) = q at h3 ⊢
 generalize rdX b = x at h1 h2
 generalize rdE b = e at h1 ⊢
 obtain ⟨xl, xb, xx⟩ := x
 rw [aW] at h1 h2
 obtain ⟨n, ok⟩ := r
 obtain rfl : ok = q := h3
 refine FnM.toFn ?_
 refine FnM.walk 23 Tryz.func88 rfl Tryz.ntmps88 (by simp) fun X => ?_
 by_cases he : e = 0
 ·
  subst he
  cases ok with
  | true =>
   rw [if_pos ⟨rfl, rfl⟩]
   dsimp only at h2 ⊢
   repeat
    (first
     | (apply aA (h1); rfl; exact aj.refl _ _; exact enA; iterate 2 rfl) | (apply aA (h2); rfl; exact aj.refl _ _; exact enA; iterate 2 rfl)
     | (apply au; iterate 3 rfl) | (apply ak; iterate 3 rfl) | (apply aF; iterate 4 rfl) | (apply dP; iterate 3 rfl)
     | (apply dh; rfl; exact I.a; iterate 4 rfl) | (apply aC (b := false); (iterate 2 rfl); exact aO; iterate 2 rfl)
     | (apply aZ; rfl; rfl; rfl; intro _) | (apply aN; rfl; (focus (repeat first | exact .z | apply bC.s | apply aP.s)); iterate 4 rfl) | apply EL.nil
     | ((with_reducible apply EK.ah); apply EK.code) | (apply EC.cond_false; rfl) | (with_reducible first | apply EC.seq | apply EC.region | apply EC.skip | apply EC.ret))
   exact EK.bT [] rfl rfl rfl (RL.cons Rf.same (RL.cons Rf.same RL.nil)) (List.nil_sublist _) ⟨rfl, rfl⟩
  | false =>
   rw [if_neg fun h => Bool.false_ne_true h.2]
   dsimp only at h2 ⊢
   repeat
    (first
     | (apply aA (h1); rfl; exact aj.refl _ _; exact enA; iterate 2 rfl) | (apply aA (h2); rfl; exact aj.refl _ _; exact enA; iterate 2 rfl)
     | (apply au; iterate 3 rfl) | (apply ak; iterate 3 rfl) | (apply aF; iterate 4 rfl) | (apply dP; iterate 3 rfl)
     | (apply dh; rfl; exact I.a; iterate 4 rfl) | (apply aC (b := false); (iterate 2 rfl); exact aO; iterate 2 rfl)
     | (apply aZ; rfl; rfl; rfl; intro _) | (apply aN; rfl; (focus (repeat first | exact .z | apply bC.s | apply aP.s)); iterate 4 rfl) | apply EL.nil
     | ((with_reducible apply EK.ah); apply EK.code) | (apply EC.cond_true; rfl) | (apply EC.cond_false; rfl)
     | (with_reducible first | apply EC.seq | apply EC.region | apply EC.skip | apply EC.ret | apply EK.aH))
   exact EK.bT [] rfl rfl rfl (RL.cons Rf.same (RL.cons Rf.same RL.nil)) (List.nil_sublist _) ⟨rfl, rfl⟩
 ·
  rw [if_neg fun h => he h.1]
  have hc : dL .neq (e : Int) 0 = some true := by
   have : (e : Int) ≠ 0 := by omega
   simp only [dL, Option.some.injEq, bne_iff_ne]
   exact this
  repeat
   (first
    | (apply aA (h1); rfl; exact aj.refl _ _; exact enA; iterate 2 rfl) | (apply aC (b := true); (iterate 2 rfl); exact hc; iterate 2 rfl)
    | (apply au; iterate 3 rfl) | (apply ak; iterate 3 rfl) | (apply aF; iterate 4 rfl) | (apply aZ; rfl; rfl; rfl; intro _)
    | (apply aN; rfl; (focus (repeat first | exact .z | apply bC.s | apply aP.s)); iterate 4 rfl) | apply EL.nil | ((with_reducible apply EK.ah); apply EK.code)
    | (apply EC.cond_true; rfl) | (with_reducible first | apply EC.seq | apply EC.region | apply EC.ret | apply EK.aH))
  exact EK.bT [] rfl rfl rfl (RL.cons Rf.same (RL.cons Rf.same RL.nil)) (List.nil_sublist _) ⟨rfl, rfl⟩
def gB : Nd → List UInt8 → Nd × List UInt8 × List UInt8
 | .leaf q v, p => if q = p then (.nil, [], v) else (.nil, [], [])
 | .ext q k, p => if q = p.take q.length then (k, p.drop q.length, []) else (.nil, [], [])
 | .br _ v, [] => (.nil, [], v)
 | .br ks _, c :: r => (ks c.toNat, r, [])
 | _, _ => (.nil, [], [])
theorem kG (q v p : List UInt8) : gB (.leaf q v) p = if q = p then (.nil, [], v) else (.nil, [], []) := by cases p <;> rfl
theorem nD (q : List UInt8) (k : Nd) (p : List UInt8) : gB (.ext q k) p = if q = p.take q.length then (k, p.drop q.length, []) else (.nil, [], []) := by cases p <;> rfl
theorem Ee (ks : Nat → Nd) (v : List UInt8) (c : UInt8) (r : List UInt8) : gB (.br ks v) (c :: r) = (ks c.toNat, r, []) := rfl
def dwn (x : Raw) (p : List UInt8) : Raw × List UInt8 × List UInt8 × Bool :=
 if (its x).length = 17 then
  match p with
  | [] => (fM, [], bts ((its x).getD 16 fM), false)
  | c :: r => if !isL ((its x).getD c.toNat fM) && decide ((bts ((its x).getD c.toNat fM)).length = 0) then (fM, [], [], false) else ((its x).getD c.toNat fM, r, [], true)
 else match rdP (bts ((its x).getD 0 fM)) with
  | some (q, true) => if p = q then (fM, [], bts ((its x).getD 1 fM), false) else (fM, [], [], false)
  | some (q, false) => if common p q < q.length then (fM, [], [], false) else ((its x).getD 1 fM, p.drop q.length, [], true)
  | none => if common p [] < ([] : List UInt8).length then (fM, [], [], false) else ((its x).getD 1 fM, p.drop 0, [], true)
theorem zK : ∀ (n : Nat) (a b : List UInt8), a.take n = b.take n → n ≤ a.length → n ≤ b.length → n ≤ common a b
 | 0, _, _, _, _, _ => Nat.zero_le _
 | n + 1, [], b, _, h, _ => by simp at h
 | n + 1, _ :: _, [], _, _, h => by simp at h
 | n + 1, x :: a, y :: b, e, h1, h2 => by
  simp only [List.take_succ_cons, List.cons.injEq] at e
  rw [common, if_pos e.1]
  have := zK n a b e.2 (by simpa using h1) (by simpa using h2)
  omega
theorem tC (p q : List UInt8) : q = p.take q.length ↔ ¬ common p q < q.length := by
 obtain ⟨h1, h2, h3⟩ := fA p q
 constructor
 ·
  intro e
  have hl : q.length ≤ p.length := by
   have := congrArg List.length e
   rw [List.length_take] at this
   omega
  have := zK q.length p q (by rw [List.take_length]; exact e.symm) hl (Nat.le_refl _)
  omega
 ·
  intro h
  have : common p q = q.length := by omega
  rw [this, List.take_length] at h1
  exact h1.symm
def KT (f : Nat) (x : Raw) : Prop := Gd x ∧ ((isL x = true ∧ isN f x = true ∧ (Rlp.E x).length < 32) ∨ (isL x = false ∧ (bts x).length = 32))
theorem JW {f : Nat} {x : Raw} {b : Bool} (hx : Gd x) (h : rfB (isN f) b x = true) (hne : (!isL x && decide ((bts x).length = 0)) = false) : KT f x := by
 refine ⟨hx, ?_⟩
 obtain ⟨l, c, xs⟩ := x
 cases l with
 | true =>
  rw [tZ, hx.pkB] at h
  obtain ⟨h1, h2⟩ := Bool.and_eq_true_iff.1 h
  exact .inl ⟨rfl, h2, of_decide_eq_true h1⟩
 | false =>
  refine .inr ⟨rfl, ?_⟩
  rw [qR] at h
  show c.length = 32
  have h0 : c.length ≠ 0 := by simpa [isL, bts] using hne
  rcases Bool.or_eq_true_iff.1 h with h | h
  · exact of_decide_eq_true h
  · exact absurd (of_decide_eq_true (Bool.and_eq_true_iff.1 h).2) h0
theorem LY (b : List UInt8) : rdP b = none ∨ (∃ q, rdP b = some (q, true)) ∨ ∃ q, rdP b = some (q, false) := by
 cases h : rdP b with
 | none => exact .inl rfl
 | some x =>
  obtain ⟨q, l⟩ := x
  cases l with
  | true => exact .inr (.inl ⟨q, rfl⟩)
  | false => exact .inr (.inr ⟨q, rfl⟩)
theorem Ot {f : Nat} {x : Raw} (hx : Gd x) (hn : isN f x = true) (p : List UInt8) (hp : ∀ c ∈ p, c.toNat < 16) :
  (∃ r v, (dwn x p).2.2.2 = false ∧ (dwn x p).2.2.1 = v ∧ gB (bH f x).1 p = (.nil, r, v)) ∨
  (∃ g k r, (dwn x p) = (k, r, [], true) ∧ gB (bH f x).1 p = ((gY (bH g) k).1, r, []) ∧ KT g k ∧ r.length < p.length ∧ (∀ c ∈ r, c ∈ p)) := by
 have hok : (bH f x).2 = true := by rw [kJ f x hx, hn]
 match f, x with
 | 0, x => cases hn
 | _ + 1, .mk false _ _ => cases hn
 | f + 1, .mk true b xs =>
  rw [isN] at hn
  rw [bH] at hok ⊢
  unfold dwn
  rw [show its (.mk true b xs) = xs from rfl]
  by_cases h17 : xs.length = 17
  ·
   have h2 : ¬ xs.length = 2 := by omega
   rw [if_pos h17] at hn
   rw [if_neg h2, if_pos h17] at hok ⊢
   rw [if_pos h17]
   unfold brF at hok ⊢
   cases hall : (xs.take 16).all (fun x => (gY (bH f) x).2) with
   | false =>
    rw [hall] at hok
    cases hok
   | true =>
    rw [if_pos rfl]
    cases p with
    | nil => exact .inl ⟨[], _, rfl, rfl, rfl⟩
    | cons c r =>
     have hc := hp c List.mem_cons_self
     have hcx : c.toNat < xs.length := by omega
     have hmem : xs.getD c.toNat fM ∈ xs := by
      rw [List.getD_eq_getElem?_getD, List.getElem?_eq_getElem hcx]
      exact List.getElem_mem hcx
     have hmt : xs.getD c.toNat fM ∈ xs.take 16 := by
      rw [List.getD_eq_getElem?_getD, List.getElem?_eq_getElem hcx]
      exact List.mem_iff_getElem.2 ⟨c.toNat, by rw [List.length_take]; omega, by rw [List.getElem_take]; rfl⟩
     unfold brB at hn
     have hrf : rfB (isN f) true (xs.getD c.toNat fM) = true := List.all_eq_true.1 (Bool.and_eq_true_iff.1 (Bool.and_eq_true_iff.1 hn).1).1 _ hmt
     have hg := hx.kid hmem
     rw [Ee]
     dsimp only
     generalize xs.getD c.toNat fM = y at hrf hg ⊢
     cases hz : (!isL y && decide ((bts y).length = 0)) with
     | true =>
      rw [if_pos rfl]
      refine .inl ⟨r, [], rfl, rfl, ?_⟩
      obtain ⟨z1, z2⟩ := Bool.and_eq_true_iff.1 hz
      show ((gY (bH f) y).1, r, ([] : List UInt8)) = _
      unfold gY
      rw [if_neg (by simpa using z1), if_pos (of_decide_eq_true z2)]
     | false =>
      rw [if_neg Bool.false_ne_true]
      exact .inr ⟨f, y, r, rfl, rfl, JW hg hrf hz, by simp, fun d hd => List.mem_cons_of_mem _ hd⟩
  ·
   rw [if_neg h17] at hn
   rw [if_neg h17]
   by_cases h2 : xs.length = 2
   ·
    rw [if_pos h2] at hn hok ⊢
    match xs, h2 with
    | [a, y], _ =>
     have hg := hx.kid (y := y) (List.mem_cons_of_mem _ List.mem_cons_self)
     rw [show [a, y].getD 0 fM = a from rfl, show [a, y].getD 1 fM = y from rfl] at *
     unfold prB at hn
     unfold rP at hok ⊢
     obtain ⟨ha, hn⟩ := Bool.and_eq_true_iff.1 hn
     have ha : isL a = false := by simpa using ha
     rcases LY (bts a) with hr | ⟨q, hr⟩ | ⟨q, hr⟩
     ·
      rw [hr] at hn
      cases hn
     ·
      rw [hr] at hn hok ⊢
      dsimp only at hn hok ⊢
      rw [ha, if_neg Bool.false_ne_true, if_pos rfl]
      by_cases hq : p = q
      ·
       rw [if_pos hq]
       refine .inl ⟨[], _, rfl, rfl, ?_⟩
       rw [kG, if_pos hq.symm]
      ·
       rw [if_neg hq]
       refine .inl ⟨[], _, rfl, rfl, ?_⟩
       rw [kG, if_neg fun e => hq e.symm]
     ·
      rw [hr] at hn hok ⊢
      dsimp only at hn hok ⊢
      rw [ha, if_neg Bool.false_ne_true, if_neg Bool.false_ne_true] at hok ⊢
      obtain ⟨hn1, hn2⟩ := Bool.and_eq_true_iff.1 hn
      obtain ⟨hn0, hn1⟩ := Bool.and_eq_true_iff.1 hn1
      have hq0 := of_decide_eq_true hn0
      cases hbh : (gY (bH f) y).1.xk with
      | false =>
       rw [hbh, if_neg Bool.false_ne_true] at hok
       cases hok
      | true =>
       rw [if_pos rfl]
       have hne : (!isL y && decide ((bts y).length = 0)) = false := by
        cases hz : (!isL y && decide ((bts y).length = 0)) with
        | false => rfl
        | true =>
         obtain ⟨z1, z2⟩ := Bool.and_eq_true_iff.1 hz
         unfold gY at hbh
         rw [if_neg (by simpa using z1), if_pos (of_decide_eq_true z2)] at hbh
         cases hbh
       have hcp := tC p q
       by_cases hcm : common p q < q.length
       ·
        rw [if_pos hcm]
        refine .inl ⟨[], _, rfl, rfl, ?_⟩
        rw [nD, if_neg fun e => hcp.1 e hcm]
       ·
        rw [if_neg hcm]
        refine .inr ⟨f, y, p.drop q.length, rfl, ?_, JW hg hn1 hne, ?_, fun d hd => List.mem_of_mem_drop hd⟩
        · rw [nD, if_pos (hcp.2 hcm)]
        ·
         have := (fA p q).2.1
         rw [List.length_drop]
         omega
   ·
    rw [if_neg h2] at hn
    cases hn
def nxt (x : Raw) (l : List (List UInt8)) : Except Nat (Raw × List (List UInt8)) := if isL x then .ok (x, l) else match l with
 | [] => .error 5
 | q :: l' => if hash q = bts x then (if rdE q = 0 ∧ isN 40 (rdX q) = true then .ok (rdX q, l') else .error 4) else .error 5
def chk : Nat → Raw → List UInt8 → List (List UInt8) → List UInt8 × Nat
 | 0, _, _, _ => ([], 0)
 | f + 1, x, p, l => match nxt x l with
  | .error e => ([], e)
  | .ok (i, l') => if (dwn i p).2.2.2 then chk f (dwn i p).1 (dwn i p).2.1 l' else if l'.length = 0 then ((dwn i p).2.2.1, 0) else ([], 3)
def qF (root key : List UInt8) (l : List (List UInt8)) : List UInt8 × Nat := if root = kE then (if l.length = 0 then ([], 0) else ([], 3)) else chk 400 (.mk false root []) (split key) l
def DT (g : Nat) (x : Raw) (p : List UInt8) (q : List (List UInt8)) : List UInt8 × Nat := if (dwn x p).2.2.2 then chk g (dwn x p).1 (dwn x p).2.1 q else if q.length = 0 then ((dwn x p).2.2.1, 0) else ([], 3)
theorem qE (g : Nat) (x : Raw) (p : List UInt8) (l : List (List UInt8)) : chk (g + 1) x p l = match nxt x l with
  | .error e => ([], e)
  | .ok (i, l') => DT g i p l' := rfl
theorem Gy (g : Nat) {x : Raw} (h : isL x = true) (p : List UInt8) (l : List (List UInt8)) : chk (g + 1) x p l = DT g x p l := by
 rw [qE]
 unfold nxt
 rw [if_pos h]
theorem vP (g : Nat) {x : Raw} (h : isL x = false) (p : List UInt8) : chk (g + 1) x p [] = ([], 5) := by
 rw [qE]
 unfold nxt
 rw [h, if_neg Bool.false_ne_true]
theorem rF (g : Nat) {x : Raw} (h : isL x = false) (p : List UInt8) (b : List UInt8) (l : List (List UInt8)) : chk (g + 1) x p (b :: l) = if hash b = bts x then (if rdE b = 0 ∧ isN 40 (rdX b) = true then DT g (rdX b) p l else ([], 4)) else ([], 5) := by
 rw [qE]
 unfold nxt
 rw [h, if_neg Bool.false_ne_true]
 dsimp only
 by_cases h1 : hash b = bts x
 ·
  rw [if_pos h1, if_pos h1]
  by_cases h2 : rdE b = 0 ∧ isN 40 (rdX b) = true
  · rw [if_pos h2, if_pos h2]
  · rw [if_neg h2, if_neg h2]
 · rw [if_neg h1, if_neg h1]
end E
end Go.Proofs.YtiledgojbpmoiaaGreat
namespace Go.Proofs.YtiledgojbpmoiaaGreat
set_option linter.unusedVariables false
set_option maxHeartbeats 1000000
open Go.RowKit Mono Rlp
theorem Vf (v : Value) (l : List UInt8) (w : World) (h : IsB w v l) (hl : l.length ≤ 140737488355328) : Calls Tryz.prog 90 #[v] w (Ret (fun v w' => OwnB w' w.heap.size v l) w) := by
 obtain ⟨A, c, rfl, hc1, hc2, hr⟩ := h
 cases A with
 | none =>
  have hl0 : l = [] := by
   by_cases hn : bvs l = []
   · simpa [bvs] using hn
   ·
    obtain ⟨b, o, e, _⟩ := hr hn
    cases e
  subst hl0
  clear hr
  have hq := Lib.run_eql_slice_nil w 30 5 none 0 c 0 0 Tryz.underlying30
  go_enter Tryz.func90, Tryz.ntmps90
  go_wp2
  refine bodyPost_ret (results_tmp rfl _ _ _) rfl ?_
  exact ⟨_, rfl, Gr.refl _, OwnB.nil _ _⟩
 | some a =>
  have HR := Lib.hid hr
  clear hr
  have hq := Lib.run_eql_slice_nil w 30 5 (some a) l.length c 0 0 Tryz.underlying30
  go_enter Tryz.func90, Tryz.ntmps90
  go_wp2_with (at_builtin; refine bg (.tmp 5) (.tmp 6) 30 bV (base := w.heap.size) _ 0 [] _ l.length c w.heap.size (bvs l) rfl rfl rfl rfl (iG w #[] 5 1 0 w.heap.size w.heap.size rfl (Nat.le_refl _) (by simp [maxLen]) rfl) (HR.out.below ((Below.refl _ _).alloc (Nat.le_refl _) _)) (by simp [bvs]) (eG _) (by simp only [maxLen]; omega) (by omega) (by simp) ?_; intro A2 c2 w2 hown2 hg2 _)
  refine bodyPost_ret (results_tmp rfl _ _ _) rfl ?_
  refine ⟨_, rfl, ((Below.refl _ _).alloc (Nat.le_refl _) _).grown hg2 (by simp) (fun j hj => by cases hj; exact Nat.le_refl _), ?_⟩
  rw [Nat.zero_add, List.nil_append] at hown2
  exact hown2
namespace E
theorem Ko (l : List UInt8) (hl : l.length ≤ 140737488355328) : Fn 90 [.bs l] (· = .val (.bs l)) := ⟨fun ok w xs hok hr => by
 obtain ⟨x, _, rfl, hx, rfl⟩ := hr
 refine (Vf x l w (jT hok hx) hl).mono ?_
 rintro e w' ⟨v, rfl, hg, ho⟩
 exact ⟨hg, v, .val (.bs l), rfl, rfl, (bP rfl).2 (by rw [Reads]; exact ⟨v, rfl, vV.mono (sO ho) (fun b hb => ⟨.inr hb.1, hb.2⟩) fun _ _ => rfl⟩)⟩⟩
end E
end Go.Proofs.YtiledgojbpmoiaaGreat
