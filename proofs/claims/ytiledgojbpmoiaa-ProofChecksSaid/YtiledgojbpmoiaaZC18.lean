/-
 Merged (wip/tools/merge.py): PF3, Cmp0, TS1, SortP.
 Conditions: none.
-/
import Derived.Test.YtiledgojbpmoiaaZC16
import Derived.Test.YtiledgojbpmoiaaZC3
import Derived.Lib.Bytealg
import Derived.Lib.BytesEntry
import Derived.Sort.Walk0
import Derived.Test.YtiledgojbpmoiaaZC10
import Derived.Shelf.SlSortCmp.WholeK
import Derived.Shelf.SlSortCmp.NoneTotal
import Derived.Shelf.SlGeneric
import Derived.Ground.SlsfProg
import Derived.Test.YtiledgojbpmoiaaRows
/-
 The reference's IsNode: the walk.
 Conditions: none.
-/
namespace Go.Proofs.Ytiledgojbpmoiaa
set_option linter.unusedVariables false
open Go.RowKit Mono Rlp
namespace E
theorem getD_mem {xs : List Raw} {k : Nat} (h : k < xs.length) : xs.getD k rawE = xs[k] := by
 rw [List.getD_eq_getElem?_getD, List.getElem?_eq_getElem h]
 rfl
set_option maxRecDepth 20000 in
set_option maxHeartbeats 16000000 in
theorem isNode_br (f : Nat) (b : List UInt8) (xs : List Raw) (h17 : xs.length = 17) (ih : ∀ y ∈ xs, isL y = true → Fn 21 [dItem y] (· = .val (.v (.bool (isN f y))))) : Fn 21 [dItem (.mk true b xs)] (· = .val (.v (.bool (brB (isN f) xs)))) := by
 refine FnM.toFn ?_
 have hml : (dItems xs).length = 17 := by rw [dItems_map, List.length_map, h17]
 have hat : ∀ k, (hk : k < xs.length) → (dItems xs)[k]? = some (dItem xs[k]) := fun k hk => by rw [dItems_map, List.getElem?_map, List.getElem?_eq_getElem hk]; rfl
 have h16 := hat 16 (by omega)
 unfold brB
 rw [getD_mem (show 16 < xs.length by omega)]
 obtain ⟨q, hq⟩ : ∃ q, (xs.take 16).all (rfB (isN f) true) = q := ⟨_, rfl⟩
 rw [hq]
 generalize hDs : dItems xs = Ds at hml hat h16
 refine FnM.walk 121 Try.func21 rfl Try.ntmps21 (by simp) fun X => ?_
 unfold dItem
 rw [hDs]
 repeat
  (first
   | (apply P_assign; iterate 3 rfl) | (apply P_field; iterate 6 rfl) | (apply P_not; iterate 3 rfl)
   | (apply P_load; rfl; (first | exact I0 | exact I1 | exact I2 | exact I3 | exact I4 | exact I5 | exact I6); iterate 4 rfl)
   | (apply P_cmp (b := true); (iterate 2 rfl); (focus (first | (simp [cmpI]; done) | (simp [cmpI]; omega))); iterate 2 rfl) | (apply P_lensl; iterate 4 rfl)
   | (apply P_box; rfl; rfl; rfl; intro _) | apply EL.nil | ((with_reducible apply EK.then_normal); apply EK.code) | (apply EC.cond_true; rfl) | (apply EC.cond_false; rfl)
   | (with_reducible first | apply EC.seq | apply EC.region | apply EC.skip | apply EC.block))
 rename_i g
 refine EC.loop (ι := {k : Nat // k ≤ 16 ∧ (xs.take k).all (rfB (isN f) true) = true})
  (fun k => ⟨[(4, .val (.v (.int .i64 (k.1 : Int)))), (3, .val (.v (.int .i64 (((xs.take k.1).filter some1).length : Nat)))), (1, .val (.v (.pointer (some ⟨g, 0, none⟩))))], [.var g 53 (.tup [.v (.bool true), .bs b, .sl 3 Ds])], []⟩)
  (fun k => 16 - k.1) ⟨0, Nat.zero_le _, rfl⟩ ?_ ?_
 · exact (Le.keep (by repeat first | exact trivial | refine ⟨rfl, ?_⟩) (by repeat first | exact List.nil_sublist _ | apply List.Sublist.cons_cons | apply List.Sublist.cons) (by simp))
 rintro ⟨k, hk, hall⟩
 dsimp only at hk ⊢
 by_cases hlt : k < 16
 ·
  have hkx : k < xs.length := by omega
  have hd := hat k hkx
  have htk : xs.take (k + 1) = xs.take k ++ [xs[k]] := List.take_succ_eq_append_getElem hkx
  have hR := f_isRef xs[k] true (isN f) (ih xs[k] (List.getElem_mem hkx))
  have hno : rfB (isN f) true xs[k] = false → (xs.take 16).all (rfB (isN f) true) = false := fun h => by
   refine Bool.eq_false_iff.2 fun ha => ?_
   have := List.all_eq_true.1 ha xs[k] (List.mem_iff_getElem.2 ⟨k, by rw [List.length_take]; omega, by rw [List.getElem_take]⟩)
   rw [h] at this
   cases this
  generalize xs[k] = y at hd htk hR hno
  cases hb : rfB (isN f) true y with
  | false =>
   rw [hb] at hR
   rw [← hq, hno hb, Bool.false_and, Bool.false_and]
   obtain ⟨yl, yb, yx⟩ := y
   unfold dItem at hd hR
   repeat
    (first
     | (apply P_call (hR); rfl; exact RefineL.refl _ _; (focus (intro _ _; simp [go_sem]; done)); iterate 2 rfl)
     | (apply P_index (d := .tup [.v (.bool yl), .bs yb, .sl 3 (dItems yx)]); (iterate 4 rfl); exact ⟨by omega, by rw [Int.toNat_natCast]; exact hd⟩; iterate 2 rfl)
     | (apply P_move; iterate 3 rfl) | (apply P_assign; iterate 3 rfl) | (apply P_field; iterate 6 rfl) | (apply P_loadpd; iterate 5 rfl)
     | (apply P_not; iterate 3 rfl) | (apply P_load; rfl; (first | exact I0 | exact I1 | exact I2 | exact I3 | exact I4 | exact I5 | exact I6); iterate 4 rfl)
     | (apply P_cmp (b := true); (iterate 2 rfl); (focus (first | (simp [cmpI]; done) | (simp [cmpI]; omega))); iterate 2 rfl) | apply EL.nil
     | ((with_reducible apply EK.then_normal); apply EK.code) | (apply EC.cond_true; rfl)
     | (with_reducible first | apply EC.seq | apply EC.region | apply EC.skip | apply EC.block | apply EC.ret | apply EK.in_ret | apply EK.then_ret))
   exact EK.retM1s [] rfl rfl (List.nil_sublist _) ⟨rfl, rfl⟩
  | true =>
   rw [hb] at hR
   clear hno
   have hall1 : (xs.take (k + 1)).all (rfB (isN f) true) = true := by rw [htk, List.all_append, hall]; simp [hb]
   have hc1 : ((xs.take (k + 1)).filter some1).length = ((xs.take k).filter some1).length + (if some1 y then 1 else 0) := by
    rw [htk, List.filter_append, List.length_append]
    congr 1
    cases h : some1 y with
    | true => rw [List.filter_cons_of_pos h]; rfl
    | false => rw [List.filter_cons_of_neg (by rw [h]; decide)]; rfl
   have hle : ((xs.take k).filter some1).length ≤ 16 := Nat.le_trans (List.length_filter_le _ _) (by rw [List.length_take]; omega)
   generalize ((xs.take k).filter some1).length = n at hc1 hle ⊢
   obtain ⟨yl, yb, yx⟩ := y
   rw [show some1 (.mk yl yb yx) = (yl || decide (0 < yb.length)) from rfl] at hc1
   unfold dItem at hd hR
   cases yl with
   | true =>
    rw [Bool.true_or, if_pos rfl] at hc1
    repeat
     (first
      | (apply P_skip; iterate 2 rfl) | (apply P_call (hR); rfl; exact RefineL.refl _ _; (focus (intro _ _; simp [go_sem]; done)); iterate 2 rfl)
      | (apply P_index (d := .tup [.v (.bool true), .bs yb, .sl 3 (dItems yx)]); (iterate 4 rfl); exact ⟨by omega, by rw [Int.toNat_natCast]; exact hd⟩; iterate 2 rfl)
      | (apply P_move; iterate 3 rfl) | (apply P_assign; iterate 3 rfl) | (apply P_field; iterate 6 rfl) | (apply P_fieldpd; iterate 7 rfl)
      | (apply P_loadpd; iterate 5 rfl) | (apply P_pick; iterate 4 rfl) | (apply P_not; iterate 3 rfl)
      | (apply P_load; rfl; (first | exact I0 | exact I1 | exact I2 | exact I3 | exact I4 | exact I5 | exact I6); iterate 4 rfl)
      | (apply P_cmp (b := true); (iterate 2 rfl); (focus (first | (simp [cmpI]; done) | (simp [cmpI]; omega))); iterate 2 rfl)
      | (apply P_ar; (iterate 3 rfl); (focus omega); (focus omega); iterate 2 rfl) | apply EL.nil | ((with_reducible apply EK.then_normal); apply EK.code) | (apply EC.cond_true; rfl)
      | (apply EC.cond_false; rfl) | (with_reducible first | apply EC.seq | apply EC.region | apply EC.skip | apply EC.block | apply EK.in_normal))
    refine EK.again ⟨k + 1, hlt, hall1⟩ (by dsimp only; omega) ?_
    dsimp only
    rw [hc1]
    simp only [Int.natCast_add]
    exact (Le.keep (by repeat first | exact trivial | refine ⟨rfl, ?_⟩) (by repeat first | exact List.nil_sublist _ | apply List.Sublist.cons_cons | apply List.Sublist.cons) (by simp))
   | false =>
    rw [Bool.false_or] at hc1
    by_cases h0 : 0 < yb.length
    ·
     rw [show decide (0 < yb.length) = true by simp [h0], if_pos rfl] at hc1
     repeat
      (first
       | (apply P_call (hR); rfl; exact RefineL.refl _ _; (focus (intro _ _; simp [go_sem]; done)); iterate 2 rfl)
       | (apply P_index (d := .tup [.v (.bool false), .bs yb, .sl 3 (dItems yx)]); (iterate 4 rfl); exact ⟨by omega, by rw [Int.toNat_natCast]; exact hd⟩; iterate 2 rfl)
       | (apply P_move; iterate 3 rfl) | (apply P_assign; iterate 3 rfl) | (apply P_field; iterate 6 rfl) | (apply P_fieldpd; iterate 7 rfl)
       | (apply P_loadpd; iterate 5 rfl) | (apply P_pick; iterate 4 rfl) | (apply P_not; iterate 3 rfl)
       | (apply P_load; rfl; (first | exact I0 | exact I1 | exact I2 | exact I3 | exact I4 | exact I5 | exact I6); iterate 4 rfl)
       | (apply P_cmp (b := true); (iterate 2 rfl); (focus (first | (simp [cmpI]; done) | (simp [cmpI]; omega))); iterate 2 rfl)
       | (apply P_ar; (iterate 3 rfl); (focus omega); (focus omega); iterate 2 rfl) | (apply P_lenbs; iterate 4 rfl) | apply EL.nil
       | ((with_reducible apply EK.then_normal); apply EK.code) | (apply EC.cond_true; rfl) | (apply EC.cond_false; rfl)
       | (with_reducible first | apply EC.seq | apply EC.region | apply EC.skip | apply EC.block | apply EK.in_normal))
     refine EK.again ⟨k + 1, hlt, hall1⟩ (by dsimp only; omega) ?_
     dsimp only
     rw [hc1]
     simp only [Int.natCast_add]
     exact (Le.keep (by repeat first | exact trivial | refine ⟨rfl, ?_⟩) (by repeat first | exact List.nil_sublist _ | apply List.Sublist.cons_cons | apply List.Sublist.cons) (by simp))
    ·
     rw [show decide (0 < yb.length) = false by simp [h0], if_neg (by decide)] at hc1
     have hc0 : cmpI .gtr (yb.length : Int) 0 = some false := by
      simp only [cmpI, Option.some.injEq, decide_eq_false_iff_not]
      omega
     repeat
      (first
       | (apply P_call (hR); rfl; exact RefineL.refl _ _; (focus (intro _ _; simp [go_sem]; done)); iterate 2 rfl)
       | (apply P_cmp (b := false); (iterate 2 rfl); exact hc0; iterate 2 rfl)
       | (apply P_index (d := .tup [.v (.bool false), .bs yb, .sl 3 (dItems yx)]); (iterate 4 rfl); exact ⟨by omega, by rw [Int.toNat_natCast]; exact hd⟩; iterate 2 rfl)
       | (apply P_move; iterate 3 rfl) | (apply P_assign; iterate 3 rfl) | (apply P_field; iterate 6 rfl) | (apply P_fieldpd; iterate 7 rfl)
       | (apply P_loadpd; iterate 5 rfl) | (apply P_pick; iterate 4 rfl) | (apply P_not; iterate 3 rfl)
       | (apply P_load; rfl; (first | exact I0 | exact I1 | exact I2 | exact I3 | exact I4 | exact I5 | exact I6); iterate 4 rfl)
       | (apply P_cmp (b := true); (iterate 2 rfl); (focus (first | (simp [cmpI]; done) | (simp [cmpI]; omega))); iterate 2 rfl)
       | (apply P_ar; (iterate 3 rfl); (focus omega); (focus omega); iterate 2 rfl) | (apply P_lenbs; iterate 4 rfl) | apply EL.nil
       | ((with_reducible apply EK.then_normal); apply EK.code) | (apply EC.cond_true; rfl) | (apply EC.cond_false; rfl)
       | (with_reducible first | apply EC.seq | apply EC.region | apply EC.skip | apply EC.block | apply EK.in_normal))
     refine EK.again ⟨k + 1, hlt, hall1⟩ (by dsimp only; omega) ?_
     dsimp only
     rw [hc1]
     simp only [Int.natCast_add]
     exact (Le.keep (by repeat first | exact trivial | refine ⟨rfl, ?_⟩) (by repeat first | exact List.nil_sublist _ | apply List.Sublist.cons_cons | apply List.Sublist.cons) (by simp))
 ·
  obtain rfl : k = 16 := by omega
  have hle : ((xs.take 16).filter some1).length ≤ 16 := Nat.le_trans (List.length_filter_le _ _) (by rw [List.length_take]; omega)
  rw [hall] at hq
  rw [← hq, Bool.true_and]
  clear hq
  generalize ((xs.take 16).filter some1).length = n at hle ⊢
  generalize xs[16]'(by omega) = y at h16 ⊢
  obtain ⟨yl, yb, yx⟩ := y
  unfold dItem at h16
  unfold isL bts
  dsimp only
  cases yl with
  | true =>
   repeat
    (first
     | (apply P_index (d := .tup [.v (.bool true), .bs yb, .sl 3 (dItems yx)]); (iterate 4 rfl); exact ⟨by decide, h16⟩; iterate 2 rfl) | (apply P_move; iterate 3 rfl)
     | (apply P_assign; iterate 3 rfl) | (apply P_field; iterate 6 rfl) | (apply P_fieldpd; iterate 7 rfl) | (apply P_loadpd; iterate 5 rfl)
     | (apply P_load; rfl; (first | exact I0 | exact I1 | exact I2 | exact I3 | exact I4 | exact I5 | exact I6); iterate 4 rfl)
     | (apply P_cmp (b := false); (iterate 2 rfl); (focus (first | (simp [cmpI]; done) | (simp [cmpI]; omega))); iterate 2 rfl) | apply EL.nil
     | ((with_reducible apply EK.then_normal); apply EK.code) | (apply EC.cond_true; rfl) | (apply EC.cond_false; rfl)
     | (with_reducible first | apply EC.seq | apply EC.region | apply EC.exit | apply EC.ret | apply EK.in_same | apply EK.then_ret | apply EK.then_exit))
   exact EK.retM1s [] rfl rfl (List.nil_sublist _) ⟨rfl, rfl⟩
  | false =>
   rw [Bool.not_false, Bool.true_and]
   by_cases h0 : 0 < yb.length
   ·
    rw [if_pos h0]
    by_cases h2 : 2 ≤ n + 1
    ·
     rw [show decide (2 ≤ n + 1) = true by simp; omega]
     repeat
      (first
       | (apply P_index (d := .tup [.v (.bool false), .bs yb, .sl 3 (dItems yx)]); (iterate 4 rfl); exact ⟨by decide, h16⟩; iterate 2 rfl) | (apply P_move; iterate 3 rfl)
       | (apply P_assign; iterate 3 rfl) | (apply P_field; iterate 6 rfl) | (apply P_fieldpd; iterate 7 rfl) | (apply P_loadpd; iterate 5 rfl)
       | (apply P_load; rfl; (first | exact I0 | exact I1 | exact I2 | exact I3 | exact I4 | exact I5 | exact I6); iterate 4 rfl)
       | (apply P_cmp (b := true); (iterate 2 rfl); (focus (first | (simp [cmpI]; done) | (simp [cmpI]; omega))); iterate 2 rfl)
       | (apply P_cmp (b := false); (iterate 2 rfl); (focus (first | (simp [cmpI]; done) | (simp [cmpI]; omega))); iterate 2 rfl)
       | (apply P_ar; (iterate 3 rfl); (focus omega); (focus omega); iterate 2 rfl) | (apply P_lenbs; iterate 4 rfl) | apply EL.nil
       | ((with_reducible apply EK.then_normal); apply EK.code) | (apply EC.cond_true; rfl) | (apply EC.cond_false; rfl)
       | (with_reducible first | apply EC.seq | apply EC.region | apply EC.skip | apply EC.exit | apply EC.ret | apply EK.in_same | apply EK.then_ret | apply EK.then_exit))
     exact EK.retM1s [] rfl rfl (List.nil_sublist _) ⟨rfl, rfl⟩
    ·
     rw [show decide (2 ≤ n + 1) = false by simp; omega]
     repeat
      (first
       | (apply P_index (d := .tup [.v (.bool false), .bs yb, .sl 3 (dItems yx)]); (iterate 4 rfl); exact ⟨by decide, h16⟩; iterate 2 rfl) | (apply P_move; iterate 3 rfl)
       | (apply P_assign; iterate 3 rfl) | (apply P_field; iterate 6 rfl) | (apply P_fieldpd; iterate 7 rfl) | (apply P_loadpd; iterate 5 rfl)
       | (apply P_load; rfl; (first | exact I0 | exact I1 | exact I2 | exact I3 | exact I4 | exact I5 | exact I6); iterate 4 rfl)
       | (apply P_cmp (b := true); (iterate 2 rfl); (focus (first | (simp [cmpI]; done) | (simp [cmpI]; omega))); iterate 2 rfl)
       | (apply P_cmp (b := false); (iterate 2 rfl); (focus (first | (simp [cmpI]; done) | (simp [cmpI]; omega))); iterate 2 rfl)
       | (apply P_ar; (iterate 3 rfl); (focus omega); (focus omega); iterate 2 rfl) | (apply P_lenbs; iterate 4 rfl) | apply EL.nil
       | ((with_reducible apply EK.then_normal); apply EK.code) | (apply EC.cond_true; rfl) | (apply EC.cond_false; rfl)
       | (with_reducible first | apply EC.seq | apply EC.region | apply EC.skip | apply EC.exit | apply EC.ret | apply EK.in_same | apply EK.then_ret | apply EK.then_exit))
     exact EK.retM1s [] rfl rfl (List.nil_sublist _) ⟨rfl, rfl⟩
   ·
    rw [if_neg h0]
    have hc0 : cmpI .gtr (yb.length : Int) 0 = some false := by
     simp only [cmpI, Option.some.injEq, decide_eq_false_iff_not]
     omega
    by_cases h2 : 2 ≤ n
    ·
     rw [show decide (2 ≤ n + 0) = true by simp; omega]
     repeat
      (first
       | (apply P_cmp (b := false); (iterate 2 rfl); exact hc0; iterate 2 rfl)
       | (apply P_index (d := .tup [.v (.bool false), .bs yb, .sl 3 (dItems yx)]); (iterate 4 rfl); exact ⟨by decide, h16⟩; iterate 2 rfl) | (apply P_move; iterate 3 rfl)
       | (apply P_assign; iterate 3 rfl) | (apply P_field; iterate 6 rfl) | (apply P_fieldpd; iterate 7 rfl) | (apply P_loadpd; iterate 5 rfl)
       | (apply P_load; rfl; (first | exact I0 | exact I1 | exact I2 | exact I3 | exact I4 | exact I5 | exact I6); iterate 4 rfl)
       | (apply P_cmp (b := true); (iterate 2 rfl); (focus (first | (simp [cmpI]; done) | (simp [cmpI]; omega))); iterate 2 rfl)
       | (apply P_cmp (b := false); (iterate 2 rfl); (focus (first | (simp [cmpI]; done) | (simp [cmpI]; omega))); iterate 2 rfl) | (apply P_lenbs; iterate 4 rfl) | apply EL.nil
       | ((with_reducible apply EK.then_normal); apply EK.code) | (apply EC.cond_false; rfl)
       | (with_reducible first | apply EC.seq | apply EC.region | apply EC.skip | apply EC.exit | apply EC.ret | apply EK.in_same | apply EK.then_ret | apply EK.then_exit))
     exact EK.retM1s [] rfl rfl (List.nil_sublist _) ⟨rfl, rfl⟩
    ·
     rw [show decide (2 ≤ n + 0) = false by simp; omega]
     repeat
      (first
       | (apply P_cmp (b := false); (iterate 2 rfl); exact hc0; iterate 2 rfl)
       | (apply P_index (d := .tup [.v (.bool false), .bs yb, .sl 3 (dItems yx)]); (iterate 4 rfl); exact ⟨by decide, h16⟩; iterate 2 rfl) | (apply P_move; iterate 3 rfl)
       | (apply P_assign; iterate 3 rfl) | (apply P_field; iterate 6 rfl) | (apply P_fieldpd; iterate 7 rfl) | (apply P_loadpd; iterate 5 rfl)
       | (apply P_load; rfl; (first | exact I0 | exact I1 | exact I2 | exact I3 | exact I4 | exact I5 | exact I6); iterate 4 rfl)
       | (apply P_cmp (b := false); (iterate 2 rfl); (focus (first | (simp [cmpI]; done) | (simp [cmpI]; omega))); iterate 2 rfl) | (apply P_lenbs; iterate 4 rfl) | apply EL.nil
       | ((with_reducible apply EK.then_normal); apply EK.code) | (apply EC.cond_false; rfl)
       | (with_reducible first | apply EC.seq | apply EC.region | apply EC.skip | apply EC.exit | apply EC.ret | apply EK.in_same | apply EK.then_ret | apply EK.then_exit))
     exact EK.retM1s [] rfl rfl (List.nil_sublist _) ⟨rfl, rfl⟩
set_option maxRecDepth 20000 in
set_option maxHeartbeats 16000000 in
theorem isNode_pr (f : Nat) (b : List UInt8) (x y : Raw) (hx : isL x = false → (bts x).length ≤ 536870912) (ih : isL y = true → Fn 21 [dItem y] (· = .val (.v (.bool (isN f y))))) : Fn 21 [dItem (.mk true b [x, y])] (· = .val (.v (.bool (prB (isN f) x y)))) := by
 have hR := f_isRef y false (isN f) ih
 have hS := f_rShort y
 refine FnM.toFn ?_
 unfold prB
 obtain ⟨xl, xb, xx⟩ := x
 have hx := hx
 unfold isL bts at hx
 dsimp only at hx
 refine FnM.walk 121 Try.func21 rfl Try.ntmps21 (by simp) fun X => ?_
 cases xl with
 | true =>
  rw [show isL (.mk true xb xx) = true from rfl, Bool.not_true, Bool.false_and]
  unfold dItem dItems dItem dItems
  repeat
   (first
    | (apply P_move; iterate 3 rfl) | (apply P_assign; iterate 3 rfl) | (apply P_field; iterate 6 rfl) | (apply P_fieldpd; iterate 7 rfl)
    | (apply P_loadpd; iterate 5 rfl) | (apply P_pick; iterate 4 rfl) | (apply P_not; iterate 3 rfl)
    | (apply P_load; rfl; (first | exact I0 | exact I1 | exact I2 | exact I3 | exact I4 | exact I5 | exact I6); iterate 4 rfl) | (apply P_cmp; iterate 5 rfl)
    | (apply P_lensl; iterate 4 rfl)
    | (apply P_index; (iterate 4 rfl); (focus (first | exact ⟨by decide, rfl⟩ | (refine ⟨by omega, ?_⟩; rw [Int.toNat_natCast]; assumption))); iterate 2 rfl)
    | (apply P_box; rfl; rfl; rfl; intro _) | apply EL.nil | ((with_reducible apply EK.then_normal); apply EK.code) | (apply EC.cond_true; rfl) | (apply EC.cond_false; rfl)
    | (with_reducible first | apply EC.seq | apply EC.region | apply EC.skip | apply EC.ret | apply EK.then_ret))
  exact EK.retM1s [] rfl rfl (List.nil_sublist _) ⟨rfl, rfl⟩
 | false =>
  rw [show isL (.mk false xb xx) = false from rfl, Bool.not_false, Bool.true_and]
  rw [show bts (.mk false xb xx) = xb from rfl]
  have hP := f_rReadPath xb (hx rfl)
  unfold rpD at hP
  generalize hq : rfB (isN f) false y = q at hR ⊢
  cases hr : rdP xb with
  | none =>
   rw [hr] at hP
   dsimp only at hP ⊢
   rw [dItem, dItems, dItem, dItems, dItems]
   repeat
    (first
     | (apply P_call (hP); rfl; exact RefineL.refl _ _; (focus (intro _ _; simp [go_sem]; done)); iterate 2 rfl) | (apply P_move; iterate 3 rfl)
     | (apply P_assign; iterate 3 rfl) | (apply P_field; iterate 6 rfl) | (apply P_fieldpd; iterate 7 rfl) | (apply P_extract; iterate 4 rfl)
     | (apply P_loadpd; iterate 5 rfl) | (apply P_pick; iterate 4 rfl) | (apply P_not; iterate 3 rfl)
     | (apply P_load; rfl; (first | exact I0 | exact I1 | exact I2 | exact I3 | exact I4 | exact I5 | exact I6); iterate 4 rfl)
     | (apply P_cmp (b := false); (iterate 2 rfl); (focus (first | (simp [cmpI]; done) | (simp [cmpI]; omega))); iterate 2 rfl) | (apply P_lensl; iterate 4 rfl)
     | (apply P_index; (iterate 4 rfl); (focus (first | exact ⟨by decide, rfl⟩ | (refine ⟨by omega, ?_⟩; rw [Int.toNat_natCast]; assumption))); iterate 2 rfl)
     | (apply P_box; rfl; rfl; rfl; intro _) | apply EL.nil | ((with_reducible apply EK.then_normal); apply EK.code) | (apply EC.cond_true; rfl) | (apply EC.cond_false; rfl)
     | (with_reducible first | apply EC.seq | apply EC.region | apply EC.skip | apply EC.ret | apply EK.then_ret))
   exact EK.retM1s [] rfl rfl (List.nil_sublist _) ⟨rfl, rfl⟩
  | some pl =>
   obtain ⟨p, lf⟩ := pl
   rw [hr] at hP
   dsimp only at hP
   cases lf with
   | true =>
    clear hR hS hq
    obtain ⟨yl, yb, yx⟩ := y
    dsimp only
    rw [show isL (.mk yl yb yx) = yl from rfl, show bts (.mk yl yb yx) = yb from rfl]
    rw [dItem, dItems, dItem, dItems, dItem, dItems]
    cases yl with
    | true =>
     repeat
      (first
       | (apply P_skip; iterate 2 rfl) | (apply P_call (hP); rfl; exact RefineL.refl _ _; (focus (intro _ _; simp [go_sem]; done)); iterate 2 rfl) | (apply P_move; iterate 3 rfl)
       | (apply P_assign; iterate 3 rfl) | (apply P_field; iterate 6 rfl) | (apply P_fieldpd; iterate 7 rfl) | (apply P_extract; iterate 4 rfl)
       | (apply P_loadpd; iterate 5 rfl) | (apply P_pick; iterate 4 rfl) | (apply P_not; iterate 3 rfl)
       | (apply P_load; rfl; (first | exact I0 | exact I1 | exact I2 | exact I3 | exact I4 | exact I5 | exact I6); iterate 4 rfl)
       | (apply P_cmp (b := false); (iterate 2 rfl); (focus (first | (simp [cmpI]; done) | (simp [cmpI]; omega))); iterate 2 rfl) | (apply P_lensl; iterate 4 rfl)
       | (apply P_index; (iterate 4 rfl); (focus (first | exact ⟨by decide, rfl⟩ | (refine ⟨by omega, ?_⟩; rw [Int.toNat_natCast]; assumption))); iterate 2 rfl)
       | (apply P_box; rfl; rfl; rfl; intro _) | apply EL.nil | ((with_reducible apply EK.then_normal); apply EK.code) | (apply EC.cond_true; rfl) | (apply EC.cond_false; rfl)
       | (with_reducible first | apply EC.seq | apply EC.region | apply EC.skip | apply EC.ret | apply EK.then_ret))
     exact EK.retM1s [] rfl rfl (List.nil_sublist _) ⟨rfl, rfl⟩
    | false =>
     rw [Bool.not_false, Bool.true_and]
     by_cases h0 : 0 < yb.length
     ·
      rw [show decide (0 < yb.length) = true by simp [h0]]
      repeat
       (first
        | (apply P_call (hP); rfl; exact RefineL.refl _ _; (focus (intro _ _; simp [go_sem]; done)); iterate 2 rfl) | (apply P_move; iterate 3 rfl)
        | (apply P_assign; iterate 3 rfl) | (apply P_field; iterate 6 rfl) | (apply P_fieldpd; iterate 7 rfl) | (apply P_extract; iterate 4 rfl)
        | (apply P_loadpd; iterate 5 rfl) | (apply P_pick; iterate 4 rfl) | (apply P_not; iterate 3 rfl)
        | (apply P_load; rfl; (first | exact I0 | exact I1 | exact I2 | exact I3 | exact I4 | exact I5 | exact I6); iterate 4 rfl)
        | (apply P_cmp (b := true); (iterate 2 rfl); (focus (first | (simp [cmpI]; done) | (simp [cmpI]; omega))); iterate 2 rfl)
        | (apply P_cmp (b := false); (iterate 2 rfl); (focus (first | (simp [cmpI]; done) | (simp [cmpI]; omega))); iterate 2 rfl) | (apply P_lenbs; iterate 4 rfl)
        | (apply P_lensl; iterate 4 rfl)
        | (apply P_index; (iterate 4 rfl); (focus (first | exact ⟨by decide, rfl⟩ | (refine ⟨by omega, ?_⟩; rw [Int.toNat_natCast]; assumption))); iterate 2 rfl)
        | (apply P_box; rfl; rfl; rfl; intro _) | apply EL.nil | ((with_reducible apply EK.then_normal); apply EK.code) | (apply EC.cond_true; rfl) | (apply EC.cond_false; rfl)
        | (with_reducible first | apply EC.seq | apply EC.region | apply EC.skip | apply EC.ret | apply EK.then_ret))
      exact EK.retM1s [] rfl rfl (List.nil_sublist _) ⟨rfl, rfl⟩
     ·
      rw [show decide (0 < yb.length) = false by simp [h0]]
      have hc0 : cmpI .gtr (yb.length : Int) 0 = some false := by
       simp only [cmpI, Option.some.injEq, decide_eq_false_iff_not]
       omega
      repeat
       (first
        | (apply P_cmp (b := false); (iterate 2 rfl); exact hc0; iterate 2 rfl)
        | (apply P_call (hP); rfl; exact RefineL.refl _ _; (focus (intro _ _; simp [go_sem]; done)); iterate 2 rfl) | (apply P_move; iterate 3 rfl)
        | (apply P_assign; iterate 3 rfl) | (apply P_field; iterate 6 rfl) | (apply P_fieldpd; iterate 7 rfl) | (apply P_extract; iterate 4 rfl)
        | (apply P_loadpd; iterate 5 rfl) | (apply P_pick; iterate 4 rfl) | (apply P_not; iterate 3 rfl)
        | (apply P_load; rfl; (first | exact I0 | exact I1 | exact I2 | exact I3 | exact I4 | exact I5 | exact I6); iterate 4 rfl)
        | (apply P_cmp (b := false); (iterate 2 rfl); (focus (first | (simp [cmpI]; done) | (simp [cmpI]; omega))); iterate 2 rfl) | (apply P_lenbs; iterate 4 rfl)
        | (apply P_lensl; iterate 4 rfl)
        | (apply P_index; (iterate 4 rfl); (focus (first | exact ⟨by decide, rfl⟩ | (refine ⟨by omega, ?_⟩; rw [Int.toNat_natCast]; assumption))); iterate 2 rfl)
        | (apply P_box; rfl; rfl; rfl; intro _) | apply EL.nil | ((with_reducible apply EK.then_normal); apply EK.code) | (apply EC.cond_true; rfl) | (apply EC.cond_false; rfl)
        | (with_reducible first | apply EC.seq | apply EC.region | apply EC.skip | apply EC.ret | apply EK.then_ret))
      exact EK.retM1s [] rfl rfl (List.nil_sublist _) ⟨rfl, rfl⟩
   | false =>
    dsimp only
    generalize (isL y && decide ((its y).length = 2)) = sh at hS ⊢
    rw [dItem, dItems, dItem, dItems, dItems]
    obtain ⟨yl, yb, yx⟩ := y
    rw [dItem] at hR hS ⊢
    by_cases h0 : 0 < p.length
    ·
     rw [show decide (0 < p.length) = true by simp [h0], Bool.true_and]
     cases q with
     | false =>
      repeat
       (first
        | (apply P_skip; iterate 2 rfl) | (apply P_call (hP); rfl; exact RefineL.refl _ _; (focus (intro _ _; simp [go_sem]; done)); iterate 2 rfl)
        | (apply P_call (hR); rfl; exact RefineL.refl _ _; (focus (intro _ _; simp [go_sem]; done)); iterate 2 rfl) | (apply P_move; iterate 3 rfl)
        | (apply P_assign; iterate 3 rfl) | (apply P_field; iterate 6 rfl) | (apply P_fieldpd; iterate 7 rfl) | (apply P_extract; iterate 4 rfl)
        | (apply P_loadpd; iterate 5 rfl) | (apply P_pick; iterate 4 rfl) | (apply P_not; iterate 3 rfl)
        | (apply P_load; rfl; (first | exact I0 | exact I1 | exact I2 | exact I3 | exact I4 | exact I5 | exact I6); iterate 4 rfl)
        | (apply P_cmp (b := true); (iterate 2 rfl); (focus (first | (simp [cmpI]; done) | (simp [cmpI]; omega))); iterate 2 rfl)
        | (apply P_cmp (b := false); (iterate 2 rfl); (focus (first | (simp [cmpI]; done) | (simp [cmpI]; omega))); iterate 2 rfl) | (apply P_lenbs; iterate 4 rfl)
        | (apply P_lensl; iterate 4 rfl)
        | (apply P_index; (iterate 4 rfl); (focus (first | exact ⟨by decide, rfl⟩ | (refine ⟨by omega, ?_⟩; rw [Int.toNat_natCast]; assumption))); iterate 2 rfl)
        | (apply P_box; rfl; rfl; rfl; intro _) | apply EL.nil | ((with_reducible apply EK.then_normal); apply EK.code) | (apply EC.cond_false; rfl)
        | (with_reducible first | apply EC.seq | apply EC.region | apply EC.skip | apply EC.ret))
      exact EK.retM1s [] rfl rfl (List.nil_sublist _) ⟨rfl, rfl⟩
     | true =>
      rw [Bool.true_and]
      repeat
       (first
        | (apply P_call (hP); rfl; exact RefineL.refl _ _; (focus (intro _ _; simp [go_sem]; done)); iterate 2 rfl)
        | (apply P_call (hR); rfl; exact RefineL.refl _ _; (focus (intro _ _; simp [go_sem]; done)); iterate 2 rfl)
        | (apply P_call (hS); rfl; exact RefineL.refl _ _; (focus (intro _ _; simp [go_sem]; done)); iterate 2 rfl) | (apply P_move; iterate 3 rfl)
        | (apply P_assign; iterate 3 rfl) | (apply P_field; iterate 6 rfl) | (apply P_fieldpd; iterate 7 rfl) | (apply P_extract; iterate 4 rfl)
        | (apply P_loadpd; iterate 5 rfl) | (apply P_pick; iterate 4 rfl) | (apply P_not; iterate 3 rfl)
        | (apply P_load; rfl; (first | exact I0 | exact I1 | exact I2 | exact I3 | exact I4 | exact I5 | exact I6); iterate 4 rfl)
        | (apply P_cmp (b := true); (iterate 2 rfl); (focus (first | (simp [cmpI]; done) | (simp [cmpI]; omega))); iterate 2 rfl)
        | (apply P_cmp (b := false); (iterate 2 rfl); (focus (first | (simp [cmpI]; done) | (simp [cmpI]; omega))); iterate 2 rfl) | (apply P_lenbs; iterate 4 rfl)
        | (apply P_lensl; iterate 4 rfl)
        | (apply P_index; (iterate 4 rfl); (focus (first | exact ⟨by decide, rfl⟩ | (refine ⟨by omega, ?_⟩; rw [Int.toNat_natCast]; assumption))); iterate 2 rfl)
        | (apply P_box; rfl; rfl; rfl; intro _) | apply EL.nil | ((with_reducible apply EK.then_normal); apply EK.code) | (apply EC.cond_false; rfl)
        | (with_reducible first | apply EC.seq | apply EC.region | apply EC.skip | apply EC.ret))
      exact EK.retM1s [] rfl rfl (List.nil_sublist _) ⟨rfl, rfl⟩
    ·
     rw [show decide (0 < p.length) = false by simp [h0], Bool.false_and, Bool.false_and]
     have hc0 : cmpI .gtr (p.length : Int) 0 = some false := by
      simp only [cmpI, Option.some.injEq, decide_eq_false_iff_not]
      omega
     repeat
      (first
       | (apply P_skip; iterate 2 rfl) | (apply P_cmp (b := false); (iterate 2 rfl); exact hc0; iterate 2 rfl)
       | (apply P_call (hP); rfl; exact RefineL.refl _ _; (focus (intro _ _; simp [go_sem]; done)); iterate 2 rfl)
       | (apply P_call (hR); rfl; exact RefineL.refl _ _; (focus (intro _ _; simp [go_sem]; done)); iterate 2 rfl) | (apply P_move; iterate 3 rfl)
       | (apply P_assign; iterate 3 rfl) | (apply P_field; iterate 6 rfl) | (apply P_fieldpd; iterate 7 rfl) | (apply P_extract; iterate 4 rfl)
       | (apply P_loadpd; iterate 5 rfl) | (apply P_pick; iterate 4 rfl) | (apply P_not; iterate 3 rfl)
       | (apply P_load; rfl; (first | exact I0 | exact I1 | exact I2 | exact I3 | exact I4 | exact I5 | exact I6); iterate 4 rfl)
       | (apply P_cmp (b := false); (iterate 2 rfl); (focus (first | (simp [cmpI]; done) | (simp [cmpI]; omega))); iterate 2 rfl) | (apply P_lenbs; iterate 4 rfl)
       | (apply P_lensl; iterate 4 rfl)
       | (apply P_index; (iterate 4 rfl); (focus (first | exact ⟨by decide, rfl⟩ | (refine ⟨by omega, ?_⟩; rw [Int.toNat_natCast]; assumption))); iterate 2 rfl)
       | (apply P_box; rfl; rfl; rfl; intro _) | apply EL.nil | ((with_reducible apply EK.then_normal); apply EK.code) | (apply EC.cond_false; rfl)
       | (with_reducible first | apply EC.seq | apply EC.region | apply EC.skip | apply EC.ret))
     exact EK.retM1s [] rfl rfl (List.nil_sublist _) ⟨rfl, rfl⟩
set_option maxRecDepth 20000 in
set_option maxHeartbeats 8000000 in
theorem f_isNode : ∀ (f : Nat) (x : Raw), dep x < f → (Rlp.E x).length ≤ 16777225 → Fn 21 [dItem x] (· = .val (.v (.bool (isN f x))))
 | 0, x, h, _ => absurd h (Nat.not_lt_zero _)
 | f + 1, .mk false b xs, _, _ => by
  rw [isN, dItem]
  refine FnM.toFn ?_
  refine FnM.walk 121 Try.func21 rfl Try.ntmps21 (by simp) fun X => ?_
  repeat
   (first
    | (apply P_assign; iterate 3 rfl) | (apply P_field; iterate 6 rfl) | (apply P_not; iterate 3 rfl)
    | (apply P_load; rfl; (first | exact I0 | exact I1 | exact I2 | exact I3 | exact I4 | exact I5 | exact I6); iterate 4 rfl) | (apply P_box; rfl; rfl; rfl; intro _)
    | apply EL.nil | ((with_reducible apply EK.then_normal); apply EK.code) | (apply EC.cond_true; rfl) | (with_reducible first | apply EC.seq | apply EC.region | apply EC.ret | apply EK.then_ret))
  exact EK.retM1s [] rfl rfl (List.nil_sublist _) ⟨rfl, rfl⟩
 | f + 1, .mk true b xs, h, hE => by
  have ih : ∀ y ∈ xs, isL y = true → Fn 21 [dItem y] (· = .val (.v (.bool (isN f y)))) := fun y hy _ => f_isNode f y (by have := dep_mem hy; rw [dep] at h; omega) (Nat.le_trans (E_kid hy) hE)
  have hlx : ∀ y ∈ xs, isL y = false → (bts y).length ≤ 536870912 := fun y hy hl => by
   have h1 := E_kid (b := b) hy
   obtain ⟨yl, yb, yx⟩ := y
   obtain rfl : yl = false := hl
   rw [Rlp.E] at h1
   have := EB_ge yb
   show yb.length ≤ _
   omega
  rw [isN]
  by_cases h17 : xs.length = 17
  ·
   rw [if_pos h17]
   exact isNode_br f b xs h17 ih
  ·
   rw [if_neg h17]
   by_cases h2 : xs.length = 2
   ·
    rw [if_pos h2]
    match xs, h2 with
    | [x, y], _ => exact isNode_pr f b x y (hlx x List.mem_cons_self) (ih y (List.mem_cons_of_mem _ List.mem_cons_self))
   ·
    rw [if_neg h2]
    have hml : (dItems xs).length = xs.length := by rw [dItems_map, List.length_map]
    rw [dItem]
    refine FnM.toFn ?_
    refine FnM.walk 121 Try.func21 rfl Try.ntmps21 (by simp) fun X => ?_
    repeat
     (first
      | (apply P_skip; iterate 2 rfl) | (apply P_move; iterate 3 rfl) | (apply P_assign; iterate 3 rfl) | (apply P_field; iterate 6 rfl) | (apply P_pick; iterate 4 rfl)
      | (apply P_not; iterate 3 rfl) | (apply P_load; rfl; (first | exact I0 | exact I1 | exact I2 | exact I3 | exact I4 | exact I5 | exact I6); iterate 4 rfl)
      | (apply P_cmp (b := true); (iterate 2 rfl); (focus (first | (simp [cmpI]; done) | (simp [cmpI]; omega))); iterate 2 rfl)
      | (apply P_cmp (b := false); (iterate 2 rfl); (focus (first | (simp [cmpI]; done) | (simp [cmpI]; omega))); iterate 2 rfl) | (apply P_lensl; iterate 4 rfl)
      | (apply P_box; rfl; rfl; rfl; intro _) | apply EL.nil | ((with_reducible apply EK.then_normal); apply EK.code) | (apply EC.cond_true; rfl) | (apply EC.cond_false; rfl)
      | (with_reducible first | apply EC.seq | apply EC.region | apply EC.skip | apply EC.ret | apply EK.then_ret))
    exact EK.retM1s [] rfl rfl (List.nil_sublist _) ⟨rfl, rfl⟩
end E
end Go.Proofs.Ytiledgojbpmoiaa
/-
 bytes.Compare: the order of bytes.
 Conditions: none.
-/
namespace Go.Proofs.Ytiledgojbpmoiaa
set_option linter.unusedVariables false
open Go.RowKit Mono
abbrev cmpB (l m : List UInt8) : Int := Lib.compareBytes l m
theorem less_cmp : ∀ a b : List UInt8, Op.bytesLess a b = decide (cmpB a b < 0)
 | [], [] => rfl
 | _ :: _, [] => rfl
 | [], _ :: _ => rfl
 | a :: x, b :: y => by
  rw [Op.bytesLess, cmpB, Lib.compareBytes, less_cmp x y]
  by_cases h1 : a < b
  · simp [h1]
  ·
   by_cases h2 : b < a
   ·
    have h3 : ¬ a = b := fun e => by subst e; exact h1 h2
    simp [h1, h2, h3]
   ·
    have h3 : a = b := by
     apply UInt8.toNat_inj.1
     have := UInt8.not_lt.1 h1
     have := UInt8.not_lt.1 h2
     exact Nat.le_antisymm (UInt8.le_iff_toNat_le.1 (UInt8.not_lt.1 h2)) (UInt8.le_iff_toNat_le.1 (UInt8.not_lt.1 h1))
    subst h3
    simp [h1]
theorem run_bytesOf {w : World} {v : Value} {l : List UInt8} (h : IsB w v l) : (Extern.Bytes.bytesOf v).run Try.prog w = .ok (bs l) w := by
 obtain ⟨A, c, rfl, h1, h2, hr⟩ := h
 cases A with
 | none =>
  have : l = [] := by
   by_cases hl : bvs l = []
   · simpa [bvs] using hl
   ·
    obtain ⟨b, o, e, _⟩ := hr hl
    cases e
  subst this
  rfl
 | some ad =>
  have := Lib.run_loadBytesX (P := Try.prog) (w := w) (l.map fun x => (x.toNat : Int)) ad .empty fun j x hx => by
   rw [List.getElem?_map] at hx
   obtain ⟨y, hy, rfl⟩ := Option.map_eq_some_iff.1 hx
   obtain ⟨b, o, e, _, hc⟩ := hr (fun e => by have := congrArg List.length e; rw [bvs_length] at this; simp at this; rw [this] at hy; simp at hy)
   injection e with e
   subst e
   rw [add_none]
   exact hc j _ (by simp [bvs, bv, hy])
  rw [List.length_map] at this
  show (Extern.Bytes.loadBytes ad l.length .empty).run Try.prog w = _
  rw [this]
  have h2 : Lib.bytesOf (l.map fun x => (x.toNat : Int)) = l := by
   simp only [Lib.bytesOf, List.map_map]
   refine (List.map_congr_left fun x _ => ?_).trans (List.map_id l)
   simp
  rw [h2]
  simp [bs]
theorem run_compare {w : World} {v u : Value} {l m : List UInt8} (h1 : IsB w v l) (h2 : IsB w u m) : (Extern.BytealgCompare.compare #[v, u]).run Try.prog w = .ok (.int .i64 (cmpB l m)) w := by
 change Sem.run Try.prog (do pure (goInt (Extern.BytealgCompare.cmp (← Extern.Bytes.bytesOf v) (← Extern.Bytes.bytesOf u)))) w = _
 simp only [Sem.run_bind, run_bytesOf h1, run_bytesOf h2, Result.andThen_ok, Sem.run_pure, Lib.cmp_eq]
 rfl
set_option maxRecDepth 20000 in
set_option maxHeartbeats 1000000 in
theorem bytes_CompareW (v u : Value) (l m : List UInt8) (w : World) (h1 : IsB w v l) (h2 : IsB w u m) : Calls Try.prog 56 #[v, u] w fun e w' => e = .returned (.int .i64 (cmpB l m)) ∧ w' = w := by
 have hr := run_compare h1 h2
 go_enter Try.func56, Try.ntmps56
 go_wp2_with fail
 rw [run_callFunc_extern Try.func75 (by kernel_rfl) (by kernel_rfl) (by kernel_rfl) (e := Extern.BytealgCompare.compare) (by kernel_rfl), hr]
 simp only [Result.andThen]
 rw [Oper.upon_value]
 go_wp2_with fail
 exact bodyPost_ret (results_tmp rfl _ _ _) rfl ⟨rfl, rfl⟩
theorem bl_iff (a b : List UInt8) : Op.bytesLess a b = decide (a < b) := Go.Proofs.bytesLess_eq a b
theorem cmpB_lt (a b : List UInt8) : decide (cmpB a b < 0) = decide (a < b) := by rw [← less_cmp, bl_iff]
end Go.Proofs.Ytiledgojbpmoiaa
/-
 slices.SortFunc at rows of anything, by a key of bytes: a permutation in the keys' order.
 Conditions: none.
-/
namespace Go.Proofs.Ytiledgojbpmoiaa
set_option linter.unusedVariables false
open Go.RowKit Mono Rlp Go.Sort
namespace E
theorem heap_rowT {w : World} {g n : Nat} {os : Array Go.Obj} {cur : Array Value} {e : TypeId} {fr : Nat × Nat} (F : Array Value) (hb : w.heap[g]? = some (.cells cur e fr)) :
  (grow (putRow id (Sort.ahead w n) g 0 F) os).heap[g]? = some (.cells (putCells id 0 F cur) e fr) := by
 have hg : g < w.heap.size := (Array.getElem?_eq_some_iff.1 hb).1
 rw [heap_grow_old _ _ (by simpa using hg)]
 simp [putRow, mapBlock, Sort.ahead, Array.getElem?_modify, hb, onCells]
theorem grown_rowT {w : World} {g n : Nat} {os : Array Go.Obj} (F : Array Value) : w.grownBy (grow (putRow id (Sort.ahead w n) g 0 F) os) (some g) := by
 refine ⟨rfl, rfl, rfl, by simp, fun k hk hne => ?_⟩
 rw [heap_grow_old _ _ (by simpa using hk)]
 have : g ≠ k := fun e => hne (by rw [e])
 simp [putRow, mapBlock, Sort.ahead, Array.getElem?_modify, this]
theorem take_rowT (cur F : Array Value) (h : F.size ≤ cur.size) : (putCells id 0 F cur).toList.take F.size = F.toList := by
 apply List.ext_getElem?
 intro j
 by_cases hj : j < F.size
 ·
  rw [List.getElem?_take_of_lt hj, Array.getElem?_toList]
  simp [putCells, hj, show j < cur.size by omega]
 · rw [List.getElem?_take_eq_none (by omega), List.getElem?_eq_none (by simp; omega)]
abbrev El {κ : Type} (dk : κ → D) (ok : Nat → Prop) (w : World) := {x : List Value × κ // Reads ok w (dk x.2) x.1}
theorem els {κ : Type} {dk : κ → D} {ok : Nat → Prop} {w : World} {z : Nat} : ∀ (ks : List κ) (rows : List (List Value)), ReadsRows ok w z (ks.map dk) rows → ∃ es : List (El dk ok w), es.map (·.1.1) = rows ∧ es.map (·.1.2) = ks
 | [], rows, h => by
  rw [List.map_nil, ReadsRows] at h
  exact ⟨[], h.symm, rfl⟩
 | k :: ks, rows, h => by
  rw [List.map_cons, ReadsRows] at h
  obtain ⟨r, rest, rfl, _, h2, h3⟩ := h
  obtain ⟨es, e1, e2⟩ := els ks rest h3
  exact ⟨⟨(r, k), h2⟩ :: es, by rw [List.map_cons, e1], by rw [List.map_cons, e2]⟩
theorem els_back {κ : Type} {dk : κ → D} {ok ok' : Nat → Prop} {w w' : World} {z : Nat} (hz : ∀ x, (dk x).size = z) (hm : ∀ d cs, Reads ok w d cs → Reads ok' w' d cs) : ∀ es : List (El dk ok w), ReadsRows ok' w' z ((es.map (·.1.2)).map dk) (es.map (·.1.1))
 | [] => by rw [List.map_nil, List.map_nil, List.map_nil, ReadsRows]
 | e :: es => by
  rw [List.map_cons, List.map_cons, List.map_cons, ReadsRows]
  exact ⟨_, _, rfl, (Reads.len _ _ e.2).trans (hz _), hm _ _ e.2, els_back hz hm es⟩
theorem flat_atE {α : Type} [Inhabited α] {enc : α → List Value} {n : Nat} (hn : 0 < n) (hk : ∀ x, (enc x).length = n) : ∀ (ks : List α) (t : Nat), t < ks.length * n → (ks.map enc).flatten[t]? = some ((enc (ks[t / n]!))[t % n]!)
 | [], t, h => by simp at h
 | k :: ks, t, h => by
  rw [List.map_cons, List.flatten_cons]
  by_cases ht : t < n
  ·
   rw [List.getElem?_append_left (by rw [hk]; omega), Nat.div_eq_of_lt ht, Nat.mod_eq_of_lt ht]
   simp [hk, ht]
  ·
   rw [List.getElem?_append_right (by rw [hk]; omega), hk, flat_atE hn hk ks (t - n) (by simp [Nat.add_mul] at h; omega)]
   have h1 : t / n = (t - n) / n + 1 := by
    conv => lhs; rw [show t = t - n + n by omega, Nat.add_div_right _ hn]
   have h2 : t % n = (t - n) % n := by
    conv => lhs; rw [show t = t - n + n by omega, Nat.add_mod_right]
   rw [h1, h2]
   simp
theorem flatE_list {α : Type} [Inhabited α] {enc : α → List Value} {n : Nat} (hn : 0 < n) (hk : ∀ x, (enc x).length = n) (ks : List α) : (flatK enc n ks.toArray).toList = (ks.map enc).flatten := by
 have hl : (ks.map enc).flatten.length = ks.length * n := by
  have : ∀ ks : List α, (ks.map enc).flatten.length = ks.length * n := fun ks => by
   induction ks with
   | nil => simp
   | cons k ks ih => rw [List.map_cons, List.flatten_cons, List.length_append, ih, hk, List.length_cons, Nat.add_mul, Nat.one_mul, Nat.add_comm]
  exact this ks
 refine List.ext_getElem? fun t => ?_
 by_cases ht : t < ks.length * n
 ·
  rw [flat_atE hn hk ks t ht, Array.getElem?_toList]
  have hs : t < (flatK enc n ks.toArray).size := by simpa using ht
  have := get_flatK enc n ks.toArray t (by simpa using ht)
  rw [getElem!_pos _ t hs] at this
  rw [Array.getElem?_eq_getElem hs, this]
  simp
 · rw [List.getElem?_eq_none (by simp; omega), List.getElem?_eq_none (by omega)]
theorem swoE {α : Type} (key : α → List UInt8) : SWO (Go.Proofs.ltOf fun x y : α => cmpB (key x) (key y)) := by
 have h : ∀ x y : α, Go.Proofs.ltOf (fun x y : α => cmpB (key x) (key y)) x y = decide (key x < key y) := fun x y => cmpB_lt (key x) (key y)
 refine ⟨fun x => ?_, fun x y z h1 h2 => ?_, fun x y z h1 h2 => ?_⟩
 ·
  rw [h]
  simp [List.lt_irrefl]
 ·
  rw [h] at h1 h2 ⊢
  simp only [decide_eq_true_eq] at h1 h2 ⊢
  exact List.lt_trans h1 h2
 ·
  rw [h] at h1 h2 ⊢
  simp only [decide_eq_false_iff_not, List.not_lt] at h1 h2 ⊢
  exact List.le_trans h2 h1
theorem sort_gen {κ : Type} {ρ : Go.Shelf.Ren} (L : SlLaysF0.n6 Try.prog ρ) (T z : Nat) (hz : 0 < z) (aE : ∀ w, (isAgg (ρ.t 24)).run Try.prog w = .ok true w) (zE : ∀ w, (Go.sizeOf (ρ.t 24)).run Try.prog w = .ok z w)
  (dk : κ → D) (hag : ∀ x, (dk x).agg = true) (hsz : ∀ x, (dk x).size = z) (key : κ → List UInt8) (x0 : κ) (cs0 : List Value) (hx0 : ∀ ok w, Reads ok w (dk x0) cs0) (cf : FuncId)
  (hc : ∀ (ok : Nat → Prop) (w : World), (∀ b, ok b → b < w.heap.size) → ∀ x y v u, ReadV ok w (dk x) v → ReadV ok w (dk y) u → Calls Try.prog cf #[v, u] w fun e w' => e = .returned (.int .i64 (cmpB (key x) (key y))) ∧ ∃ q os', w' = grow (w.drewN q) os')
  (ec : ∀ args w, (callFunc cf args).run Try.prog w = .ok (.enter cf args) w) (v : Value) (ks : List κ) (hl : ks.length < 4611686018427387904) :
  FnM (ρ.f 6) [.v v, .v (.func (.func cf) #[] #[])] [.row v T z (ks.map dk)] (fun r os' => r = .tpl [] ∧ ∃ ks' : List κ, ks'.Perm ks ∧ ks'.Pairwise (fun x y => key x ≤ key y) ∧ os' = [.row v T z (ks'.map dk)]) := by
 constructor
 intro ok w xs hok hown hr
 obtain ⟨x1, _, rfl, hx1, x2, _, rfl, hx2, rfl⟩ := hr
 obtain rfl := (readV_v.1 hx1).2
 obtain rfl := (readV_v.1 hx2).2
 obtain ⟨rows, ⟨hrow, hbase⟩, hrows⟩ := hown.at_ _ (List.mem_cons_self ..)
 rw [List.length_map] at hrow
 rcases hrow.2 with ⟨rfl, h0⟩ | ⟨g, cap, cur, rfl, _, hgb, r1, r2, r3, r4⟩
 ·
  obtain rfl : ks = [] := List.eq_nil_of_length_eq_zero h0
  rw [List.map_nil] at hrows
  refine (AnyF.slices_SortFunc_none L none 0 (.func (.func cf) #[] #[]) w).mono ?_
  rintro e w' ⟨rfl, rfl⟩
  refine ⟨_, .tpl [], _, rfl, ⟨rfl, [], .nil, .nil, rfl⟩, ⟨.refl _, hown.apart, fun o ho => ?_⟩, [], rfl, rfl⟩
  obtain rfl := List.mem_singleton.1 ho
  exact ⟨[], ⟨⟨by simp, .inl ⟨rfl, rfl⟩⟩, fun b hb => by cases hb⟩, by rw [List.map_nil, ReadsRows]⟩
 ·
  have hlt := (Array.getElem?_eq_some_iff.1 hgb).1
  have hng : ∀ b, ok b → b ≠ g := fun b hb e => hown.off b ⟨_, List.mem_cons_self .., by rw [e]; rfl⟩ hb
  obtain ⟨es, rfl, rfl⟩ := els ks rows hrows
  letI : Inhabited (El dk ok w) := ⟨⟨(cs0, x0), hx0 ok w⟩⟩
  have hk : ∀ x : El dk ok w, x.1.1.length = z := fun x => (Reads.len _ _ x.2).trans (hsz _)
  have hone : ∀ x : El dk ok w, ∀ u ∈ x.1.1, u.oneCell' = true := fun x => Reads.one _ _ x.2
  rw [List.length_map] at hl
  simp only [List.length_map] at r1 r3 r4 hrow
  have hH : HoldsK (fun x : El dk ok w => x.1.1) z w g 0 es.toArray := fun j hj => by
   have hj' : j < es.length * z := by simpa using hj
   have h1 : (cur.toList.take (es.length * z))[j]? = (es.map fun x : El dk ok w => x.1.1).flatten[j]? := by rw [r4]
   rw [List.getElem?_take_of_lt hj', ← flatE_list hz hk] at h1
   refine ⟨?_, by simp [World.frozen?, hgb]⟩
   rw [cell_of_row w g (0 + j) cur T (0, 0) hgb, Nat.zero_add, ← Array.getElem?_toList, h1, Array.getElem?_toList, Array.getElem?_eq_getElem hj, getElem!_pos _ j hj]
   rfl
  have hkeep : ∀ (n : Nat) (F : Array Value) (os : Array Go.Obj) (b : Nat), ok b → (grow (putRow id (Sort.ahead w n) g 0 F) os).heap[b]? = w.heap[b]? := fun n F os b hb => (grown_rowT (w := w) (g := g) (n := n) (os := os) F).block b (hok b hb) fun e => hng b hb (Option.some.inj e)
  have hcmp : CmpLays Try.prog cf #[] (fun x : El dk ok w => x.1.1) z (fun x y : El dk ok w => cmpB (key x.1.2) (key y.1.2)) g 0 es.toArray.size w := fun m os dk' hs x y => by
   have hm : ∀ d cs, Reads ok w d cs → Reads ok (sortWorldK (fun x : El dk ok w => x.1.1) z w g 0 m dk' os) d cs := fun d cs h => Reads.mono (fun _ h => h) (fun p hp => World.cell?_of_block (hkeep m _ os p.block hp)) d cs h
   refine (hc ok _ (fun b hb => Nat.lt_of_lt_of_le (hok b hb) (size_sortWorldK_c _ _ _ _ _ _ _ _)) x.1.2 y.1.2 _ _ ((readV_agg (hag _)).2 ⟨_, hm _ _ x.2, rfl⟩) ((readV_agg (hag _)).2 ⟨_, hm _ _ y.2, rfl⟩)).mono ?_
   rintro e w' ⟨rfl, h⟩
   exact ⟨rfl, h⟩
  have hsort := AnyQ.slices_SortFunc L z aE zE (fun x : El dk ok w => x.1.1) hk hone (fun x y : El dk ok w => cmpB (key x.1.2) (key y.1.2)) (swoE fun x : El dk ok w => key x.1.2) cf #[] g 0 cap es.toArray w ec hcmp hH hlt (by simpa using hl)
  have hl0 : (es.map fun x : El dk ok w => x.1.2).length = es.toArray.size := by simp
  rw [hl0]
  refine hsort.mono ?_
  rintro e w' ⟨rfl, d', n, os, hP, hS, rfl⟩
  have hd : d'.toList.Perm es := by
   obtain ⟨hs, _, hp⟩ := hP
   rw [show es.toArray.size = d'.size from hs.symm, Array.extract_size, hs, Array.extract_size] at hp
   simpa using hp
  have hdl : d'.toList.length = es.length := hd.length_eq
  have hsorted : (d'.toList.map fun x : El dk ok w => x.1.2).Pairwise fun x y => key x ≤ key y := by
   rw [List.pairwise_map, List.pairwise_iff_getElem]
   intro i j hi hj hij
   have := hS i j (Nat.zero_le _) hij (by simpa [hdl] using hj)
   have hi' : i < d'.size := by simpa using hi
   have hj' : j < d'.size := by simpa using hj
   rw [getElem!_pos d' j hj', getElem!_pos d' i hi', show ltOf (fun x y : El dk ok w => cmpB (key x.1.2) (key y.1.2)) d'[j] d'[i] = decide (key d'[j].1.2 < key d'[i].1.2) from cmpB_lt _ _] at this
   simpa using this
  have hg := grown_rowT (w := w) (g := g) (n := n) (os := os) (flatK (fun x : El dk ok w => x.1.1) z d')
  have hh := heap_rowT (n := n) (os := os) (flatK (fun x : El dk ok w => x.1.1) z d') hgb
  have hF : (flatK (fun x : El dk ok w => x.1.1) z d').size = es.length * z := by rw [size_flatK]; rw [show d'.size = es.length by simpa using hdl]
  have htk := take_rowT cur (flatK (fun x : El dk ok w => x.1.1) z d') (by rw [hF, r3]; exact Nat.mul_le_mul_right _ r1)
  have hfl : (flatK (fun x : El dk ok w => x.1.1) z d').toList = (d'.toList.map fun x : El dk ok w => x.1.1).flatten := by rw [← flatE_list hz hk d'.toList]
  rw [hF, hfl] at htk
  refine ⟨_, .tpl [], _, rfl, ⟨rfl, d'.toList.map fun x : El dk ok w => x.1.2, hd.map _, hsorted, rfl⟩, ⟨⟨hg.os, hg.tape, hg.output, hg.size, fun k hk hn => hg.block k hk fun e => hn ?_⟩, .cons (fun _ h => by simp at h) .nil, fun o ho => ?_⟩, [], rfl, rfl⟩
  ·
   cases e
   exact ⟨_, List.mem_cons_self .., rfl⟩
  ·
   obtain rfl := List.mem_singleton.1 ho
   have hlen : ((d'.toList.map fun x : El dk ok w => x.1.2).map dk).length = es.length := by simp [← hdl]
   have hrd : ReadsRows (okM ok [.row (.slice (some ⟨g, 0, none⟩) es.toArray.size cap) T z ((es.map fun x : El dk ok w => x.1.2).map dk)] w [.row (.slice (some ⟨g, 0, none⟩) es.toArray.size cap) T z ((d'.toList.map fun x : El dk ok w => x.1.2).map dk)] (sortWorldK (fun x : El dk ok w => x.1.1) z w g 0 n d' os)) (sortWorldK (fun x : El dk ok w => x.1.1) z w g 0 n d' os) z ((d'.toList.map fun x : El dk ok w => x.1.2).map dk) (d'.toList.map fun x : El dk ok w => x.1.1) :=
    els_back hsz (fun d cs h => Reads.mono (fun b hb => ⟨.inl hb, Nat.lt_of_lt_of_le (hok b hb) hg.size, fun o ho => by
     obtain rfl := List.mem_singleton.1 ho
     intro e
     cases e
     exact hng _ hb rfl⟩) (fun p hp => World.cell?_of_block (hkeep n _ os p.block hp)) d cs h) d'.toList
   refine ⟨d'.toList.map fun x : El dk ok w => x.1.1, ⟨⟨?_, .inr ⟨g, cap, _, ?_, Nat.zero_le _, hh, ?_, r2, ?_, ?_⟩⟩, fun b hb => .inl ⟨_, List.mem_cons_self .., hb⟩⟩, hrd⟩
   · rw [← hfl, Array.length_toList, hF, hlen]
   ·
    rw [hlen]
    rfl
   ·
    rw [hlen]
    exact r1
   · simp [putCells, r3]
   ·
    rw [hlen]
    exact htk
end E
end Go.Proofs.Ytiledgojbpmoiaa
/-
 The laying of slices.SortFunc, printed by the shelf's own tool.
 Conditions: none.
-/
namespace Go.Proofs.Ytiledgojbpmoiaa
open Go.Shelf
def sortPair_ren : Go.Shelf.Ren := ⟨fun | 6 => 54 | 15 => 74 | 14 => 73 | 28 => 88 | 29 => 89 | 20 => 80 | 21 => 81 | 22 => 82 | 23 => 83 | 24 => 84 | 25 => 85 | 26 => 86 | 27 => 87 | 46 => 92 | 47 => 93 | 48 => 94 | 49 => 95 | 50 => 96 | 57 => 100 | n => n, fun | 22 => 92 | 24 => 118 | 25 => 120 | 3 => 3 | 39 => 64 | 0 => 0 | 53 => 150 | 55 => 65 | 4 => 4 | 46 => 144 | 45 => 143 | 50 => 123 | 5 => 5 | 9 => 9 | 66 => 154 | 70 => 158 | 76 => 163 | 77 => 164 | n => n, fun | n => n⟩
theorem sortPair : Go.Proofs.SlLaysF0.n6 Try.prog sortPair_ren := {
 mixed := by kernel_rfl
 f6 := ⟨Try.f54.name, by decide, Try.func54.trans (congrArg some (by kernel_rfl))⟩
 f14 := ⟨Try.f73.name, by decide, Try.func73.trans (congrArg some (by kernel_rfl))⟩
 f15 := Try.func74.trans (congrArg some (by kernel_rfl))
 f20 := ⟨Try.f80.name, by decide, Try.func80.trans (congrArg some (by kernel_rfl))⟩
 f21 := ⟨Try.f81.name, by decide, Try.func81.trans (congrArg some (by kernel_rfl))⟩
 f22 := ⟨Try.f82.name, by decide, Try.func82.trans (congrArg some (by kernel_rfl))⟩
 f23 := ⟨Try.f83.name, by decide, Try.func83.trans (congrArg some (by kernel_rfl))⟩
 f24 := ⟨Try.f84.name, by decide, Try.func84.trans (congrArg some (by kernel_rfl))⟩
 f25 := ⟨Try.f85.name, by decide, Try.func85.trans (congrArg some (by kernel_rfl))⟩
 f26 := ⟨Try.f86.name, by decide, Try.func86.trans (congrArg some (by kernel_rfl))⟩
 f27 := ⟨Try.f87.name, by decide, Try.func87.trans (congrArg some (by kernel_rfl))⟩
 f28 := Try.func88.trans (congrArg some (by kernel_rfl))
 f29 := Try.func89.trans (congrArg some (by kernel_rfl))
 f46 := ⟨Try.f92.name, by decide, Try.func92.trans (congrArg some (by kernel_rfl))⟩
 f47 := Try.func93.trans (congrArg some (by kernel_rfl))
 f48 := Try.func94.trans (congrArg some (by kernel_rfl))
 f49 := ⟨Try.f95.name, by decide, Try.func95.trans (congrArg some (by kernel_rfl))⟩
 f50 := ⟨Try.f96.name, by decide, Try.func96.trans (congrArg some (by kernel_rfl))⟩
 f57 := ⟨Try.f100.name, by decide, Try.func100.trans (congrArg some (by kernel_rfl))⟩
 t0 := Try.underlying0
 a0 := Try.isAgg0
 z0 := Try.sizeOf0
 v0 := Try.zeroValue0
 t3 := Try.underlying3
 a3 := Try.isAgg3
 z3 := Try.sizeOf3
 v3 := Try.zeroValue3
 t4 := Try.underlying4
 a4 := Try.isAgg4
 z4 := Try.sizeOf4
 v4 := Try.zeroValue4
 t5 := Try.underlying5
 a5 := Try.isAgg5
 z5 := Try.sizeOf5
 v5 := Try.zeroValue5
 t9 := Try.underlying9
 a9 := Try.isAgg9
 z9 := Try.sizeOf9
 v9 := Try.zeroValue9
 t22 := Try.underlying92
 a22 := Try.isAgg92
 z22 := Try.sizeOf92
 v22 := Try.zeroValue92
 t25 := Try.underlying120
 a25 := Try.isAgg120
 z25 := Try.sizeOf120
 v25 := Try.zeroValue120
 t39 := Try.underlying64
 a39 := Try.isAgg64
 z39 := Try.sizeOf64
 v39 := Try.zeroValue64
 t45 := Try.underlying143
 a45 := Try.isAgg143
 z45 := Try.sizeOf143
 v45 := Try.zeroValue143
 t46 := Try.underlying144
 a46 := Try.isAgg144
 z46 := Try.sizeOf144
 v46 := Try.zeroValue144
 t50 := Try.underlying123
 a50 := Try.isAgg123
 z50 := Try.sizeOf123
 v50 := Try.zeroValue123
 t53 := Try.underlying150
 a53 := Try.isAgg150
 z53 := Try.sizeOf150
 v53 := Try.zeroValue150
 t55 := Try.underlying65
 a55 := Try.isAgg65
 z55 := Try.sizeOf65
 v55 := Try.zeroValue65
 t66 := Try.underlying154
 a66 := Try.isAgg154
 z66 := Try.sizeOf154
 v66 := Try.zeroValue154
 t70 := Try.underlying158
 a70 := Try.isAgg158
 z70 := Try.sizeOf158
 v70 := Try.zeroValue158
 t76 := Try.underlying163
 a76 := Try.isAgg163
 z76 := Try.sizeOf163
 v76 := Try.zeroValue163
 t77 := Try.underlying164
 a77 := Try.isAgg164
 z77 := Try.sizeOf164
 v77 := Try.zeroValue164 }
end Go.Proofs.Ytiledgojbpmoiaa
