/-
 Merged (wip/tools/merge.py): BS3.
 Conditions: none.
-/
import Derived.Test.YtiledgojbpmoiaaGreatZQ27
namespace Go.Proofs.YtiledgojbpmoiaaGreat
set_option linter.unusedVariables false
set_option maxRecDepth 20000
set_option maxHeartbeats 16000000
open Go.RowKit Mono Rlp
namespace E
theorem Nr (l m : List UInt8) : Bin .geq 9 (.v (.string (Go.Proofs.YtiledgojbpmoiaaGreat.bs l))) (.v (.string (Go.Proofs.YtiledgojbpmoiaaGreat.bs m))) (.bool (!Op.bytesLess l m)) := by
 refine ⟨rfl, fun ok w p q hp hq => ?_⟩
 obtain rfl := (bf.1 hp).2
 obtain rfl := (bf.1 hq).2
 refine ⟨fun x y => by simp [eqGuard], ?_⟩
 simp [binOp, Op.stringOp, qW]
theorem Jm (x : Acc) : Fn 65 [bM x] (· = .val (.v (.bool x.empty))) := by
 obtain ⟨xa, n, w, cd, ss⟩ := x
 have hz := (jd w zero32).1
 unfold Acc.empty bM
 dsimp only
 refine Fn.walk 24 Tryz.func65 rfl Tryz.ntmps65 (by simp) fun X => ?_
 by_cases h1 : n = 0
 ·
  by_cases h2 : (w == zero32) = true
  ·
   rw [h2] at hz
   by_cases h3 : cd = []
   ·
    by_cases h4 : ss = []
    ·
     subst h3
     subst h4
     rw [h2]
     subst h1
     repeat
      (first
       | (apply iU; (iterate 2 rfl); exact hz; iterate 2 rfl) | (apply au; iterate 3 rfl) | (apply aj; iterate 3 rfl) | (apply dF; iterate 6 rfl)
       | (apply bV; iterate 4 rfl) | (apply dA; rfl; exact I.a; iterate 4 rfl) | (apply aA (b := true); (iterate 2 rfl); exact aG; iterate 2 rfl)
       | (apply dU; iterate 4 rfl) | (apply aB; iterate 4 rfl) | (apply iD; iterate 5 rfl) | (apply jD; rfl; rfl; rfl; intro _) | apply EL.nil
       | ((with_reducible apply EK.ah); apply EK.code) | (with_reducible first | apply EC.seq | apply EC.region | apply EC.ret))
     exact EK.fV rfl rfl rfl
    ·
     subst h3
     have h5 : ss.isEmpty = false := by cases ss with | nil => exact absurd rfl h4 | cons _ _ => rfl
     have h6 : (ss.map gq).length ≠ 0 := by cases ss with | nil => exact absurd rfl h4 | cons _ _ => simp
     rw [h2, h5]
     subst h1
     repeat
      (first
       | (apply iU; (iterate 2 rfl); exact hz; iterate 2 rfl) | (apply au; iterate 3 rfl) | (apply aj; iterate 3 rfl) | (apply dF; iterate 6 rfl)
       | (apply bV; iterate 4 rfl) | (apply dA; rfl; exact I.a; iterate 4 rfl) | (apply aA (b := true); (iterate 2 rfl); exact aG; iterate 2 rfl)
       | (apply aA (b := false); (iterate 2 rfl); exact aG; iterate 2 rfl) | (apply dU; iterate 4 rfl) | (apply aB; iterate 4 rfl)
       | (apply iD; iterate 5 rfl) | (apply jD; rfl; rfl; rfl; intro _) | apply EL.nil | ((with_reducible apply EK.ah); apply EK.code)
       | (with_reducible first | apply EC.seq | apply EC.region | apply EC.ret))
     exact EK.fV rfl rfl rfl
   ·
    have h5 : cd.isEmpty = false := by cases cd with | nil => exact absurd rfl h3 | cons _ _ => rfl
    rw [h2, h5]
    subst h1
    repeat
     (first
      | (apply fP; iterate 2 rfl) | (apply iU; (iterate 2 rfl); exact hz; iterate 2 rfl) | (apply au; iterate 3 rfl) | (apply aj; iterate 3 rfl)
      | (apply dF; iterate 6 rfl) | (apply bV; iterate 4 rfl) | (apply dA; rfl; exact I.a; iterate 4 rfl)
      | (apply aA (b := true); (iterate 2 rfl); exact aG; iterate 2 rfl) | (apply aA (b := false); (iterate 2 rfl); exact aG; iterate 2 rfl)
      | (apply dU; iterate 4 rfl) | (apply iD; iterate 5 rfl) | (apply jD; rfl; rfl; rfl; intro _) | apply EL.nil
      | ((with_reducible apply EK.ah); apply EK.code) | (with_reducible first | apply EC.seq | apply EC.region | apply EC.ret))
    exact EK.fV rfl rfl rfl
  ·
   have h2 : (w == zero32) = false := by simpa using h2
   rw [h2] at hz ⊢
   subst h1
   repeat
    (first
     | (apply fP; iterate 2 rfl) | (apply iU; (iterate 2 rfl); exact hz; iterate 2 rfl) | (apply au; iterate 3 rfl) | (apply aj; iterate 3 rfl)
     | (apply dF; iterate 6 rfl) | (apply bV; iterate 4 rfl) | (apply dA; rfl; exact I.a; iterate 4 rfl)
     | (apply aA (b := true); (iterate 2 rfl); exact aG; iterate 2 rfl) | (apply iD; iterate 5 rfl) | (apply jD; rfl; rfl; rfl; intro _) | apply EL.nil
     | ((with_reducible apply EK.ah); apply EK.code) | (with_reducible first | apply EC.seq | apply EC.region | apply EC.ret))
   exact EK.fV rfl rfl rfl
 ·
  have h5 : decide (n = 0) = false := by simp [h1]
  rw [h5]
  repeat
   (first
    | (apply fP; iterate 2 rfl) | (apply au; iterate 3 rfl) | (apply aj; iterate 3 rfl) | (apply dF; iterate 6 rfl) | (apply bV; iterate 4 rfl)
    | (apply dA; rfl; exact I.a; iterate 4 rfl) | (apply aA (b := false); (iterate 2 rfl); exact aG; iterate 2 rfl)
    | (apply jD; rfl; rfl; rfl; intro _) | apply EL.nil | ((with_reducible apply EK.ah); apply EK.code) | (with_reducible first | apply EC.seq | apply EC.region | apply EC.ret))
  exact EK.fV rfl rfl rfl
theorem vw (p k : List UInt8) : Iq (some p) k = Op.bytesLess p k := (yZ p k).symm
theorem UU (l : List Acc) (hsl : ∀ x ∈ l, x.sl.length ≤ 1000000) (hlen : l.length ≤ 1000000) : Fn 16 [.sl 55 (l.map bM)] (· = .val (.v (.bool (qF none l)))) := by
 have hml : (l.map bM).length = l.length := List.length_map _
 generalize hres : qF none l = res
 refine Fn.walk 82 Tryz.func16 rfl Tryz.ntmps16 (by simp) fun X => ?_
 repeat
  (first
   | (apply aj; iterate 3 rfl) | apply EL.nil | ((with_reducible apply EK.ah); apply EK.code) | (with_reducible first | apply EC.seq | apply EC.region | apply EC.block))
 refine EC.loop (ι := {i : Nat // i ≤ l.length ∧ res = qF (prevK Acc.a l i) (l.drop i)})
  (fun i => ⟨[(3, .val (.v (.int .i64 (i.1 : Int)))), (0, .val (.sl 55 (l.map bM)))], [], []⟩)
  (fun i => l.length - i.1) ⟨0, Nat.zero_le _, hres.symm⟩ ?_ ?_
 · exact Le.kp
 rintro ⟨i, hi, hI⟩
 dsimp only at hi ⊢
 by_cases hlt : i < l.length
 ·
  have hd : (l.map bM)[i]? = some (bM l[i]) := by rw [List.getElem?_map, List.getElem?_eq_getElem hlt]; rfl
  have hE := Jm l[i]
  have hls := hsl _ (List.getElem_mem hlt)
  have hnx : prevK Acc.a l (i + 1) = some l[i].a := iZ hlt
  rw [List.drop_eq_getElem_cons hlt, Cm, ← hnx] at hI
  obtain ⟨nv, hnv⟩ : ∃ b, qF (prevK Acc.a l (i + 1)) (l.drop (i + 1)) = b := ⟨_, rfl⟩
  rw [hnv] at hI
  clear hnx
  cases i with
  | zero =>
   generalize l[0] = x at hd hE hls hI
   obtain ⟨xa, n, w, cd, ss⟩ := x
   unfold Acc.one at hI
   generalize Acc.empty ⟨xa, n, w, cd, ss⟩ = em at hE hI
   unfold bM at hd hE
   dsimp only at hd hE hls hI
   rw [show Iq (prevK Acc.a l 0) xa = true from rfl] at hI
   by_cases hneg : n < 0
   ·
    obtain rfl : res = false := by rw [hI, decide_eq_false (show ¬ (0 : Int) ≤ n by omega)]; simp
    repeat
     (first
      | (apply au; iterate 3 rfl) | (apply aK; iterate 5 rfl) | (apply aA (b := true); (iterate 2 rfl); exact aG; iterate 2 rfl)
      | (apply aB; iterate 4 rfl)
      | (apply aX; (iterate 4 rfl); (focus (first | exact ⟨by decide, rfl⟩ | (refine ⟨by omega, ?_⟩; rw [Int.toNat_natCast]; assumption))); iterate 2 rfl)
      | (apply aV; rfl; rfl; rfl; intro _) | (apply aO; rfl; (focus (repeat first | exact .z | apply aY.s | apply aN.s)); iterate 4 rfl) | apply EL.nil
      | ((with_reducible apply EK.ah); apply EK.code) | (apply EC.cond_true; rfl) | (with_reducible first | apply EC.seq | apply EC.region | apply EC.skip | apply EC.block))
    refine EC.draw 30 (by kernel_rfl) ?_
    simp only [List.take_succ_cons, List.take_zero, List.drop_succ_cons, List.drop_zero]
    repeat
     (first
      | (apply jI; iterate 2 rfl) | (apply aU; iterate 3 rfl) | (apply bH; iterate 6 rfl) | (apply dX; iterate 4 rfl)
      | (apply bT; rfl; exact I.a; iterate 4 rfl) | (apply gy (b := true); (iterate 2 rfl); exact aG; iterate 2 rfl)
      | (apply gy (b := false); (iterate 2 rfl); exact aG; iterate 2 rfl) | ((with_reducible apply EH.nil); rfl))
    repeat
     (first
      | (apply aj; iterate 3 rfl) | apply EL.nil | ((with_reducible apply EK.ah); apply EK.code) | (apply EC.cond_true; rfl)
      | (with_reducible first | apply EC.seq | apply EC.region | apply EC.ret | apply EK.dS | apply EK.aI))
    exact EK.fV rfl rfl rfl
   rw [decide_eq_true (show (0 : Int) ≤ n by omega)] at hI
   by_cases hcd : (24576 : Int) < (cd.length : Int)
   ·
    obtain rfl : res = false := by rw [hI, decide_eq_false (show ¬ (cd.length : Int) ≤ 24576 by omega)]; simp
    repeat
     (first
      | (apply au; iterate 3 rfl) | (apply aK; iterate 5 rfl) | (apply aA (b := true); (iterate 2 rfl); exact aG; iterate 2 rfl)
      | (apply aB; iterate 4 rfl)
      | (apply aX; (iterate 4 rfl); (focus (first | exact ⟨by decide, rfl⟩ | (refine ⟨by omega, ?_⟩; rw [Int.toNat_natCast]; assumption))); iterate 2 rfl)
      | (apply aV; rfl; rfl; rfl; intro _) | (apply aO; rfl; (focus (repeat first | exact .z | apply aY.s | apply aN.s)); iterate 4 rfl) | apply EL.nil
      | ((with_reducible apply EK.ah); apply EK.code) | (apply EC.cond_true; rfl) | (with_reducible first | apply EC.seq | apply EC.region | apply EC.skip | apply EC.block))
    refine EC.draw 30 (by kernel_rfl) ?_
    simp only [List.take_succ_cons, List.take_zero, List.drop_succ_cons, List.drop_zero]
    repeat
     (first
      | (apply jI; iterate 2 rfl) | (apply aU; iterate 3 rfl) | (apply bH; iterate 6 rfl) | (apply dX; iterate 4 rfl)
      | (apply bT; rfl; exact I.a; iterate 4 rfl) | (apply gy (b := true); (iterate 2 rfl); exact aG; iterate 2 rfl)
      | (apply gy (b := false); (iterate 2 rfl); exact aG; iterate 2 rfl) | (apply ru; iterate 4 rfl) | ((with_reducible apply EH.nil); rfl))
    repeat
     (first
      | (apply aj; iterate 3 rfl) | apply EL.nil | ((with_reducible apply EK.ah); apply EK.code) | (apply EC.cond_true; rfl)
      | (with_reducible first | apply EC.seq | apply EC.region | apply EC.ret | apply EK.dS | apply EK.aI))
    exact EK.fV rfl rfl rfl
   rw [decide_eq_true (show (cd.length : Int) ≤ 24576 by omega)] at hI
   cases em with
   | true =>
    obtain rfl : res = false := by rw [hI]; simp
    repeat
     (first
      | (apply au; iterate 3 rfl) | (apply aK; iterate 5 rfl) | (apply aA (b := true); (iterate 2 rfl); exact aG; iterate 2 rfl)
      | (apply aB; iterate 4 rfl)
      | (apply aX; (iterate 4 rfl); (focus (first | exact ⟨by decide, rfl⟩ | (refine ⟨by omega, ?_⟩; rw [Int.toNat_natCast]; assumption))); iterate 2 rfl)
      | (apply aV; rfl; rfl; rfl; intro _) | (apply aO; rfl; (focus (repeat first | exact .z | apply aY.s | apply aN.s)); iterate 4 rfl) | apply EL.nil
      | ((with_reducible apply EK.ah); apply EK.code) | (apply EC.cond_true; rfl) | (with_reducible first | apply EC.seq | apply EC.region | apply EC.skip | apply EC.block))
    refine EC.draw 30 (by kernel_rfl) ?_
    simp only [List.take_succ_cons, List.take_zero, List.drop_succ_cons, List.drop_zero]
    repeat
     (first
      | (apply jI; iterate 2 rfl) | (apply bP (hE); rfl; exact ak.refl _ _; exact enA; iterate 2 rfl) | (apply aU; iterate 3 rfl)
      | (apply bH; iterate 6 rfl) | (apply dX; iterate 4 rfl) | (apply bT; rfl; exact I.a; iterate 4 rfl)
      | (apply gy (b := false); (iterate 2 rfl); exact aG; iterate 2 rfl) | (apply ru; iterate 4 rfl) | ((with_reducible apply EH.nil); rfl))
    repeat
     (first
      | (apply aj; iterate 3 rfl) | apply EL.nil | ((with_reducible apply EK.ah); apply EK.code) | (apply EC.cond_true; rfl)
      | (with_reducible first | apply EC.seq | apply EC.region | apply EC.ret | apply EK.dS | apply EK.aI))
    exact EK.fV rfl rfl rfl
   | false =>
    repeat
     (first
      | (apply au; iterate 3 rfl) | (apply aK; iterate 5 rfl) | (apply aA (b := true); (iterate 2 rfl); exact aG; iterate 2 rfl)
      | (apply aB; iterate 4 rfl)
      | (apply aX; (iterate 4 rfl); (focus (first | exact ⟨by decide, rfl⟩ | (refine ⟨by omega, ?_⟩; rw [Int.toNat_natCast]; assumption))); iterate 2 rfl)
      | (apply aV; rfl; rfl; rfl; intro _) | (apply aO; rfl; (focus (repeat first | exact .z | apply aY.s | apply aN.s)); iterate 4 rfl) | apply EL.nil
      | ((with_reducible apply EK.ah); apply EK.code) | (apply EC.cond_true; rfl) | (with_reducible first | apply EC.seq | apply EC.region | apply EC.skip | apply EC.block))
    refine EC.draw 30 (by kernel_rfl) ?_
    simp only [List.take_succ_cons, List.take_zero, List.drop_succ_cons, List.drop_zero]
    repeat
     (first
      | (apply jI; iterate 2 rfl) | (apply bP (hE); rfl; exact ak.refl _ _; exact enA; iterate 2 rfl) | (apply aU; iterate 3 rfl)
      | (apply bH; iterate 6 rfl) | (apply dX; iterate 4 rfl) | (apply bT; rfl; exact I.a; iterate 4 rfl)
      | (apply gy (b := false); (iterate 2 rfl); exact aG; iterate 2 rfl) | (apply ru; iterate 4 rfl) | ((with_reducible apply EH.nil); rfl))
    rename_i g4
    have hml2 : (ss.map gq).length = ss.length := List.length_map _
    generalize hrs : slM none ss = rs at hI
    repeat
     (first
      | (apply aj; iterate 3 rfl) | apply EL.nil | ((with_reducible apply EK.ah); apply EK.code) | (apply EC.cond_false; rfl)
      | (with_reducible first | apply EC.seq | apply EC.region | apply EC.skip | apply EC.block))
    refine EC.loop (ι := {k : Nat // k ≤ ss.length ∧ rs = slM (prevK (·.1) ss k) (ss.drop k)})
     (fun k => ⟨[(5, .val (.v (.int .i64 (k.1 : Int)))), (3, .val (.v (.int .i64 (0 : Int)))), (0, .val (.sl 55 (l.map bM))), (4, .val (.v (.pointer (some ⟨g4, 0, none⟩))))], [.var g4 32 (.tup [.arr 20 xa, .v (.int .i64 n), .arr 32 w, .bs cd, .sl 64 (ss.map gq)])], []⟩)
     (fun k => ss.length - k.1) ⟨0, Nat.zero_le _, hrs.symm⟩ ?_ ?_
    · exact Le.kp
    rintro ⟨k, hk, hJ⟩
    dsimp only at hk ⊢
    by_cases hkl : k < ss.length
    ·
     have hdk : (ss.map gq)[k]? = some (.tup [.arr 32 ss[k].1, .arr 32 ss[k].2]) := by rw [List.getElem?_map, List.getElem?_eq_getElem hkl]; rfl
     rw [List.drop_eq_getElem_cons hkl, yx] at hJ
     have hz := (jd ss[k].2 zero32).1
     cases hv : (ss[k].2 == zero32) with
     | true =>
      rw [hv] at hz hJ
      obtain rfl : rs = false := by rw [hJ]; rfl
      obtain rfl : res = false := by rw [hI]; rfl
      repeat
       (first
        | (apply au; iterate 3 rfl) | (apply dF; iterate 6 rfl) | (apply dA; rfl; exact I.a; iterate 4 rfl)
        | (apply aA (b := true); (iterate 2 rfl); exact aG; iterate 2 rfl) | (apply aB; iterate 4 rfl) | apply EL.nil | ((with_reducible apply EK.ah); apply EK.code)
        | (apply EC.cond_true; rfl) | (with_reducible first | apply EC.seq | apply EC.region | apply EC.skip | apply EC.block))
      refine EC.draw 29 (by kernel_rfl) ?_
      simp only [List.take_succ_cons, List.take_zero, List.drop_succ_cons, List.drop_zero]
      repeat
       (first
        | (apply jI; iterate 2 rfl) | (apply fK; (iterate 2 rfl); exact hz; iterate 2 rfl) | (apply aU; iterate 3 rfl) | (apply bH; iterate 6 rfl)
        | (apply aW; iterate 7 rfl) | (apply bG; iterate 5 rfl) | (apply dX; iterate 4 rfl) | (apply bT; rfl; exact I.a; iterate 4 rfl)
        | (apply bD; (iterate 4 rfl); (focus (first | exact ⟨by decide, rfl⟩ | (refine ⟨by omega, ?_⟩; rw [Int.toNat_natCast]; assumption))); iterate 2 rfl)
        | (apply iP; iterate 5 rfl) | ((with_reducible apply EH.nil); rfl))
      repeat
       (first
        | (apply aj; iterate 3 rfl) | apply EL.nil | ((with_reducible apply EK.ah); apply EK.code) | (apply EC.cond_true; rfl)
        | (with_reducible first | apply EC.seq | apply EC.region | apply EC.ret | apply EK.dS | apply EK.aI))
      exact EK.fV rfl rfl rfl
     | false =>
      rw [hv] at hz hJ
      cases k with
      | zero =>
       have hJ2 : rs = slM (prevK (·.1) ss 1) (ss.drop 1) := by rw [hJ, iZ hkl]; rfl
       repeat
        (first
         | (apply au; iterate 3 rfl) | (apply dF; iterate 6 rfl) | (apply dA; rfl; exact I.a; iterate 4 rfl)
         | (apply aA (b := true); (iterate 2 rfl); exact aG; iterate 2 rfl) | (apply aB; iterate 4 rfl) | apply EL.nil | ((with_reducible apply EK.ah); apply EK.code)
         | (apply EC.cond_true; rfl) | (with_reducible first | apply EC.seq | apply EC.region | apply EC.skip | apply EC.block))
       refine EC.draw 29 (by kernel_rfl) ?_
       simp only [List.take_succ_cons, List.take_zero, List.drop_succ_cons, List.drop_zero]
       repeat
        (first
         | (apply jI; iterate 2 rfl) | (apply fK; (iterate 2 rfl); exact hz; iterate 2 rfl) | (apply aU; iterate 3 rfl) | (apply bH; iterate 6 rfl)
         | (apply aW; iterate 7 rfl) | (apply bG; iterate 5 rfl) | (apply dX; iterate 4 rfl) | (apply bT; rfl; exact I.a; iterate 4 rfl)
         | (apply gy (b := false); (iterate 2 rfl); exact aG; iterate 2 rfl)
         | (apply bD; (iterate 4 rfl); (focus (first | exact ⟨by decide, rfl⟩ | (refine ⟨by omega, ?_⟩; rw [Int.toNat_natCast]; assumption))); iterate 2 rfl)
         | (apply iP; iterate 5 rfl) | ((with_reducible apply EH.nil); rfl))
       repeat
        (first
         | (apply au; iterate 3 rfl) | (apply aj; iterate 3 rfl) | (apply eU; (iterate 3 rfl); (focus omega); (focus omega); iterate 2 rfl) | apply EL.nil
         | ((with_reducible apply EK.ah); apply EK.code) | (apply EC.cond_false; rfl) | (with_reducible first | apply EC.region | apply EC.skip | apply EK.aF))
       refine EK.again ⟨1, hkl, hJ2⟩ (by dsimp only; omega) ?_
       exact Le.kp
      | succ j =>
       have hdj : (ss.map gq)[j]? = some (.tup [.arr 32 (ss[j]'(by omega)).1, .arr 32 (ss[j]'(by omega)).2]) := by rw [List.getElem?_map, List.getElem?_eq_getElem (by omega)]; rfl
       rw [iZ (by omega : j < ss.length), vw] at hJ
       have hc := uM (ss[j]'(by omega)).1 ss[j + 1].1
       cases hb : Op.bytesLess (ss[j]'(by omega)).1 ss[j + 1].1 with
       | true =>
        rw [hb] at hc hJ
        have hJ2 : rs = slM (prevK (·.1) ss (j + 1 + 1)) (ss.drop (j + 1 + 1)) := by
         rw [hJ, iZ hkl]
         rfl
        repeat
         (first
          | (apply au; iterate 3 rfl) | (apply dF; iterate 6 rfl) | (apply dA; rfl; exact I.a; iterate 4 rfl)
          | (apply aA (b := true); (iterate 2 rfl); exact aG; iterate 2 rfl) | (apply aB; iterate 4 rfl) | apply EL.nil | ((with_reducible apply EK.ah); apply EK.code)
          | (apply EC.cond_true; rfl) | (with_reducible first | apply EC.seq | apply EC.region | apply EC.skip | apply EC.block))
        refine EC.draw 29 (by kernel_rfl) ?_
        simp only [List.take_succ_cons, List.take_zero, List.drop_succ_cons, List.drop_zero]
        repeat
         (first
          | (apply fK; (iterate 2 rfl); exact hz; iterate 2 rfl) | (apply bP (hc); rfl; exact ak.refl _ _; exact enA; iterate 2 rfl)
          | (apply bD; (iterate 4 rfl); exact ⟨by omega, by rw [show (((j + 1 : Nat) : Int) - 1) = (j : Int) by omega, Int.toNat_natCast]; exact hdj⟩; iterate 2 rfl)
          | (apply aU; iterate 3 rfl) | (apply bH; iterate 6 rfl) | (apply aW; iterate 7 rfl) | (apply bG; iterate 5 rfl)
          | (apply dX; iterate 4 rfl) | (apply CG; iterate 3 rfl) | (apply bT; rfl; exact I.a; iterate 4 rfl)
          | (apply gy (b := true); (iterate 2 rfl); exact aG; iterate 2 rfl) | (apply mF; (iterate 3 rfl); (focus omega); (focus omega); iterate 2 rfl)
          | (apply bD; (iterate 4 rfl); (focus (first | exact ⟨by decide, rfl⟩ | (refine ⟨by omega, ?_⟩; rw [Int.toNat_natCast]; assumption))); iterate 2 rfl)
          | (apply iP; iterate 5 rfl) | ((with_reducible apply EH.nil); rfl))
        repeat
         (first
          | (apply au; iterate 3 rfl) | (apply aj; iterate 3 rfl) | (apply eU; (iterate 3 rfl); (focus omega); (focus omega); iterate 2 rfl) | apply EL.nil
          | ((with_reducible apply EK.ah); apply EK.code) | (apply EC.cond_false; rfl) | (with_reducible first | apply EC.region | apply EC.skip | apply EK.aF))
        refine EK.again ⟨j + 1 + 1, hkl, hJ2⟩ (by dsimp only; omega) ?_
        dsimp only
        rw [show (((j + 1 : Nat) : Int) + 1) = ((j + 1 + 1 : Nat) : Int) by omega]
        exact Le.kp
       | false =>
        rw [hb] at hc hJ
        obtain rfl : rs = false := by rw [hJ]; rfl
        obtain rfl : res = false := by rw [hI]; rfl
        repeat
         (first
          | (apply au; iterate 3 rfl) | (apply dF; iterate 6 rfl) | (apply dA; rfl; exact I.a; iterate 4 rfl)
          | (apply aA (b := true); (iterate 2 rfl); exact aG; iterate 2 rfl) | (apply aB; iterate 4 rfl) | apply EL.nil | ((with_reducible apply EK.ah); apply EK.code)
          | (apply EC.cond_true; rfl) | (with_reducible first | apply EC.seq | apply EC.region | apply EC.skip | apply EC.block))
        refine EC.draw 29 (by kernel_rfl) ?_
        simp only [List.take_succ_cons, List.take_zero, List.drop_succ_cons, List.drop_zero]
        repeat
         (first
          | (apply fK; (iterate 2 rfl); exact hz; iterate 2 rfl) | (apply bP (hc); rfl; exact ak.refl _ _; exact enA; iterate 2 rfl)
          | (apply bD; (iterate 4 rfl); exact ⟨by omega, by rw [show (((j + 1 : Nat) : Int) - 1) = (j : Int) by omega, Int.toNat_natCast]; exact hdj⟩; iterate 2 rfl)
          | (apply aU; iterate 3 rfl) | (apply bH; iterate 6 rfl) | (apply aW; iterate 7 rfl) | (apply bG; iterate 5 rfl)
          | (apply dX; iterate 4 rfl) | (apply CG; iterate 3 rfl) | (apply bT; rfl; exact I.a; iterate 4 rfl)
          | (apply gy (b := true); (iterate 2 rfl); exact aG; iterate 2 rfl) | (apply mF; (iterate 3 rfl); (focus omega); (focus omega); iterate 2 rfl)
          | (apply bD; (iterate 4 rfl); (focus (first | exact ⟨by decide, rfl⟩ | (refine ⟨by omega, ?_⟩; rw [Int.toNat_natCast]; assumption))); iterate 2 rfl)
          | (apply iP; iterate 5 rfl) | ((with_reducible apply EH.nil); rfl))
        repeat
         (first
          | (apply aj; iterate 3 rfl) | apply EL.nil | ((with_reducible apply EK.ah); apply EK.code) | (apply EC.cond_true; rfl)
          | (with_reducible first | apply EC.seq | apply EC.region | apply EC.ret | apply EK.dS | apply EK.aI))
        exact EK.fV rfl rfl rfl
    ·
     obtain rfl : rs = true := by rw [hJ, List.drop_eq_nil_of_le (by omega), slM]
     have hI2 : res = qF (prevK Acc.a l (0 + 1)) (l.drop (0 + 1)) := by rw [hI, hnv]; rfl
     repeat
      (first
       | (apply au; iterate 3 rfl) | (apply aj; iterate 3 rfl) | (apply dF; iterate 6 rfl) | (apply dA; rfl; exact I.a; iterate 4 rfl)
       | (apply aA (b := false); (iterate 2 rfl); exact aG; iterate 2 rfl) | (apply eU; (iterate 3 rfl); (focus omega); (focus omega); iterate 2 rfl)
       | (apply aB; iterate 4 rfl) | apply EL.nil | ((with_reducible apply EK.ah); apply EK.code) | (apply EC.cond_false; rfl)
       | (with_reducible first | apply EC.seq | apply EC.region | apply EC.exit | apply EK.aF | apply EK.aZ | apply EK.aH))
     refine EK.again ⟨0 + 1, hlt, hI2⟩ (by dsimp only; omega) ?_
     dsimp only
     exact Le.kp
  | succ q =>
   have hd' : (l.map bM)[q]? = some (bM (l[q]'(by omega))) := by rw [List.getElem?_map, List.getElem?_eq_getElem (by omega)]; rfl
   unfold bM at hd'
   rw [iZ (by omega : q < l.length), vw] at hI
   generalize (l[q]'(by omega)).a = pa at hd' hI
   generalize l[q + 1] = x at hd hE hls hI
   obtain ⟨xa, n, w, cd, ss⟩ := x
   unfold Acc.one at hI
   generalize Acc.empty ⟨xa, n, w, cd, ss⟩ = em at hE hI
   unfold bM at hd hE
   dsimp only at hd hE hls hI
   have hge := Nr pa xa
   cases hb : Op.bytesLess pa xa with
   | false =>
    rw [hb] at hge hI
    obtain rfl : res = false := by rw [hI]; simp
    repeat
     (first
      | (apply au; iterate 3 rfl) | (apply aK; iterate 5 rfl) | (apply aA (b := true); (iterate 2 rfl); exact aG; iterate 2 rfl)
      | (apply aB; iterate 4 rfl)
      | (apply aX; (iterate 4 rfl); (focus (first | exact ⟨by decide, rfl⟩ | (refine ⟨by omega, ?_⟩; rw [Int.toNat_natCast]; assumption))); iterate 2 rfl)
      | (apply aV; rfl; rfl; rfl; intro _) | (apply aO; rfl; (focus (repeat first | exact .z | apply aY.s | apply aN.s)); iterate 4 rfl) | apply EL.nil
      | ((with_reducible apply EK.ah); apply EK.code) | (apply EC.cond_true; rfl) | (with_reducible first | apply EC.seq | apply EC.region | apply EC.skip | apply EC.block))
    refine EC.draw 30 (by kernel_rfl) ?_
    simp only [List.take_succ_cons, List.take_zero, List.drop_succ_cons, List.drop_zero]
    repeat
     (first
      | (apply jI; iterate 2 rfl) | (apply fK; (iterate 2 rfl); exact hge; iterate 2 rfl) | (apply sZ kD; iterate 6 rfl)
      | (apply qZ; exact kD; iterate 3 rfl) | (apply mg; rfl; exact I0; iterate 4 rfl)
      | (apply bD; (iterate 4 rfl); exact ⟨by omega, by rw [show (((q + 1 : Nat) : Int) - 1) = (q : Int) by omega, Int.toNat_natCast]; exact hd'⟩; iterate 2 rfl)
      | (apply aU; iterate 3 rfl) | (apply bH; iterate 6 rfl) | (apply aW; iterate 7 rfl) | (apply dX; iterate 4 rfl)
      | (apply gy (b := true); (iterate 2 rfl); exact aG; iterate 2 rfl) | (apply mF; (iterate 3 rfl); (focus omega); (focus omega); iterate 2 rfl)
      | (apply rW; iterate 3 rfl) | ((with_reducible apply EH.nil); rfl))
    repeat
     (first
      | (apply aj; iterate 3 rfl) | apply EL.nil | ((with_reducible apply EK.ah); apply EK.code) | (apply EC.cond_true; rfl)
      | (with_reducible first | apply EC.seq | apply EC.region | apply EC.ret | apply EK.dS | apply EK.aI))
    exact EK.fV rfl rfl rfl
   | true =>
    rw [hb] at hge hI
    by_cases hneg : n < 0
    ·
     obtain rfl : res = false := by rw [hI, decide_eq_false (show ¬ (0 : Int) ≤ n by omega)]; simp
     repeat
      (first
       | (apply au; iterate 3 rfl) | (apply aK; iterate 5 rfl) | (apply aA (b := true); (iterate 2 rfl); exact aG; iterate 2 rfl)
       | (apply aB; iterate 4 rfl)
       | (apply aX; (iterate 4 rfl); (focus (first | exact ⟨by decide, rfl⟩ | (refine ⟨by omega, ?_⟩; rw [Int.toNat_natCast]; assumption))); iterate 2 rfl)
       | (apply aV; rfl; rfl; rfl; intro _) | (apply aO; rfl; (focus (repeat first | exact .z | apply aY.s | apply aN.s)); iterate 4 rfl) | apply EL.nil
       | ((with_reducible apply EK.ah); apply EK.code) | (apply EC.cond_true; rfl) | (with_reducible first | apply EC.seq | apply EC.region | apply EC.skip | apply EC.block))
     refine EC.draw 30 (by kernel_rfl) ?_
     simp only [List.take_succ_cons, List.take_zero, List.drop_succ_cons, List.drop_zero]
     repeat
      (first
       | (apply jI; iterate 2 rfl) | (apply fK; (iterate 2 rfl); exact hge; iterate 2 rfl) | (apply sZ kD; iterate 6 rfl)
       | (apply qZ; exact kD; iterate 3 rfl) | (apply mg; rfl; exact I0; iterate 4 rfl)
       | (apply bD; (iterate 4 rfl); exact ⟨by omega, by rw [show (((q + 1 : Nat) : Int) - 1) = (q : Int) by omega, Int.toNat_natCast]; exact hd'⟩; iterate 2 rfl)
       | (apply aU; iterate 3 rfl) | (apply bH; iterate 6 rfl) | (apply aW; iterate 7 rfl) | (apply dX; iterate 4 rfl)
       | (apply bT; rfl; exact I.a; iterate 4 rfl) | (apply gy (b := true); (iterate 2 rfl); exact aG; iterate 2 rfl)
       | (apply mF; (iterate 3 rfl); (focus omega); (focus omega); iterate 2 rfl) | (apply rW; iterate 3 rfl) | ((with_reducible apply EH.nil); rfl))
     repeat
      (first
       | (apply aj; iterate 3 rfl) | apply EL.nil | ((with_reducible apply EK.ah); apply EK.code) | (apply EC.cond_true; rfl)
       | (with_reducible first | apply EC.seq | apply EC.region | apply EC.ret | apply EK.dS | apply EK.aI))
     exact EK.fV rfl rfl rfl
    rw [decide_eq_true (show (0 : Int) ≤ n by omega)] at hI
    by_cases hcd : (24576 : Int) < (cd.length : Int)
    ·
     obtain rfl : res = false := by rw [hI, decide_eq_false (show ¬ (cd.length : Int) ≤ 24576 by omega)]; simp
     repeat
      (first
       | (apply au; iterate 3 rfl) | (apply aK; iterate 5 rfl) | (apply aA (b := true); (iterate 2 rfl); exact aG; iterate 2 rfl)
       | (apply aB; iterate 4 rfl)
       | (apply aX; (iterate 4 rfl); (focus (first | exact ⟨by decide, rfl⟩ | (refine ⟨by omega, ?_⟩; rw [Int.toNat_natCast]; assumption))); iterate 2 rfl)
       | (apply aV; rfl; rfl; rfl; intro _) | (apply aO; rfl; (focus (repeat first | exact .z | apply aY.s | apply aN.s)); iterate 4 rfl) | apply EL.nil
       | ((with_reducible apply EK.ah); apply EK.code) | (apply EC.cond_true; rfl) | (with_reducible first | apply EC.seq | apply EC.region | apply EC.skip | apply EC.block))
     refine EC.draw 30 (by kernel_rfl) ?_
     simp only [List.take_succ_cons, List.take_zero, List.drop_succ_cons, List.drop_zero]
     repeat
      (first
       | (apply jI; iterate 2 rfl) | (apply fK; (iterate 2 rfl); exact hge; iterate 2 rfl) | (apply sZ kD; iterate 6 rfl)
       | (apply qZ; exact kD; iterate 3 rfl) | (apply mg; rfl; exact I0; iterate 4 rfl)
       | (apply bD; (iterate 4 rfl); exact ⟨by omega, by rw [show (((q + 1 : Nat) : Int) - 1) = (q : Int) by omega, Int.toNat_natCast]; exact hd'⟩; iterate 2 rfl)
       | (apply aU; iterate 3 rfl) | (apply bH; iterate 6 rfl) | (apply aW; iterate 7 rfl) | (apply dX; iterate 4 rfl)
       | (apply bT; rfl; exact I.a; iterate 4 rfl) | (apply gy (b := true); (iterate 2 rfl); exact aG; iterate 2 rfl)
       | (apply gy (b := false); (iterate 2 rfl); exact aG; iterate 2 rfl) | (apply mF; (iterate 3 rfl); (focus omega); (focus omega); iterate 2 rfl)
       | (apply ru; iterate 4 rfl) | (apply rW; iterate 3 rfl) | ((with_reducible apply EH.nil); rfl))
     repeat
      (first
       | (apply aj; iterate 3 rfl) | apply EL.nil | ((with_reducible apply EK.ah); apply EK.code) | (apply EC.cond_true; rfl)
       | (with_reducible first | apply EC.seq | apply EC.region | apply EC.ret | apply EK.dS | apply EK.aI))
     exact EK.fV rfl rfl rfl
    rw [decide_eq_true (show (cd.length : Int) ≤ 24576 by omega)] at hI
    cases em with
    | true =>
     obtain rfl : res = false := by rw [hI]; simp
     repeat
      (first
       | (apply au; iterate 3 rfl) | (apply aK; iterate 5 rfl) | (apply aA (b := true); (iterate 2 rfl); exact aG; iterate 2 rfl)
       | (apply aB; iterate 4 rfl)
       | (apply aX; (iterate 4 rfl); (focus (first | exact ⟨by decide, rfl⟩ | (refine ⟨by omega, ?_⟩; rw [Int.toNat_natCast]; assumption))); iterate 2 rfl)
       | (apply aV; rfl; rfl; rfl; intro _) | (apply aO; rfl; (focus (repeat first | exact .z | apply aY.s | apply aN.s)); iterate 4 rfl) | apply EL.nil
       | ((with_reducible apply EK.ah); apply EK.code) | (apply EC.cond_true; rfl) | (with_reducible first | apply EC.seq | apply EC.region | apply EC.skip | apply EC.block))
     refine EC.draw 30 (by kernel_rfl) ?_
     simp only [List.take_succ_cons, List.take_zero, List.drop_succ_cons, List.drop_zero]
     repeat
      (first
       | (apply fK; (iterate 2 rfl); exact hge; iterate 2 rfl) | (apply sZ kD; iterate 6 rfl) | (apply qZ; exact kD; iterate 3 rfl)
       | (apply mg; rfl; exact I0; iterate 4 rfl)
       | (apply bD; (iterate 4 rfl); exact ⟨by omega, by rw [show (((q + 1 : Nat) : Int) - 1) = (q : Int) by omega, Int.toNat_natCast]; exact hd'⟩; iterate 2 rfl)
       | (apply bP (hE); rfl; exact ak.refl _ _; exact enA; iterate 2 rfl) | (apply aU; iterate 3 rfl) | (apply bH; iterate 6 rfl)
       | (apply aW; iterate 7 rfl) | (apply dX; iterate 4 rfl) | (apply bT; rfl; exact I.a; iterate 4 rfl)
       | (apply gy (b := true); (iterate 2 rfl); exact aG; iterate 2 rfl) | (apply gy (b := false); (iterate 2 rfl); exact aG; iterate 2 rfl)
       | (apply mF; (iterate 3 rfl); (focus omega); (focus omega); iterate 2 rfl) | (apply ru; iterate 4 rfl) | (apply rW; iterate 3 rfl)
       | ((with_reducible apply EH.nil); rfl))
     repeat
      (first
       | (apply aj; iterate 3 rfl) | apply EL.nil | ((with_reducible apply EK.ah); apply EK.code) | (apply EC.cond_true; rfl)
       | (with_reducible first | apply EC.seq | apply EC.region | apply EC.ret | apply EK.dS | apply EK.aI))
     exact EK.fV rfl rfl rfl
    | false =>
     repeat
      (first
       | (apply au; iterate 3 rfl) | (apply aK; iterate 5 rfl) | (apply aA (b := true); (iterate 2 rfl); exact aG; iterate 2 rfl)
       | (apply aB; iterate 4 rfl)
       | (apply aX; (iterate 4 rfl); (focus (first | exact ⟨by decide, rfl⟩ | (refine ⟨by omega, ?_⟩; rw [Int.toNat_natCast]; assumption))); iterate 2 rfl)
       | (apply aV; rfl; rfl; rfl; intro _) | (apply aO; rfl; (focus (repeat first | exact .z | apply aY.s | apply aN.s)); iterate 4 rfl) | apply EL.nil
       | ((with_reducible apply EK.ah); apply EK.code) | (apply EC.cond_true; rfl) | (with_reducible first | apply EC.seq | apply EC.region | apply EC.skip | apply EC.block))
     refine EC.draw 30 (by kernel_rfl) ?_
     simp only [List.take_succ_cons, List.take_zero, List.drop_succ_cons, List.drop_zero]
     repeat
      (first
       | (apply fK; (iterate 2 rfl); exact hge; iterate 2 rfl) | (apply sZ kD; iterate 6 rfl) | (apply qZ; exact kD; iterate 3 rfl)
       | (apply mg; rfl; exact I0; iterate 4 rfl)
       | (apply bD; (iterate 4 rfl); exact ⟨by omega, by rw [show (((q + 1 : Nat) : Int) - 1) = (q : Int) by omega, Int.toNat_natCast]; exact hd'⟩; iterate 2 rfl)
       | (apply bP (hE); rfl; exact ak.refl _ _; exact enA; iterate 2 rfl) | (apply aU; iterate 3 rfl) | (apply bH; iterate 6 rfl)
       | (apply aW; iterate 7 rfl) | (apply dX; iterate 4 rfl) | (apply bT; rfl; exact I.a; iterate 4 rfl)
       | (apply gy (b := true); (iterate 2 rfl); exact aG; iterate 2 rfl) | (apply gy (b := false); (iterate 2 rfl); exact aG; iterate 2 rfl)
       | (apply mF; (iterate 3 rfl); (focus omega); (focus omega); iterate 2 rfl) | (apply ru; iterate 4 rfl) | (apply rW; iterate 3 rfl)
       | ((with_reducible apply EH.nil); rfl))
     rename_i g4
     have hml2 : (ss.map gq).length = ss.length := List.length_map _
     generalize hrs : slM none ss = rs at hI
     repeat
      (first
       | (apply aj; iterate 3 rfl) | apply EL.nil | ((with_reducible apply EK.ah); apply EK.code) | (apply EC.cond_false; rfl)
       | (with_reducible first | apply EC.seq | apply EC.region | apply EC.skip | apply EC.block))
     refine EC.loop (ι := {k : Nat // k ≤ ss.length ∧ rs = slM (prevK (·.1) ss k) (ss.drop k)})
      (fun k => ⟨[(5, .val (.v (.int .i64 (k.1 : Int)))), (3, .val (.v (.int .i64 ((q + 1) : Int)))), (0, .val (.sl 55 (l.map bM))), (4, .val (.v (.pointer (some ⟨g4, 0, none⟩))))], [.var g4 32 (.tup [.arr 20 xa, .v (.int .i64 n), .arr 32 w, .bs cd, .sl 64 (ss.map gq)])], []⟩)
      (fun k => ss.length - k.1) ⟨0, Nat.zero_le _, hrs.symm⟩ ?_ ?_
     · exact Le.kp
     rintro ⟨k, hk, hJ⟩
     dsimp only at hk ⊢
     by_cases hkl : k < ss.length
     ·
      have hdk : (ss.map gq)[k]? = some (.tup [.arr 32 ss[k].1, .arr 32 ss[k].2]) := by rw [List.getElem?_map, List.getElem?_eq_getElem hkl]; rfl
      rw [List.drop_eq_getElem_cons hkl, yx] at hJ
      have hz := (jd ss[k].2 zero32).1
      cases hv : (ss[k].2 == zero32) with
      | true =>
       rw [hv] at hz hJ
       obtain rfl : rs = false := by rw [hJ]; rfl
       obtain rfl : res = false := by rw [hI]; rfl
       repeat
        (first
         | (apply au; iterate 3 rfl) | (apply dF; iterate 6 rfl) | (apply dA; rfl; exact I.a; iterate 4 rfl)
         | (apply aA (b := true); (iterate 2 rfl); exact aG; iterate 2 rfl) | (apply aB; iterate 4 rfl) | apply EL.nil | ((with_reducible apply EK.ah); apply EK.code)
         | (apply EC.cond_true; rfl) | (with_reducible first | apply EC.seq | apply EC.region | apply EC.skip | apply EC.block))
       refine EC.draw 29 (by kernel_rfl) ?_
       simp only [List.take_succ_cons, List.take_zero, List.drop_succ_cons, List.drop_zero]
       repeat
        (first
         | (apply jI; iterate 2 rfl) | (apply fK; (iterate 2 rfl); exact hz; iterate 2 rfl) | (apply aU; iterate 3 rfl) | (apply bH; iterate 6 rfl)
         | (apply aW; iterate 7 rfl) | (apply bG; iterate 5 rfl) | (apply dX; iterate 4 rfl) | (apply bT; rfl; exact I.a; iterate 4 rfl)
         | (apply bD; (iterate 4 rfl); (focus (first | exact ⟨by decide, rfl⟩ | (refine ⟨by omega, ?_⟩; rw [Int.toNat_natCast]; assumption))); iterate 2 rfl)
         | (apply iP; iterate 5 rfl) | ((with_reducible apply EH.nil); rfl))
       repeat
        (first
         | (apply aj; iterate 3 rfl) | apply EL.nil | ((with_reducible apply EK.ah); apply EK.code) | (apply EC.cond_true; rfl)
         | (with_reducible first | apply EC.seq | apply EC.region | apply EC.ret | apply EK.dS | apply EK.aI))
       exact EK.fV rfl rfl rfl
      | false =>
       rw [hv] at hz hJ
       cases k with
       | zero =>
        have hJ2 : rs = slM (prevK (·.1) ss 1) (ss.drop 1) := by rw [hJ, iZ hkl]; rfl
        repeat
         (first
          | (apply au; iterate 3 rfl) | (apply dF; iterate 6 rfl) | (apply dA; rfl; exact I.a; iterate 4 rfl)
          | (apply aA (b := true); (iterate 2 rfl); exact aG; iterate 2 rfl) | (apply aB; iterate 4 rfl) | apply EL.nil | ((with_reducible apply EK.ah); apply EK.code)
          | (apply EC.cond_true; rfl) | (with_reducible first | apply EC.seq | apply EC.region | apply EC.skip | apply EC.block))
        refine EC.draw 29 (by kernel_rfl) ?_
        simp only [List.take_succ_cons, List.take_zero, List.drop_succ_cons, List.drop_zero]
        repeat
         (first
          | (apply jI; iterate 2 rfl) | (apply fK; (iterate 2 rfl); exact hz; iterate 2 rfl) | (apply aU; iterate 3 rfl) | (apply bH; iterate 6 rfl)
          | (apply aW; iterate 7 rfl) | (apply bG; iterate 5 rfl) | (apply dX; iterate 4 rfl) | (apply bT; rfl; exact I.a; iterate 4 rfl)
          | (apply gy (b := false); (iterate 2 rfl); exact aG; iterate 2 rfl)
          | (apply bD; (iterate 4 rfl); (focus (first | exact ⟨by decide, rfl⟩ | (refine ⟨by omega, ?_⟩; rw [Int.toNat_natCast]; assumption))); iterate 2 rfl)
          | (apply iP; iterate 5 rfl) | ((with_reducible apply EH.nil); rfl))
        repeat
         (first
          | (apply au; iterate 3 rfl) | (apply aj; iterate 3 rfl) | (apply eU; (iterate 3 rfl); (focus omega); (focus omega); iterate 2 rfl) | apply EL.nil
          | ((with_reducible apply EK.ah); apply EK.code) | (apply EC.cond_false; rfl) | (with_reducible first | apply EC.region | apply EC.skip | apply EK.aF))
        refine EK.again ⟨1, hkl, hJ2⟩ (by dsimp only; omega) ?_
        exact Le.kp
       | succ j =>
        have hdj : (ss.map gq)[j]? = some (.tup [.arr 32 (ss[j]'(by omega)).1, .arr 32 (ss[j]'(by omega)).2]) := by rw [List.getElem?_map, List.getElem?_eq_getElem (by omega)]; rfl
        rw [iZ (by omega : j < ss.length), vw] at hJ
        have hc := uM (ss[j]'(by omega)).1 ss[j + 1].1
        cases hb : Op.bytesLess (ss[j]'(by omega)).1 ss[j + 1].1 with
        | true =>
         rw [hb] at hc hJ
         have hJ2 : rs = slM (prevK (·.1) ss (j + 1 + 1)) (ss.drop (j + 1 + 1)) := by
          rw [hJ, iZ hkl]
          rfl
         repeat
          (first
           | (apply au; iterate 3 rfl) | (apply dF; iterate 6 rfl) | (apply dA; rfl; exact I.a; iterate 4 rfl)
           | (apply aA (b := true); (iterate 2 rfl); exact aG; iterate 2 rfl) | (apply aB; iterate 4 rfl) | apply EL.nil | ((with_reducible apply EK.ah); apply EK.code)
           | (apply EC.cond_true; rfl) | (with_reducible first | apply EC.seq | apply EC.region | apply EC.skip | apply EC.block))
         refine EC.draw 29 (by kernel_rfl) ?_
         simp only [List.take_succ_cons, List.take_zero, List.drop_succ_cons, List.drop_zero]
         repeat
          (first
           | (apply fK; (iterate 2 rfl); exact hz; iterate 2 rfl) | (apply bP (hc); rfl; exact ak.refl _ _; exact enA; iterate 2 rfl)
           | (apply bD; (iterate 4 rfl); exact ⟨by omega, by rw [show (((j + 1 : Nat) : Int) - 1) = (j : Int) by omega, Int.toNat_natCast]; exact hdj⟩; iterate 2 rfl)
           | (apply aU; iterate 3 rfl) | (apply bH; iterate 6 rfl) | (apply aW; iterate 7 rfl) | (apply bG; iterate 5 rfl)
           | (apply dX; iterate 4 rfl) | (apply CG; iterate 3 rfl) | (apply bT; rfl; exact I.a; iterate 4 rfl)
           | (apply gy (b := true); (iterate 2 rfl); exact aG; iterate 2 rfl) | (apply mF; (iterate 3 rfl); (focus omega); (focus omega); iterate 2 rfl)
           | (apply bD; (iterate 4 rfl); (focus (first | exact ⟨by decide, rfl⟩ | (refine ⟨by omega, ?_⟩; rw [Int.toNat_natCast]; assumption))); iterate 2 rfl)
           | (apply iP; iterate 5 rfl) | ((with_reducible apply EH.nil); rfl))
         repeat
          (first
           | (apply au; iterate 3 rfl) | (apply aj; iterate 3 rfl) | (apply eU; (iterate 3 rfl); (focus omega); (focus omega); iterate 2 rfl) | apply EL.nil
           | ((with_reducible apply EK.ah); apply EK.code) | (apply EC.cond_false; rfl) | (with_reducible first | apply EC.region | apply EC.skip | apply EK.aF))
         refine EK.again ⟨j + 1 + 1, hkl, hJ2⟩ (by dsimp only; omega) ?_
         dsimp only
         rw [show (((j + 1 : Nat) : Int) + 1) = ((j + 1 + 1 : Nat) : Int) by omega]
         exact Le.kp
        | false =>
         rw [hb] at hc hJ
         obtain rfl : rs = false := by rw [hJ]; rfl
         obtain rfl : res = false := by rw [hI]; rfl
         repeat
          (first
           | (apply au; iterate 3 rfl) | (apply dF; iterate 6 rfl) | (apply dA; rfl; exact I.a; iterate 4 rfl)
           | (apply aA (b := true); (iterate 2 rfl); exact aG; iterate 2 rfl) | (apply aB; iterate 4 rfl) | apply EL.nil | ((with_reducible apply EK.ah); apply EK.code)
           | (apply EC.cond_true; rfl) | (with_reducible first | apply EC.seq | apply EC.region | apply EC.skip | apply EC.block))
         refine EC.draw 29 (by kernel_rfl) ?_
         simp only [List.take_succ_cons, List.take_zero, List.drop_succ_cons, List.drop_zero]
         repeat
          (first
           | (apply fK; (iterate 2 rfl); exact hz; iterate 2 rfl) | (apply bP (hc); rfl; exact ak.refl _ _; exact enA; iterate 2 rfl)
           | (apply bD; (iterate 4 rfl); exact ⟨by omega, by rw [show (((j + 1 : Nat) : Int) - 1) = (j : Int) by omega, Int.toNat_natCast]; exact hdj⟩; iterate 2 rfl)
           | (apply aU; iterate 3 rfl) | (apply bH; iterate 6 rfl) | (apply aW; iterate 7 rfl) | (apply bG; iterate 5 rfl)
           | (apply dX; iterate 4 rfl) | (apply CG; iterate 3 rfl) | (apply bT; rfl; exact I.a; iterate 4 rfl)
           | (apply gy (b := true); (iterate 2 rfl); exact aG; iterate 2 rfl) | (apply mF; (iterate 3 rfl); (focus omega); (focus omega); iterate 2 rfl)
           | (apply bD; (iterate 4 rfl); (focus (first | exact ⟨by decide, rfl⟩ | (refine ⟨by omega, ?_⟩; rw [Int.toNat_natCast]; assumption))); iterate 2 rfl)
           | (apply iP; iterate 5 rfl) | ((with_reducible apply EH.nil); rfl))
         repeat
          (first
           | (apply aj; iterate 3 rfl) | apply EL.nil | ((with_reducible apply EK.ah); apply EK.code) | (apply EC.cond_true; rfl)
           | (with_reducible first | apply EC.seq | apply EC.region | apply EC.ret | apply EK.dS | apply EK.aI))
         exact EK.fV rfl rfl rfl
     ·
      obtain rfl : rs = true := by rw [hJ, List.drop_eq_nil_of_le (by omega), slM]
      have hI2 : res = qF (prevK Acc.a l ((q + 1) + 1)) (l.drop ((q + 1) + 1)) := by rw [hI, hnv]; rfl
      repeat
       (first
        | (apply au; iterate 3 rfl) | (apply aj; iterate 3 rfl) | (apply dF; iterate 6 rfl) | (apply dA; rfl; exact I.a; iterate 4 rfl)
        | (apply aA (b := false); (iterate 2 rfl); exact aG; iterate 2 rfl) | (apply eU; (iterate 3 rfl); (focus omega); (focus omega); iterate 2 rfl)
        | (apply aB; iterate 4 rfl) | apply EL.nil | ((with_reducible apply EK.ah); apply EK.code) | (apply EC.cond_false; rfl)
        | (with_reducible first | apply EC.seq | apply EC.region | apply EC.exit | apply EK.aF | apply EK.aZ | apply EK.aH))
      refine EK.again ⟨(q + 1) + 1, hlt, hI2⟩ (by dsimp only; omega) ?_
      dsimp only; rw [show ((q : Int) + 1 + 1) = ((q + 1 + 1 : Nat) : Int) by omega]
      exact Le.kp
 ·
  obtain rfl : res = true := by rw [hI, List.drop_eq_nil_of_le (by omega), qF]
  repeat
   (first
    | (apply au; iterate 3 rfl) | (apply aj; iterate 3 rfl) | (apply aA (b := false); (iterate 2 rfl); exact aG; iterate 2 rfl)
    | (apply aB; iterate 4 rfl) | apply EL.nil | ((with_reducible apply EK.ah); apply EK.code) | (apply EC.cond_false; rfl)
    | (with_reducible first | apply EC.seq | apply EC.region | apply EC.exit | apply EC.ret | apply EK.aZ | apply EK.aH))
  exact EK.fV rfl rfl rfl
end E
end Go.Proofs.YtiledgojbpmoiaaGreat
