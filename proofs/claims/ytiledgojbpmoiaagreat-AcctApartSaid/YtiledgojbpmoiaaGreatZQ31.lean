/-
 Merged (wip/tools/merge.py): OfW, NotW.
 Conditions: none.
-/
import Derived.Test.YtiledgojbpmoiaaGreatZQ18
import Derived.Test.YtiledgojbpmoiaaGreatZQ10
namespace Go.Proofs.YtiledgojbpmoiaaGreat
set_option linter.unusedVariables false
set_option maxRecDepth 20000
set_option maxHeartbeats 4000000
open Go.RowKit Mono Rlp
namespace E
def bytesOf : Nat → Nat → List UInt8 → List UInt8
 | 0, _, t => t
 | k + 1, m, t => bytesOf k (m / 256) (UInt8.ofNat m :: t)
def ofW (n : Nat) : List UInt8 := List.replicate 24 0 ++ bytesOf 8 n []
theorem WC (n : Nat) (hn : n ≤ 9223372036854775807) : Fn 18 [.v (.int .i64 (n : Int))] (· = .val (.arr 32 (ofW n))) := by
 refine Fn.walk 27 Tryz.func18 rfl Tryz.ntmps18 (by simp) fun X => ?_
 repeat
  (first
   | (apply aj; iterate 3 rfl) | (apply aV; rfl; rfl; rfl; intro _) | apply EL.nil | ((with_reducible apply EK.ah); apply EK.code)
   | (with_reducible first | apply EC.seq | apply EC.region | apply EC.skip | apply EC.label | apply EC.block | apply EC.exit | apply EC.ret | apply EK.aF | apply EK.aZ | apply EK.dS | apply EK.aI | apply EK.aH))
 rename_i g2 g3
 refine EC.loop (ι := {x : Nat × Nat × List UInt8 // x.1 ≤ 8 ∧ x.2.2.length = x.1 ∧ x.2.1 ≤ n ∧ bytesOf (8 - x.1) x.2.1 x.2.2 = bytesOf 8 n [] ∧ x.2.1 < 256 ^ (8 - x.1)})
  (fun x => ⟨[(4, .val (.v (.int .i64 (31 - (x.1.1 : Int))))), (0, .val (.v (.int .i64 (x.1.2.1 : Int)))), (2, .val (.v (.pointer (some ⟨g2, 0, none⟩)))), (3, .val (.v (.pointer (some ⟨g3, 0, none⟩))))], [.var g3 29 (.arr 32 (List.replicate (32 - x.1.1) 0 ++ x.1.2.2)), .var g2 29 (.arr 32 zero32)], []⟩)
  (fun x => 8 - x.1.1) ⟨(0, n, []), by omega, rfl, Nat.le_refl _, rfl, by dsimp only; omega⟩ ?_ ?_
 · exact Le.kp
 rintro ⟨⟨j, m, t⟩, hj, ht, hm, hb, h8⟩
 dsimp only at hj ht hm hb h8 ⊢
 have st : ∀ (k : Nat) (b : UInt8) (u : List UInt8), (List.replicate (k + 1) 0 ++ u).set k b = List.replicate k 0 ++ b :: u := fun k b u => by
  rw [List.replicate_succ', List.append_assoc, List.set_append_right _ _ (by simp)]
  simp
 by_cases hlt : j < 8
 ·
  have r1 := KI 3 m 8 (by omega) (by decide) 255 (by decide)
  have r2 := Va 3 m 8 (by decide)
  have c1 : ∀ w, (Go.convert 3 5 (n64 (m % 2 ^ 8))).run Tryz.prog w = .ok (bv (UInt8.ofNat m)) w := by
   rw [bv8]
   exact zG (T := 3) (U := 5) (k := .i64) (k' := .u8) Tryz.underlying3 Tryz.underlying5 ((m % 2 ^ 8 : Nat) : Int) ((m % 256 : Nat) : Int) (by rw [IntKind.wrap_u8]; omega)
  have o1 : 0 + ((31 : Int) - (j : Int)).toNat * 1 = 31 - j := by omega
  have hk1 : (0 : Int) ≤ (31 : Int) - (j : Int) ∧ ((31 : Int) - (j : Int)).toNat < 32 := ⟨by omega, by omega⟩
  have hst := st (31 - j) (UInt8.ofNat m) t
  rw [show 31 - j + 1 = 32 - j by omega] at hst
  generalize List.replicate (32 - j) 0 ++ t = Z at hst
  repeat
   (first
    | (apply iU; (iterate 2 rfl); exact r1; iterate 2 rfl) | (apply iU; (iterate 2 rfl); exact r2; iterate 2 rfl)
    | (apply D9; rfl; exact c1; iterate 3 rfl) | (apply sW; (iterate 3 rfl); exact hk1; iterate 2 rfl)
    | (apply zV; rfl; exact .z; rfl; rfl; (omega); rfl) | (apply au; iterate 3 rfl) | (apply aj; iterate 3 rfl)
    | (apply aA (b := true); (iterate 2 rfl); exact aG; iterate 2 rfl) | (apply eU; (iterate 3 rfl); (focus omega); (focus omega); iterate 2 rfl) | apply EL.nil
    | ((with_reducible apply EK.ah); apply EK.code) | (apply EC.cond_true; rfl)
    | (with_reducible first | apply EC.seq | apply EC.region | apply EC.skip | apply EC.label | apply EC.block | apply EC.exit | apply EC.ret | apply EK.aF | apply EK.aZ | apply EK.dS | apply EK.aI | apply EK.aH))
  refine EK.again ⟨(j + 1, m / 256, UInt8.ofNat m :: t), by omega, by simp [ht], Nat.le_trans (Nat.div_le_self _ _) hm, ?_, ?_⟩ (by dsimp only; omega) ?_
  · rw [← hb, show 8 - j = 8 - (j + 1) + 1 by omega, bytesOf]
  ·
   dsimp only
   rw [show 8 - j = 8 - (j + 1) + 1 by omega, Nat.pow_succ] at h8
   exact (Nat.div_lt_iff_lt_mul (by decide)).2 h8
  dsimp only
  rw [o1, hst, show 31 - j = 32 - (j + 1) by omega]
  rw [show (31 - (j : Int) - 1) = 31 - ((j + 1 : Nat) : Int) by omega]
  exact Le.kp
 ·
  obtain rfl : j = 8 := (by omega)
  obtain rfl : m = 0 := (by simpa using h8)
  rw [show 8 - 8 = 0 from rfl, bytesOf] at hb
  have hof : ofW n = List.replicate 24 0 ++ t := by unfold ofW; rw [← hb]
  rw [hof]
  clear hof hb st
  repeat
   (first
    | (apply au; iterate 3 rfl) | (apply aj; iterate 3 rfl) | (apply aA (b := false); (iterate 2 rfl); exact aG; iterate 2 rfl) | apply EL.nil
    | ((with_reducible apply EK.ah); apply EK.code) | (apply EC.cond_false; rfl)
    | (with_reducible first | apply EC.seq | apply EC.region | apply EC.skip | apply EC.label | apply EC.block | apply EC.exit | apply EC.ret | apply EK.aF | apply EK.aZ | apply EK.dS | apply EK.aI | apply EK.aH))
  refine EC.loop (ι := {k : Nat // k ≤ 24})
   (fun k => ⟨[(5, .val (.v (.int .i64 (k.1 : Int)))), (0, .val (.v (.int .i64 ((0 : Nat) : Int)))), (2, .val (.v (.pointer (some ⟨g2, 0, none⟩)))), (3, .val (.v (.pointer (some ⟨g3, 0, none⟩))))], [.var g3 29 (.arr 32 (List.replicate (32 - 8) 0 ++ t)), .var g2 29 (.arr 32 zero32)], []⟩)
   (fun k => 24 - k.1) ⟨0, by omega⟩ ?_ ?_
  · exact Le.kp
  rintro ⟨k, hk⟩
  dsimp only at hk ⊢
  by_cases hkl : k < 24
  ·
   have r1 := KI 3 0 8 (by omega) (by decide) 255 (by decide)
   have c1 : ∀ w, (Go.convert 3 5 (n64 (0 % 2 ^ 8))).run Tryz.prog w = .ok (bv (UInt8.ofNat 0)) w := by
    rw [bv8]
    exact zG (T := 3) (U := 5) (k := .i64) (k' := .u8) Tryz.underlying3 Tryz.underlying5 ((0 % 2 ^ 8 : Nat) : Int) ((0 % 256 : Nat) : Int) (by rw [IntKind.wrap_u8]; omega)
   have o1 : 0 + (k : Int).toNat * 1 = k := by omega
   have hk1 : (0 : Int) ≤ (k : Int) ∧ (k : Int).toNat < 32 := ⟨by omega, by omega⟩
   have hst : (List.replicate (32 - 8) (0 : UInt8) ++ t).set k (UInt8.ofNat 0) = List.replicate (32 - 8) 0 ++ t := by
    rw [List.set_append_left _ _ (by simp; omega)]
    congr 1
    apply List.ext_getElem (by simp)
    intro q h3 h4
    rw [List.getElem_set]
    split
    ·
     rw [List.getElem_replicate]
     rfl
    · rfl
   generalize List.replicate (32 - 8) 0 ++ t = Z at hst
   repeat
    (first
     | (apply iU; (iterate 2 rfl); exact r1; iterate 2 rfl) | (apply D9; rfl; exact c1; iterate 3 rfl)
     | (apply sW; (iterate 3 rfl); exact hk1; iterate 2 rfl) | (apply zV; rfl; exact .z; rfl; rfl; (omega); rfl) | (apply au; iterate 3 rfl)
     | (apply aj; iterate 3 rfl) | (apply aA (b := true); (iterate 2 rfl); exact aG; iterate 2 rfl)
     | (apply eU; (iterate 3 rfl); (focus omega); (focus omega); iterate 2 rfl) | apply EL.nil | ((with_reducible apply EK.ah); apply EK.code) | (apply EC.cond_true; rfl)
     | (with_reducible first | apply EC.seq | apply EC.region | apply EC.skip | apply EC.label | apply EC.block | apply EC.exit | apply EC.ret | apply EK.aF | apply EK.aZ | apply EK.dS | apply EK.aI | apply EK.aH))
   refine EK.again ⟨k + 1, hkl⟩ (by dsimp only; omega) ?_
   dsimp only
   rw [o1, hst]
   simp only [Int.natCast_add]
   exact Le.kp
  ·
   skip
   repeat
    (first
     | (apply au; iterate 3 rfl) | (apply dA; rfl; exact I.a; iterate 4 rfl) | (apply aA (b := false); (iterate 2 rfl); exact aG; iterate 2 rfl)
     | (apply aO; rfl; (focus (repeat first | exact .z | apply aY.s | apply aN.s)); iterate 4 rfl) | apply EL.nil | ((with_reducible apply EK.ah); apply EK.code)
     | (apply EC.cond_false; rfl)
     | (with_reducible first | apply EC.seq | apply EC.region | apply EC.skip | apply EC.label | apply EC.block | apply EC.exit | apply EC.ret | apply EK.aF | apply EK.aZ | apply EK.dS | apply EK.aI | apply EK.aH))
   refine EK.jF 1 rfl rfl rfl rfl ?_ rfl
   (exact RL.a)
theorem TQ : bits .xor .u8 0 255 = 255 := by decide +kernel
theorem U9 : Bin .xor 5 (.v (bv 0)) (.v (.int .u8 255)) (bv 255) := zM rfl fun w => by
 show Result.ok (Value.int .u8 (bits .xor .u8 0 255)) w = _
 rw [TQ]
 rfl
theorem Wq : ∀ q : BitVec 8, bits .xor .u8 (q.toNat : Int) 1 = ((q ^^^ 1).toNat : Int) := by decide +kernel
theorem U8 (b : UInt8) : Bin .xor 5 (.v (bv b)) (.v (.int .u8 1)) (bv (b ^^^ 1)) := zM rfl fun w => by
 show Result.ok (Value.int .u8 (bits .xor .u8 (b.toBitVec.toNat : Int) 1)) w = _
 rw [Wq]
 rfl
theorem Vq (b : UInt8) : b ^^^ 1 ≠ b := by
 have : ∀ q : BitVec 8, q ^^^ 1 ≠ q := by decide +kernel
 intro h
 exact this b.toBitVec (congrArg UInt8.toBitVec h)
def kJ : List UInt8 := List.replicate 32 255
theorem FV : kJ.length = 32 := by decide
theorem PU : Fn 17 [.arr 32 zero32] (· = .val (.arr 32 kJ)) := by
 have hx := U9
 refine Fn.walk 15 Tryz.func17 rfl Tryz.ntmps17 (by simp) fun X => ?_
 repeat
  (first
   | (apply aj; iterate 3 rfl) | (apply aV; rfl; rfl; rfl; intro _) | (apply jD; rfl; rfl; rfl; intro _) | apply EL.nil
   | ((with_reducible apply EK.ah); apply EK.code) | (with_reducible first | apply EC.seq | apply EC.region | apply EC.block))
 rename_i g1 g2
 refine EC.loop (ι := {k : Nat // k ≤ 32})
  (fun k => ⟨[(3, .val (.v (.int .i64 (k.1 : Int)))), (1, .val (.v (.pointer (some ⟨g1, 0, none⟩)))), (2, .val (.v (.pointer (some ⟨g2, 0, none⟩))))], [.var g2 29 (.arr 32 zero32), .var g1 29 (.arr 32 (List.replicate k.1 255 ++ List.replicate (32 - k.1) 0))], []⟩)
  (fun k => 32 - k.1) ⟨0, by omega⟩ ?_ ?_
 · exact Le.kp
 rintro ⟨k, hk⟩
 dsimp only at hk ⊢
 by_cases hkl : k < 32
 ·
  have hget : (List.replicate k (255 : UInt8) ++ List.replicate (32 - k) 0)[k]? = some 0 := by
   rw [List.getElem?_append_right (by simp), List.length_replicate, Nat.sub_self, List.getElem?_replicate, if_pos (by omega)]
  have hst : (List.replicate k (255 : UInt8) ++ List.replicate (32 - k) 0).set k 255 = List.replicate (k + 1) 255 ++ List.replicate (32 - (k + 1)) 0 := by
   rw [List.set_append_right _ _ (by simp), List.length_replicate, Nat.sub_self, show 32 - k = (32 - (k + 1)) + 1 by omega, List.replicate_succ, List.set_cons_zero, List.replicate_succ', List.append_assoc]
   rfl
  have o1 : 0 + (k : Int).toNat * 1 = k := by omega
  have hk1 : (0 : Int) ≤ (k : Int) ∧ (k : Int).toNat < 32 := ⟨by omega, by omega⟩
  generalize List.replicate k (255 : UInt8) ++ List.replicate (32 - k) 0 = Z at hst hget
  repeat
   (first
    | (apply iU; (iterate 2 rfl); exact hx; iterate 2 rfl) | (apply sW; (iterate 3 rfl); exact hk1; iterate 2 rfl)
    | (apply SX (i := 1) (b := 0); rfl; rfl; rfl; (rw [o1]; exact hget); iterate 2 rfl)
    | (apply zV; rfl; (repeat first | exact .z | apply aY.s); rfl; rfl; (omega); rfl) | (apply au; iterate 3 rfl) | (apply aj; iterate 3 rfl)
    | (apply aA (b := true); (iterate 2 rfl); exact aG; iterate 2 rfl) | (apply eU; (iterate 3 rfl); (focus omega); (focus omega); iterate 2 rfl) | apply EL.nil
    | ((with_reducible apply EK.ah); apply EK.code) | (apply EC.cond_true; rfl) | (with_reducible first | apply EC.seq | apply EC.region | apply EC.skip | apply EC.block | apply EK.aF))
  refine EK.again ⟨k + 1, hkl⟩ (by dsimp only; omega) ?_
  dsimp only
  rw [o1, hst]
  simp only [Int.natCast_add]
  exact Le.kp
 ·
  obtain rfl : k = 32 := by omega
  repeat
   (first
    | (apply au; iterate 3 rfl) | (apply dA; rfl; exact I.a; iterate 4 rfl) | (apply aA (b := false); (iterate 2 rfl); exact aG; iterate 2 rfl)
    | (apply aO; rfl; (focus (repeat first | exact .z | apply aY.s | apply aN.s)); iterate 4 rfl) | apply EL.nil | ((with_reducible apply EK.ah); apply EK.code)
    | (apply EC.cond_false; rfl) | (with_reducible first | apply EC.seq | apply EC.region | apply EC.exit | apply EC.ret | apply EK.aZ | apply EK.aH))
  refine EK.jF 0 rfl rfl rfl rfl ?_ rfl
  (exact RL.a)
end E
end Go.Proofs.YtiledgojbpmoiaaGreat
