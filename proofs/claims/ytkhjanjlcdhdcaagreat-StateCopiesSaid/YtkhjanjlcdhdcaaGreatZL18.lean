/-
 Merged: lemmas of this claim.
 Conditions: none.
-/
import Derived.Test.YtkhjanjlcdhdcaaGreatZL11
import Derived.Laws.BitsAllLaws
import Derived.Test.YtkhjanjlcdhdcaaGreatZL0
namespace Go.Proofs.YtkhjanjlcdhdcaaGreat
set_option linter.unusedVariables false
set_option maxRecDepth 20000
set_option maxHeartbeats 8000000
open Go.RowKit Mono Rlp Wd
namespace E
abbrev u64 (n : Nat) : Value := .int .u64 (n : Int)
def dLs (ls : List Nat) : D := .tup ((ls.map u64).map .v)
theorem nG (x y c : Nat) (hc : c ≤ 1) : ∀ w, (callFunc 82 [u64 x, u64 y, u64 c].toArray).run Tryz.prog w = .ok (.value (.tuple [u64 ((x + y + c) % 18446744073709551616), u64 ((x + y + c) / 18446744073709551616)].toArray)) w := fun w => by
 rw [run_callFunc_extern Tryz.func82 (by kernel_rfl) (by kernel_rfl) (by kernel_rfl) (e := add64Entry) (by kernel_rfl)]
 have := run_add64 (P := Tryz.prog) (x : Int) (y : Int) (c : Int) (by omega) (by omega) (by omega) (by omega) w
 rw [show ([u64 x, u64 y, u64 c].toArray : Array Value) = #[.int .u64 (x : Int), .int .u64 (y : Int), .int .u64 (c : Int)] from rfl, this]
 simp only [Result.andThen, u64]
 congr 5 <;> simp
def sub64Entry : Array Value → Sem Value := fun args => do
 let (x, y, b) ← Extern.MathBitsCarry.three "Sub64" args
 pure (Extern.MathBitsCarry.pair ((x + Extern.MathBitsCarry.m64 - y - b) % Extern.MathBitsCarry.m64) (if x < y + b then 1 else 0))
theorem Df (x y c : Nat) (hc : c ≤ 1) : ∀ w, (callFunc 83 [u64 x, u64 y, u64 c].toArray).run Tryz.prog w = .ok (.value (.tuple [u64 ((x + 18446744073709551616 - y - c) % 18446744073709551616), u64 (if x < y + c then 1 else 0)].toArray)) w := fun w => by
 rw [run_callFunc_extern Tryz.func83 (by kernel_rfl) (by kernel_rfl) (by kernel_rfl) (e := sub64Entry) (by kernel_rfl)]
 have key : c = 0 ∨ c = 1 := by omega
 rcases key with rfl | rfl <;> rfl
theorem xC (ls ms : List Nat) (hl : ls.length = 4) (hm : ms.length = 4) (h1 : ∀ x ∈ ls, x < 18446744073709551616) (h2 : ∀ x ∈ ms, x < 18446744073709551616) :
  ∃ os c, Fn 69 [dLs ls, dLs ms] (· = .tpl [dLs os, .v (u64 c)]) ∧ os.length = 4 ∧ (∀ x ∈ os, x < 18446744073709551616) ∧ Wd.le 18446744073709551616 os + 18446744073709551616 ^ 4 * c = Wd.le 18446744073709551616 ls + Wd.le 18446744073709551616 ms := by
 obtain ⟨a0, a1, a2, a3, rfl⟩ : ∃ a0 a1 a2 a3, ls = [a0, a1, a2, a3] := by
  match ls, hl with
  | [a, b, c, d], _ => exact ⟨a, b, c, d, rfl⟩
 obtain ⟨b0, b1, b2, b3, rfl⟩ : ∃ a0 a1 a2 a3, ms = [a0, a1, a2, a3] := by
  match ms, hm with
  | [a, b, c, d], _ => exact ⟨a, b, c, d, rfl⟩
 simp only [KI, Na, or_false, forall_eq_or_imp, forall_eq] at h1 h2
 have e0 := nG a0 b0 0 (by omega)
 have e1 := nG a1 b1 ((a0 + b0 + 0) / 18446744073709551616) (by omega)
 generalize hc1 : (a0 + b0 + 0) / 18446744073709551616 = c1 at e0 e1
 generalize hs0 : (a0 + b0 + 0) % 18446744073709551616 = s0 at e0
 have e2 := nG a2 b2 ((a1 + b1 + c1) / 18446744073709551616) (by omega)
 generalize hc2 : (a1 + b1 + c1) / 18446744073709551616 = c2 at e1 e2
 generalize hs1 : (a1 + b1 + c1) % 18446744073709551616 = s1 at e1
 have e3 := nG a3 b3 ((a2 + b2 + c2) / 18446744073709551616) (by omega)
 generalize hc3 : (a2 + b2 + c2) / 18446744073709551616 = c3 at e2 e3
 generalize hs2 : (a2 + b2 + c2) % 18446744073709551616 = s2 at e2
 generalize hc4 : (a3 + b3 + c3) / 18446744073709551616 = c4 at e3
 generalize hs3 : (a3 + b3 + c3) % 18446744073709551616 = s3 at e3
 have hv : ∀ x y : Nat, ∀ z ∈ [u64 x, u64 y], z.oneCell' = true := fun x y z hz => by
  simp only [KI, Na, or_false] at hz
  rcases hz with rfl | rfl <;> rfl
 refine ⟨[s0, s1, s2, s3], c4, ?_, rfl, ?_, ?_⟩
 ·
  refine Fn.walk 28 Tryz.func69 rfl Tryz.ntmps69 (by simp) fun X => ?_
  simp only [dLs, Lc, MB]
  repeat
   (first
    | (apply aB; iterate 3 rfl) | (apply ak; iterate 3 rfl) | (apply bW; rfl; rfl; rfl; intro _) | (apply aV; rfl; rfl; rfl; intro _)
    | apply EL.nil
    | (with_reducible first | apply EK.nc | apply EC.seq | apply EC.r0 | apply EC.k0 | apply EC.label | apply EC.b0 | apply EC.x0 | apply EC.ret | apply EK.n0 | apply EK.s0 | apply EK.aA | apply EK.aj | apply EK.ah))
  refine EC.yY 5 ?_
  apply EK.round
  repeat
   (first
    | (apply aB; iterate 3 rfl) | (apply ak; iterate 3 rfl) | (apply aC (b := true); (iterate 2 rfl); exact aN; iterate 2 rfl) | apply EL.nil
    | (apply EC.t0; rfl)
    | (with_reducible first | apply EK.nc | apply EC.seq | apply EC.r0 | apply EC.k0 | apply EC.label | apply EC.b0 | apply EC.x0 | apply EC.ret | apply EK.n0 | apply EK.s0 | apply EK.aA | apply EK.aj | apply EK.ah))
  refine EC.dL 14 [0, 1, 2, 3, 4, 5, 6, 7, 8, 9, 10, 11] [12, 13] [_] _ (by kernel_rfl) (by kernel_rfl) rfl ?_
  simp only [aQ, KJ, KN, KD, KF]
  repeat
   (first
    | (apply rC e0 (hv _ _); iterate 3 rfl) | (apply bG; (iterate 3 rfl); exact ⟨by decide, by decide⟩; iterate 2 rfl) | (apply aJ; iterate 3 rfl)
    | (apply gU; iterate 4 rfl) | (apply aG; rfl; exact I.a; iterate 4 rfl))
  refine EM.nil ?_
  repeat (first | rw [Kr] | rw [Kt])
  refine CH.cut 1 ?_
  simp only [Kv, Kz, Ku, Kw]
  repeat
   (first
    | (apply bG; (iterate 3 rfl); exact ⟨by decide, by decide⟩; iterate 2 rfl))
  refine EM.nil ?_
  repeat (first | rw [Kr] | rw [Kt])
  refine CH.mut (os := [_]) (rest := []) rfl rfl (pI (gI rfl rfl rfl rfl rfl)) ?_
  rintro _ _ ⟨rfl, rfl⟩
  try simp only [St.put]
  repeat (first | rw [Kr] | rw [Kt])
  refine CH.nil ?_
  try simp only [Ku, Kw]
  repeat
   (first
    | (apply aB; iterate 3 rfl) | (apply ak; iterate 3 rfl) | (apply aC (b := true); (iterate 2 rfl); exact aN; iterate 2 rfl)
    | (apply dQ; (iterate 3 rfl); (focus omega); (focus omega); iterate 2 rfl) | ((with_reducible apply EK.h0); apply EK.round) | apply EL.nil
    | (apply EC.t0; rfl)
    | (with_reducible first | apply EK.nc | apply EC.seq | apply EC.r0 | apply EC.k0 | apply EC.label | apply EC.b0 | apply EC.x0 | apply EC.ret | apply EK.n0 | apply EK.s0 | apply EK.aA | apply EK.aj | apply EK.ah))
  refine EC.dL 14 [0, 1, 2, 3, 4, 5, 6, 7, 8, 9, 10, 11] [12, 13] [_] _ (by kernel_rfl) (by kernel_rfl) rfl ?_
  simp only [aQ, KJ, KN, KD, KF]
  repeat
   (first
    | (apply rC e1 (hv _ _); iterate 3 rfl) | (apply bG; (iterate 3 rfl); exact ⟨by decide, by decide⟩; iterate 2 rfl) | (apply aJ; iterate 3 rfl)
    | (apply gU; iterate 4 rfl) | (apply aG; rfl; exact I.a; iterate 4 rfl))
  refine EM.nil ?_
  repeat (first | rw [Kr] | rw [Kt])
  refine CH.cut 1 ?_
  simp only [Kv, Kz, Ku, Kw]
  repeat
   (first
    | (apply bG; (iterate 3 rfl); exact ⟨by decide, by decide⟩; iterate 2 rfl))
  refine EM.nil ?_
  repeat (first | rw [Kr] | rw [Kt])
  refine CH.mut (os := [_]) (rest := []) rfl rfl (pI (gI rfl rfl rfl rfl rfl)) ?_
  rintro _ _ ⟨rfl, rfl⟩
  try simp only [St.put]
  repeat (first | rw [Kr] | rw [Kt])
  refine CH.nil ?_
  try simp only [Ku, Kw]
  repeat
   (first
    | (apply aB; iterate 3 rfl) | (apply ak; iterate 3 rfl) | (apply aC (b := true); (iterate 2 rfl); exact aN; iterate 2 rfl)
    | (apply dQ; (iterate 3 rfl); (focus omega); (focus omega); iterate 2 rfl) | ((with_reducible apply EK.h0); apply EK.round) | apply EL.nil
    | (apply EC.t0; rfl)
    | (with_reducible first | apply EK.nc | apply EC.seq | apply EC.r0 | apply EC.k0 | apply EC.label | apply EC.b0 | apply EC.x0 | apply EC.ret | apply EK.n0 | apply EK.s0 | apply EK.aA | apply EK.aj | apply EK.ah))
  refine EC.dL 14 [0, 1, 2, 3, 4, 5, 6, 7, 8, 9, 10, 11] [12, 13] [_] _ (by kernel_rfl) (by kernel_rfl) rfl ?_
  simp only [aQ, KJ, KN, KD, KF]
  repeat
   (first
    | (apply rC e2 (hv _ _); iterate 3 rfl) | (apply bG; (iterate 3 rfl); exact ⟨by decide, by decide⟩; iterate 2 rfl) | (apply aJ; iterate 3 rfl)
    | (apply gU; iterate 4 rfl) | (apply aG; rfl; exact I.a; iterate 4 rfl))
  refine EM.nil ?_
  repeat (first | rw [Kr] | rw [Kt])
  refine CH.cut 1 ?_
  simp only [Kv, Kz, Ku, Kw]
  repeat
   (first
    | (apply bG; (iterate 3 rfl); exact ⟨by decide, by decide⟩; iterate 2 rfl))
  refine EM.nil ?_
  repeat (first | rw [Kr] | rw [Kt])
  refine CH.mut (os := [_]) (rest := []) rfl rfl (pI (gI rfl rfl rfl rfl rfl)) ?_
  rintro _ _ ⟨rfl, rfl⟩
  try simp only [St.put]
  repeat (first | rw [Kr] | rw [Kt])
  refine CH.nil ?_
  try simp only [Ku, Kw]
  repeat
   (first
    | (apply aB; iterate 3 rfl) | (apply ak; iterate 3 rfl) | (apply aC (b := true); (iterate 2 rfl); exact aN; iterate 2 rfl)
    | (apply dQ; (iterate 3 rfl); (focus omega); (focus omega); iterate 2 rfl) | ((with_reducible apply EK.h0); apply EK.round) | apply EL.nil
    | (apply EC.t0; rfl)
    | (with_reducible first | apply EK.nc | apply EC.seq | apply EC.r0 | apply EC.k0 | apply EC.label | apply EC.b0 | apply EC.x0 | apply EC.ret | apply EK.n0 | apply EK.s0 | apply EK.aA | apply EK.aj | apply EK.ah))
  refine EC.dL 14 [0, 1, 2, 3, 4, 5, 6, 7, 8, 9, 10, 11] [12, 13] [_] _ (by kernel_rfl) (by kernel_rfl) rfl ?_
  simp only [aQ, KJ, KN, KD, KF]
  repeat
   (first
    | (apply rC e3 (hv _ _); iterate 3 rfl) | (apply bG; (iterate 3 rfl); exact ⟨by decide, by decide⟩; iterate 2 rfl) | (apply aJ; iterate 3 rfl)
    | (apply gU; iterate 4 rfl) | (apply aG; rfl; exact I.a; iterate 4 rfl))
  refine EM.nil ?_
  repeat (first | rw [Kr] | rw [Kt])
  refine CH.cut 1 ?_
  simp only [Kv, Kz, Ku, Kw]
  repeat
   (first
    | (apply bG; (iterate 3 rfl); exact ⟨by decide, by decide⟩; iterate 2 rfl))
  refine EM.nil ?_
  repeat (first | rw [Kr] | rw [Kt])
  refine CH.mut (os := [_]) (rest := []) rfl rfl (pI (gI rfl rfl rfl rfl rfl)) ?_
  rintro _ _ ⟨rfl, rfl⟩
  try simp only [St.put]
  repeat (first | rw [Kr] | rw [Kt])
  refine CH.nil ?_
  try simp only [Ku, Kw]
  repeat
   (first
    | (apply aB; iterate 3 rfl) | (apply ak; iterate 3 rfl) | (apply aF; rfl; exact I.a; iterate 4 rfl)
    | (apply aC (b := false); (iterate 2 rfl); exact aN; iterate 2 rfl) | (apply dQ; (iterate 3 rfl); (focus omega); (focus omega); iterate 2 rfl)
    | (apply aO; rfl; exact saA; iterate 4 rfl) | ((with_reducible apply EK.h0); apply EK.round) | apply EL.nil
    | (apply EC.f0; rfl)
    | (with_reducible first | apply EK.nc | apply EC.seq | apply EC.r0 | apply EC.k0 | apply EC.label | apply EC.b0 | apply EC.x0 | apply EC.ret | apply EK.n0 | apply EK.s0 | apply EK.aA | apply EK.aj | apply EK.ah))
  refine EK.IU 1 rfl rfl rfl rfl rfl ?_ rfl
  (exact RL.a)
 ·
  intro x hx
  simp only [KI, Na, or_false] at hx
  omega
 ·
  simp only [Wd.le]
  omega
theorem xA (ls ms : List Nat) (hl : ls.length = 4) (hm : ms.length = 4) (h1 : ∀ x ∈ ls, x < 18446744073709551616) (h2 : ∀ x ∈ ms, x < 18446744073709551616) :
  ∃ os c, Fn 71 [dLs ls, dLs ms] (· = .val (dLs os)) ∧ os.length = 4 ∧ (∀ x ∈ os, x < 18446744073709551616) ∧ c ≤ 1 ∧ Wd.le 18446744073709551616 os + Wd.le 18446744073709551616 ms = Wd.le 18446744073709551616 ls + 18446744073709551616 ^ 4 * c := by
 obtain ⟨a0, a1, a2, a3, rfl⟩ : ∃ a0 a1 a2 a3, ls = [a0, a1, a2, a3] := by
  match ls, hl with
  | [a, b, c, d], _ => exact ⟨a, b, c, d, rfl⟩
 obtain ⟨b0, b1, b2, b3, rfl⟩ : ∃ a0 a1 a2 a3, ms = [a0, a1, a2, a3] := by
  match ms, hm with
  | [a, b, c, d], _ => exact ⟨a, b, c, d, rfl⟩
 simp only [KI, Na, or_false, forall_eq_or_imp, forall_eq] at h1 h2
 have one : ∀ a b c : Nat, a < 18446744073709551616 → b < 18446744073709551616 → c ≤ 1 → ∃ s d, s < 18446744073709551616 ∧ d ≤ 1 ∧ s + b + c = a + 18446744073709551616 * d ∧ ∀ w, (callFunc 83 [u64 a, u64 b, u64 c].toArray).run Tryz.prog w = .ok (.value (.tuple [u64 s, u64 d].toArray)) w := fun a b c ha hb hc => by
  refine ⟨(a + 18446744073709551616 - b - c) % 18446744073709551616, if a < b + c then 1 else 0, by omega, by split <;> omega, by split <;> omega, fun w => ?_⟩
  rw [Df a b c hc w]
 obtain ⟨s0, c1, hs0, hc1, q0, e0⟩ := one a0 b0 0 h1.1 h2.1 (by omega)
 obtain ⟨s1, c2, hs1, hc2, q1, e1⟩ := one a1 b1 c1 h1.2.1 h2.2.1 hc1
 obtain ⟨s2, c3, hs2, hc3, q2, e2⟩ := one a2 b2 c2 h1.2.2.1 h2.2.2.1 hc2
 obtain ⟨s3, c4, hs3, hc4, q3, e3⟩ := one a3 b3 c3 h1.2.2.2 h2.2.2.2 hc3
 have hv : ∀ x y : Nat, ∀ z ∈ [u64 x, u64 y], z.oneCell' = true := fun x y z hz => by
  simp only [KI, Na, or_false] at hz
  rcases hz with rfl | rfl <;> rfl
 refine ⟨[s0, s1, s2, s3], c4, ?_, rfl, ?_, hc4, ?_⟩
 ·
  refine Fn.walk 26 Tryz.func71 rfl Tryz.ntmps71 (by simp) fun X => ?_
  simp only [dLs, Lc, MB]
  repeat
   (first
    | (apply aB; iterate 3 rfl) | (apply ak; iterate 3 rfl) | (apply bW; rfl; rfl; rfl; intro _) | (apply aV; rfl; rfl; rfl; intro _)
    | apply EL.nil
    | (with_reducible first | apply EK.nc | apply EC.seq | apply EC.r0 | apply EC.k0 | apply EC.label | apply EC.b0 | apply EC.x0 | apply EC.ret | apply EK.n0 | apply EK.s0 | apply EK.aA | apply EK.aj | apply EK.ah))
  refine EC.yY 5 ?_
  apply EK.round
  repeat
   (first
    | (apply aB; iterate 3 rfl) | (apply ak; iterate 3 rfl) | (apply aC (b := true); (iterate 2 rfl); exact aN; iterate 2 rfl) | apply EL.nil
    | (apply EC.t0; rfl)
    | (with_reducible first | apply EK.nc | apply EC.seq | apply EC.r0 | apply EC.k0 | apply EC.label | apply EC.b0 | apply EC.x0 | apply EC.ret | apply EK.n0 | apply EK.s0 | apply EK.aA | apply EK.aj | apply EK.ah))
  refine EC.dL 14 [0, 1, 2, 3, 4, 5, 6, 7, 8, 9, 10, 11] [12, 13] [_] _ (by kernel_rfl) (by kernel_rfl) rfl ?_
  simp only [aQ, KJ, KN, KD, KF]
  repeat
   (first
    | (apply rC e0 (hv _ _); iterate 3 rfl) | (apply bG; (iterate 3 rfl); exact ⟨by decide, by decide⟩; iterate 2 rfl) | (apply aJ; iterate 3 rfl)
    | (apply gU; iterate 4 rfl) | (apply aG; rfl; exact I.a; iterate 4 rfl))
  refine EM.nil ?_
  repeat (first | rw [Kr] | rw [Kt])
  refine CH.cut 1 ?_
  simp only [Kv, Kz, Ku, Kw]
  repeat
   (first
    | (apply bG; (iterate 3 rfl); exact ⟨by decide, by decide⟩; iterate 2 rfl))
  refine EM.nil ?_
  repeat (first | rw [Kr] | rw [Kt])
  refine CH.mut (os := [_]) (rest := []) rfl rfl (pI (gI rfl rfl rfl rfl rfl)) ?_
  rintro _ _ ⟨rfl, rfl⟩
  try simp only [St.put]
  repeat (first | rw [Kr] | rw [Kt])
  refine CH.nil ?_
  try simp only [Ku, Kw]
  repeat
   (first
    | (apply aB; iterate 3 rfl) | (apply ak; iterate 3 rfl) | (apply aC (b := true); (iterate 2 rfl); exact aN; iterate 2 rfl)
    | (apply dQ; (iterate 3 rfl); (focus omega); (focus omega); iterate 2 rfl) | ((with_reducible apply EK.h0); apply EK.round) | apply EL.nil
    | (apply EC.t0; rfl)
    | (with_reducible first | apply EK.nc | apply EC.seq | apply EC.r0 | apply EC.k0 | apply EC.label | apply EC.b0 | apply EC.x0 | apply EC.ret | apply EK.n0 | apply EK.s0 | apply EK.aA | apply EK.aj | apply EK.ah))
  refine EC.dL 14 [0, 1, 2, 3, 4, 5, 6, 7, 8, 9, 10, 11] [12, 13] [_] _ (by kernel_rfl) (by kernel_rfl) rfl ?_
  simp only [aQ, KJ, KN, KD, KF]
  repeat
   (first
    | (apply rC e1 (hv _ _); iterate 3 rfl) | (apply bG; (iterate 3 rfl); exact ⟨by decide, by decide⟩; iterate 2 rfl) | (apply aJ; iterate 3 rfl)
    | (apply gU; iterate 4 rfl) | (apply aG; rfl; exact I.a; iterate 4 rfl))
  refine EM.nil ?_
  repeat (first | rw [Kr] | rw [Kt])
  refine CH.cut 1 ?_
  simp only [Kv, Kz, Ku, Kw]
  repeat
   (first
    | (apply bG; (iterate 3 rfl); exact ⟨by decide, by decide⟩; iterate 2 rfl))
  refine EM.nil ?_
  repeat (first | rw [Kr] | rw [Kt])
  refine CH.mut (os := [_]) (rest := []) rfl rfl (pI (gI rfl rfl rfl rfl rfl)) ?_
  rintro _ _ ⟨rfl, rfl⟩
  try simp only [St.put]
  repeat (first | rw [Kr] | rw [Kt])
  refine CH.nil ?_
  try simp only [Ku, Kw]
  repeat
   (first
    | (apply aB; iterate 3 rfl) | (apply ak; iterate 3 rfl) | (apply aC (b := true); (iterate 2 rfl); exact aN; iterate 2 rfl)
    | (apply dQ; (iterate 3 rfl); (focus omega); (focus omega); iterate 2 rfl) | ((with_reducible apply EK.h0); apply EK.round) | apply EL.nil
    | (apply EC.t0; rfl)
    | (with_reducible first | apply EK.nc | apply EC.seq | apply EC.r0 | apply EC.k0 | apply EC.label | apply EC.b0 | apply EC.x0 | apply EC.ret | apply EK.n0 | apply EK.s0 | apply EK.aA | apply EK.aj | apply EK.ah))
  refine EC.dL 14 [0, 1, 2, 3, 4, 5, 6, 7, 8, 9, 10, 11] [12, 13] [_] _ (by kernel_rfl) (by kernel_rfl) rfl ?_
  simp only [aQ, KJ, KN, KD, KF]
  repeat
   (first
    | (apply rC e2 (hv _ _); iterate 3 rfl) | (apply bG; (iterate 3 rfl); exact ⟨by decide, by decide⟩; iterate 2 rfl) | (apply aJ; iterate 3 rfl)
    | (apply gU; iterate 4 rfl) | (apply aG; rfl; exact I.a; iterate 4 rfl))
  refine EM.nil ?_
  repeat (first | rw [Kr] | rw [Kt])
  refine CH.cut 1 ?_
  simp only [Kv, Kz, Ku, Kw]
  repeat
   (first
    | (apply bG; (iterate 3 rfl); exact ⟨by decide, by decide⟩; iterate 2 rfl))
  refine EM.nil ?_
  repeat (first | rw [Kr] | rw [Kt])
  refine CH.mut (os := [_]) (rest := []) rfl rfl (pI (gI rfl rfl rfl rfl rfl)) ?_
  rintro _ _ ⟨rfl, rfl⟩
  try simp only [St.put]
  repeat (first | rw [Kr] | rw [Kt])
  refine CH.nil ?_
  try simp only [Ku, Kw]
  repeat
   (first
    | (apply aB; iterate 3 rfl) | (apply ak; iterate 3 rfl) | (apply aC (b := true); (iterate 2 rfl); exact aN; iterate 2 rfl)
    | (apply dQ; (iterate 3 rfl); (focus omega); (focus omega); iterate 2 rfl) | ((with_reducible apply EK.h0); apply EK.round) | apply EL.nil
    | (apply EC.t0; rfl)
    | (with_reducible first | apply EK.nc | apply EC.seq | apply EC.r0 | apply EC.k0 | apply EC.label | apply EC.b0 | apply EC.x0 | apply EC.ret | apply EK.n0 | apply EK.s0 | apply EK.aA | apply EK.aj | apply EK.ah))
  refine EC.dL 14 [0, 1, 2, 3, 4, 5, 6, 7, 8, 9, 10, 11] [12, 13] [_] _ (by kernel_rfl) (by kernel_rfl) rfl ?_
  simp only [aQ, KJ, KN, KD, KF]
  repeat
   (first
    | (apply rC e3 (hv _ _); iterate 3 rfl) | (apply bG; (iterate 3 rfl); exact ⟨by decide, by decide⟩; iterate 2 rfl) | (apply aJ; iterate 3 rfl)
    | (apply gU; iterate 4 rfl) | (apply aG; rfl; exact I.a; iterate 4 rfl))
  refine EM.nil ?_
  repeat (first | rw [Kr] | rw [Kt])
  refine CH.cut 1 ?_
  simp only [Kv, Kz, Ku, Kw]
  repeat
   (first
    | (apply bG; (iterate 3 rfl); exact ⟨by decide, by decide⟩; iterate 2 rfl))
  refine EM.nil ?_
  repeat (first | rw [Kr] | rw [Kt])
  refine CH.mut (os := [_]) (rest := []) rfl rfl (pI (gI rfl rfl rfl rfl rfl)) ?_
  rintro _ _ ⟨rfl, rfl⟩
  try simp only [St.put]
  repeat (first | rw [Kr] | rw [Kt])
  refine CH.nil ?_
  try simp only [Ku, Kw]
  repeat
   (first
    | (apply aB; iterate 3 rfl) | (apply ak; iterate 3 rfl) | (apply aF; rfl; exact I.a; iterate 4 rfl)
    | (apply aC (b := false); (iterate 2 rfl); exact aN; iterate 2 rfl) | (apply dQ; (iterate 3 rfl); (focus omega); (focus omega); iterate 2 rfl)
    | (apply aO; rfl; exact saA; iterate 4 rfl) | ((with_reducible apply EK.h0); apply EK.round) | apply EL.nil
    | (apply EC.f0; rfl)
    | (with_reducible first | apply EK.nc | apply EC.seq | apply EC.r0 | apply EC.k0 | apply EC.label | apply EC.b0 | apply EC.x0 | apply EC.ret | apply EK.n0 | apply EK.s0 | apply EK.aA | apply EK.aj | apply EK.ah))
  refine EK.l7 1 rfl rfl rfl rfl ?_ rfl
  (exact RL.a)
 ·
  intro x hx
  simp only [KI, Na, or_false] at hx
  omega
 ·
  simp only [Wd.le]
  omega
theorem rF {ls : List Nat} {k : Nat} (hk : k < ls.length) : (ls.map u64)[k]? = some (u64 ls[k]) := by rw [List.getElem?_map, KA hk]; rfl
theorem xB (ls ms : List Nat) (hl : ls.length = 4) (hm : ms.length = 4) (h1 : ∀ x ∈ ls, x < 18446744073709551616) (h2 : ∀ x ∈ ms, x < 18446744073709551616) :
  Fn 68 [dLs ls, dLs ms] (· = .val (.v (.int .i64 (mW (Wd.le 18446744073709551616 ls) (Wd.le 18446744073709551616 ms))))) := by
 refine Fn.walk 26 Tryz.func68 rfl Tryz.ntmps68 (by simp) fun X => ?_
 repeat
  (first
   | (apply ak; iterate 3 rfl) | (apply aV; rfl; rfl; rfl; intro _) | apply EL.nil
   | (with_reducible first | apply EK.nc | apply EC.seq | apply EC.r0 | apply EC.k0 | apply EC.label | apply EC.b0 | apply EC.x0 | apply EC.ret | apply EK.n0 | apply EK.s0 | apply EK.aA | apply EK.aj | apply EK.ah))
 rename_i g2 g3
 refine EC.loop (ι := {p : Nat // p ≤ 4 ∧ ls.drop p = ms.drop p})
  (fun p => ⟨[(5, .val (.v (.int .i64 ((p.1 : Int) - 1)))), (2, .val (.v (.pointer (some ⟨g2, 0, none⟩)))), (3, .val (.v (.pointer (some ⟨g3, 0, none⟩))))], [.var g3 125 (dLs ms), .var g2 125 (dLs ls)], []⟩)
  (fun p => p.1) ⟨4, by omega, by rw [LZ (by omega), LZ (by omega)]⟩ ?_ ?_
 · exact Le.kp
 rintro ⟨p, hp, hd⟩
 dsimp only at hp hd ⊢
 cases p with
 | zero =>
  have e : ls = ms := by simpa using hd
  subst e
  repeat
   (first
    | (apply aB; iterate 3 rfl) | (apply ak; iterate 3 rfl) | (apply aC (b := false); (iterate 2 rfl); exact aN; iterate 2 rfl) | apply EL.nil
    | (apply EC.f0; rfl)
    | (with_reducible first | apply EK.nc | apply EC.seq | apply EC.r0 | apply EC.k0 | apply EC.label | apply EC.b0 | apply EC.x0 | apply EC.ret | apply EK.n0 | apply EK.s0 | apply EK.aA | apply EK.aj | apply EK.ah))
  refine EK.kC rfl rfl ?_
  unfold mW
  simp
 | succ p =>
  have hpl : p < ls.length := by omega
  have hpm : p < ms.length := by omega
  have g1 := wC (rF hpl)
  have g4 := wC (rF hpm)
  have ek : (((p + 1 : Nat) : Int) - 1) = (p : Int) := by omega
  rw [ek]
  have hk : (0 : Int) ≤ (p : Int) ∧ ((p : Int)).toNat < 4 := ⟨by omega, by omega⟩
  have hoff : 0 + ((p : Int)).toNat * 1 = p := by omega
  rcases MW ls[p] ms[p] with hc | hc | hc
  ·
   have hlt := pO ls ms (by omega) h1 h2 p hpl (by simpa using hd) hc
   have hcmp : lJ .lss (ls[p] : Int) (ms[p] : Int) = some true := by simp [lJ]; omega
   repeat
    (first
     | (apply aB; iterate 3 rfl) | (apply aC (b := true); (iterate 2 rfl); exact aN; iterate 2 rfl) | apply EL.nil
     | (apply EC.t0; rfl)
     | (with_reducible first | apply EK.nc | apply EC.seq | apply EC.r0 | apply EC.k0 | apply EC.label | apply EC.b0 | apply EC.x0 | apply EC.ret | apply EK.n0 | apply EK.s0 | apply EK.aA | apply EK.aj | apply EK.ah))
   refine EC.draw 8 (by kernel_rfl) ?_
   simp only [Kv, Kz, Ku, Kw]
   repeat
    (first
     | (apply bG; (iterate 3 rfl); exact hk; iterate 2 rfl)
     | (apply aG; rfl; (first | exact I0 | exact I1); rfl; (rw [hoff]; first | exact g1 | exact g4); iterate 2 rfl)
     | (apply fP; (iterate 2 rfl); exact hcmp; iterate 2 rfl) | (apply aJ; iterate 3 rfl) | (apply jJ; iterate 3 rfl) | ((with_reducible apply EH.nil); rfl))
   repeat
    (first
     | (apply ak; iterate 3 rfl) | apply EL.nil | (apply EC.t0; rfl)
     | (with_reducible first | apply EK.nc | apply EC.seq | apply EC.r0 | apply EC.k0 | apply EC.label | apply EC.b0 | apply EC.x0 | apply EC.ret | apply EK.n0 | apply EK.s0 | apply EK.aA | apply EK.aj | apply EK.ah))
   refine EK.kC rfl rfl ?_
   unfold mW
   simp [hlt]
  ·
   have hcmp : lJ .lss (ls[p] : Int) (ms[p] : Int) = some false := by simp [lJ]; omega
   have hcmp2 : lJ .gtr (ls[p] : Int) (ms[p] : Int) = some false := by simp [lJ]; omega
   repeat
    (first
     | (apply aB; iterate 3 rfl) | (apply aC (b := true); (iterate 2 rfl); exact aN; iterate 2 rfl) | apply EL.nil
     | (apply EC.t0; rfl)
     | (with_reducible first | apply EK.nc | apply EC.seq | apply EC.r0 | apply EC.k0 | apply EC.label | apply EC.b0 | apply EC.x0 | apply EC.ret | apply EK.n0 | apply EK.s0 | apply EK.aA | apply EK.aj | apply EK.ah))
   refine EC.draw 8 (by kernel_rfl) ?_
   simp only [Kv, Kz, Ku, Kw]
   repeat
    (first
     | (apply bG; (iterate 3 rfl); exact hk; iterate 2 rfl)
     | (apply aG; rfl; (first | exact I0 | exact I1); rfl; (rw [hoff]; first | exact g1 | exact g4); iterate 2 rfl)
     | (apply fP; (iterate 2 rfl); exact hcmp; iterate 2 rfl) | (apply aJ; iterate 3 rfl) | (apply jJ; iterate 3 rfl) | ((with_reducible apply EH.nil); rfl))
   repeat
    (first
     | apply EL.nil | (apply EC.f0; rfl)
     | (with_reducible first | apply EK.nc | apply EC.seq | apply EC.r0 | apply EC.k0 | apply EC.label | apply EC.b0 | apply EC.x0 | apply EC.ret | apply EK.n0 | apply EK.s0 | apply EK.aA | apply EK.aj | apply EK.ah))
   refine EC.draw 8 (by kernel_rfl) ?_
   simp only [Kv, Kz, Ku, Kw]
   repeat
    (first
     | (apply bG; (iterate 3 rfl); exact hk; iterate 2 rfl)
     | (apply aG; rfl; (first | exact I0 | exact I1); rfl; (rw [hoff]; first | exact g1 | exact g4); iterate 2 rfl)
     | (apply fP; (iterate 2 rfl); exact hcmp2; iterate 2 rfl) | (apply aJ; iterate 3 rfl) | (apply jJ; iterate 3 rfl) | ((with_reducible apply EH.nil); rfl))
   repeat
    (first
     | (apply aB; iterate 3 rfl) | (apply ak; iterate 3 rfl) | (apply dQ; (iterate 3 rfl); (focus omega); (focus omega); iterate 2 rfl) | apply EL.nil
     | (apply EC.f0; rfl)
     | (with_reducible first | apply EK.nc | apply EC.seq | apply EC.r0 | apply EC.k0 | apply EC.label | apply EC.b0 | apply EC.x0 | apply EC.ret | apply EK.n0 | apply EK.s0 | apply EK.aA | apply EK.aj | apply EK.ah))
   refine EK.again ⟨p, by omega, ?_⟩ (by dsimp only; omega) ?_
   · rw [LV hpl, LV hpm, hc, hd]
   exact Le.kp
  ·
   have hlt := pO ms ls (by omega) h2 h1 p hpm (by simpa using hd.symm) hc
   have hcmp : lJ .lss (ls[p] : Int) (ms[p] : Int) = some false := by simp [lJ]; omega
   have hcmp2 : lJ .gtr (ls[p] : Int) (ms[p] : Int) = some true := by simp [lJ]; omega
   repeat
    (first
     | (apply aB; iterate 3 rfl) | (apply aC (b := true); (iterate 2 rfl); exact aN; iterate 2 rfl) | apply EL.nil
     | (apply EC.t0; rfl)
     | (with_reducible first | apply EK.nc | apply EC.seq | apply EC.r0 | apply EC.k0 | apply EC.label | apply EC.b0 | apply EC.x0 | apply EC.ret | apply EK.n0 | apply EK.s0 | apply EK.aA | apply EK.aj | apply EK.ah))
   refine EC.draw 8 (by kernel_rfl) ?_
   simp only [Kv, Kz, Ku, Kw]
   repeat
    (first
     | (apply bG; (iterate 3 rfl); exact hk; iterate 2 rfl)
     | (apply aG; rfl; (first | exact I0 | exact I1); rfl; (rw [hoff]; first | exact g1 | exact g4); iterate 2 rfl)
     | (apply fP; (iterate 2 rfl); exact hcmp; iterate 2 rfl) | (apply aJ; iterate 3 rfl) | (apply jJ; iterate 3 rfl) | ((with_reducible apply EH.nil); rfl))
   repeat
    (first
     | apply EL.nil | (apply EC.f0; rfl)
     | (with_reducible first | apply EK.nc | apply EC.seq | apply EC.r0 | apply EC.k0 | apply EC.label | apply EC.b0 | apply EC.x0 | apply EC.ret | apply EK.n0 | apply EK.s0 | apply EK.aA | apply EK.aj | apply EK.ah))
   refine EC.draw 8 (by kernel_rfl) ?_
   simp only [Kv, Kz, Ku, Kw]
   repeat
    (first
     | (apply bG; (iterate 3 rfl); exact hk; iterate 2 rfl)
     | (apply aG; rfl; (first | exact I0 | exact I1); rfl; (rw [hoff]; first | exact g1 | exact g4); iterate 2 rfl)
     | (apply fP; (iterate 2 rfl); exact hcmp2; iterate 2 rfl) | (apply aJ; iterate 3 rfl) | (apply jJ; iterate 3 rfl) | ((with_reducible apply EH.nil); rfl))
   repeat
    (first
     | (apply ak; iterate 3 rfl) | apply EL.nil | (apply EC.t0; rfl)
     | (with_reducible first | apply EK.nc | apply EC.seq | apply EC.r0 | apply EC.k0 | apply EC.label | apply EC.b0 | apply EC.x0 | apply EC.ret | apply EK.n0 | apply EK.s0 | apply EK.aA | apply EK.aj | apply EK.ah))
   refine EK.kC rfl rfl ?_
   unfold mW
   rw [if_neg (by omega), if_pos hlt]
theorem x9 (n : Nat) (h : n < 18446744073709551616) : IntKind.u64.wrap (n : Int) = (n : Int) := by
 rw [IntKind.wrap_u64]
 exact Int.emod_eq_of_lt (by omega) (by omega)
theorem Gt (T : TypeId) (b s : Nat) (hs : s < 64) (hb : b * 2 ^ s < 18446744073709551616) : ∀ w, (binOp .shl T (u64 b) (.int .i64 (s : Int))).run Tryz.prog w = .ok (u64 (b * 2 ^ s)) w := fun w => by
 have h1 : ¬ ((s : Int) < 0) := by omega
 have h2 : min ((s : Int)).toNat IntKind.u64.bits = s := by
  rw [LP]
  exact MC (Nb hs)
 have h3 : IntKind.u64.wrap ((b : Int) * 2 ^ s) = ((b * 2 ^ s : Nat) : Int) := by
  have : ((b : Int) * 2 ^ s) = ((b * 2 ^ s : Nat) : Int) := by simp
  rw [this]
  exact x9 _ hb
 show (Op.shift .shl .u64 (b : Int) .i64 (s : Int)).run Tryz.prog w = _
 unfold Op.shift
 rw [if_neg h1]
 simp only [h2, h3, KO]
theorem Gs (T : TypeId) (b s : Nat) (hs : s < 64) : ∀ w, (binOp .shr T (u64 b) (.int .i64 (s : Int))).run Tryz.prog w = .ok (u64 (b / 2 ^ s)) w := fun w => by
 have h1 : ¬ ((s : Int) < 0) := by omega
 have h2 : min ((s : Int)).toNat IntKind.u64.bits = s := by
  rw [LP]
  exact MC (Nb hs)
 have h3 : (b : Int).fdiv (2 ^ s) = ((b / 2 ^ s : Nat) : Int) := by
  rw [Int.fdiv_eq_ediv_of_nonneg _ (Int.le_of_lt (Int.pow_pos (by decide)))]
  simp
 show (Op.shift .shr .u64 (b : Int) .i64 (s : Int)).run Tryz.prog w = _
 unfold Op.shift
 rw [if_neg h1]
 simp only [h2, h3, KO]
theorem IL (T : TypeId) (x y : Nat) (hx : x < 18446744073709551616) (hy : y < 18446744073709551616) : ∀ w, (binOp .or T (u64 x) (u64 y)).run Tryz.prog w = .ok (u64 (x ||| y)) w := fun w => by
 show Result.ok (Value.int .u64 (bits .or .u64 (x : Int) (y : Int))) w = _
 rw [u64_or_nat x y hx hy]
theorem yI (T : TypeId) (k : Nat) (hk : k < 256) : ∀ w, (binOp .quo T (.int .i64 (k : Int)) (.int .i64 8)).run Tryz.prog w = .ok (.int .i64 ((k / 8 : Nat) : Int)) w := fun w => by
 show (Op.intDiv .quo .i64 (k : Int) 8).run Tryz.prog w = _
 unfold Op.intDiv
 rw [if_neg (by decide)]
 have : IntKind.i64.wrap ((k : Int).tdiv 8) = ((k / 8 : Nat) : Int) := by
  have e : (k : Int).tdiv 8 = ((k / 8 : Nat) : Int) := by
   rw [Int.tdiv_eq_ediv_of_nonneg (by omega)]
   simp
  rw [e]
  exact IntWalk.i64_in _ ⟨by omega, by omega⟩
 simp only [this, KO]
theorem yH (T : TypeId) (k : Nat) : ∀ w, (binOp .rem T (.int .i64 (k : Int)) (.int .i64 8)).run Tryz.prog w = .ok (.int .i64 ((k % 8 : Nat) : Int)) w := fun w => by
 show (Op.intDiv .rem .i64 (k : Int) 8).run Tryz.prog w = _
 unfold Op.intDiv
 rw [if_neg (by decide)]
 have e : (k : Int).tmod 8 = ((k % 8 : Nat) : Int) := by
  rw [Int.tmod_eq_emod_of_nonneg (by omega)]
  simp
 simp only [e, KO]
theorem FT (n : Nat) : bv (UInt8.ofNat n) = .int .u8 ((n % 256 : Nat) : Int) := by
 unfold bv
 rw [show (UInt8.ofNat n).toNat = n % 256 from rfl]
theorem qx (v : List UInt8) (hv : v.length = 32) : Fn 67 [.arr 32 v] (· = .val (dLs (bZ 8 4 v))) := by
 refine Fn.walk 28 Tryz.func67 rfl Tryz.ntmps67 (by simp) fun X => ?_
 repeat
  (first
   | (apply aB; iterate 3 rfl) | (apply aF; rfl; exact I.a; iterate 4 rfl) | (apply bW; rfl; rfl; rfl; intro _)
   | (apply aV; rfl; rfl; rfl; intro _) | apply EL.nil
   | (with_reducible first | apply EK.nc | apply EC.seq | apply EC.r0 | apply EC.k0 | apply EC.label | apply EC.b0 | apply EC.x0 | apply EC.ret | apply EK.n0 | apply EK.s0 | apply EK.aA | apply EK.aj | apply EK.ah))
 rename_i g1 g2 g3
 refine EC.loop (ι := {i : Nat // i ≤ 32})
  (fun i => ⟨[(8, .val (.v (.int .i64 (i.1 : Int)))), (7, .val (.arr 32 v)), (3, .val (.v (.pointer (some ⟨g3, 0, none⟩)))), (2, .val (.v (.pointer (some ⟨g2, 0, none⟩))))], [.var g3 125 (dLs (chunks 8 (msk v i.1) 4)), .var g2 125 (dLs [0, 0, 0, 0]), .var g1 34 (.arr 32 v)], []⟩)
  (fun i => 32 - i.1) ⟨0, by omega⟩ ?_ ?_
 ·
  rw [JM v hv]
  exact Le.kp
 rintro ⟨i, hi⟩
 dsimp only at hi ⊢
 by_cases hlt : i < 32
 ·
  have hb : v[((i : Int)).toNat]? = some (v[i]'(by omega)) := by rw [LP]; exact KA _
  have hs := EF v hv i hlt
  have hz := ED v i hlt
  have hcs := Ba 8 4 (by decide) (msk v i) (31 - i) (v[i]'(by omega)).toNat hz (by omega)
  rw [← hs] at hcs
  obtain ⟨q, hq⟩ := EG v i hlt
  have hlim : ∀ x ∈ chunks 8 (msk v i) 4, x < 256 ^ 8 := qA 8 _ 4 fun d hd => by
   unfold msk at hd
   rcases Lm.1 hd with hd | hd
   · rw [(List.mem_replicate.1 hd).2]; decide
   · exact yS _ d (List.mem_of_mem_drop hd)
  have hlen := jV 8 (msk v i) 4
  have hlim' : ∀ x ∈ chunks 8 (msk v (i + 1)) 4, x < 256 ^ 8 := qA 8 _ 4 fun d hd => by
   unfold msk at hd
   rcases Lm.1 hd with hd | hd
   · rw [(List.mem_replicate.1 hd).2]; decide
   · exact yS _ d (List.mem_of_mem_drop hd)
  generalize hM : chunks 8 (msk v (i + 1)) 4 = M' at hcs hlim'
  generalize chunks 8 (msk v i) 4 = M at hcs hq hlim hlen
  have hk8 : (31 - i) / 8 < M.length := by omega
  have hbb : (v[i]'(by omega)).toNat < 256 := (v[i]'(by omega)).toNat_lt
  generalize (v[i]'(by omega)) = b at hb hcs hbb
  have hgd : M.getD ((31 - i) / 8) 0 = M[(31 - i) / 8] := by simp [List.getD, hk8]
  have hget := wC (rF hk8)
  have hpow : 256 ^ ((31 - i) % 8) = 2 ^ (8 * ((31 - i) % 8)) := by rw [Nat.pow_mul]
  have hpow' : 256 ^ ((31 - i) % 8 + 1) = 2 ^ (8 * ((31 - i) % 8) + 8) := by rw [show 8 * ((31 - i) % 8) + 8 = 8 * ((31 - i) % 8 + 1) by omega, Nat.pow_mul]
  have hbs : b.toNat * 2 ^ (8 * ((31 - i) % 8)) < 2 ^ (8 * ((31 - i) % 8) + 8) := by
   rw [Nat.pow_add, Nl]
   exact Nat.mul_lt_mul_of_pos_left hbb (Nat.two_pow_pos _)
  have hle : 2 ^ (8 * ((31 - i) % 8) + 8) ≤ 18446744073709551616 := by
   rw [show (18446744073709551616 : Nat) = 2 ^ 64 from rfl]
   exact Nat.pow_le_pow_right (by decide) (by omega)
  have hMk := hlim _ (LH hk8)
  have hor := Ew (8 * ((31 - i) % 8) + 8) (M[(31 - i) / 8]) (b.toNat * 2 ^ (8 * ((31 - i) % 8))) q (by rw [← hgd, hq, hpow']) hbs
  have ek : ((31 : Int) - (i : Int)) = ((31 - i : Nat) : Int) := by omega
  have hm8 : (31 - i) % 8 < 8 := Nat.mod_lt _ (by decide)
  have hoff : 0 + ((((31 - i) / 8 : Nat) : Int)).toNat * 1 = (31 - i) / 8 := by omega
  have hk : (0 : Int) ≤ (((31 - i) / 8 : Nat) : Int) ∧ ((((31 - i) / 8 : Nat) : Int)).toNat < 4 := ⟨by omega, by omega⟩
  have r1 := jk rfl (yI 3 (31 - i) (by omega))
  have r2 := jk rfl (yH 3 (31 - i))
  have r3 := jk rfl (Gt 123 b.toNat (8 * ((31 - i) % 8)) (by omega) (by omega))
  have r4 := jk rfl (IL 123 (M[(31 - i) / 8]) (b.toNat * 2 ^ (8 * ((31 - i) % 8))) (by exact hMk) (by omega))
  have c1 := mV (T := 5) (U := 123) (k := .u8) (k' := .u64) Tryz.underlying5 Tryz.underlying123 (b.toNat : Int) (b.toNat : Int) (x9 _ (by omega))
  have e8 : ((8 * ((31 - i) % 8) : Nat) : Int) = 8 * (((31 - i) % 8 : Nat) : Int) := by omega
  rw [e8] at r3
  repeat
   (first
    | (apply Bj; exact ⟨Tryz.underlying5, rfl⟩; exact ⟨by omega, hb⟩; iterate 5 rfl) | (apply aB; iterate 3 rfl) | (apply ak; iterate 3 rfl)
    | (apply aC (b := true); (iterate 2 rfl); exact aN; iterate 2 rfl) | (apply dQ; (iterate 3 rfl); (focus omega); (focus omega); iterate 2 rfl) | apply EL.nil
    | (apply EC.t0; rfl)
    | (with_reducible first | apply EK.nc | apply EC.seq | apply EC.r0 | apply EC.k0 | apply EC.label | apply EC.b0 | apply EC.x0 | apply EC.ret | apply EK.n0 | apply EK.s0 | apply EK.aA | apply EK.aj | apply EK.ah))
  rw [ek]
  have hset := IB (u64 (M[(31 - i) / 8] ||| b.toNat * 2 ^ (8 * ((31 - i) % 8)))) (xs := M.map u64) (k := (31 - i) / 8) (by rw [KG]; exact hk8)
  have hM' : (M.map u64).set ((31 - i) / 8) (u64 (M[(31 - i) / 8] ||| b.toNat * 2 ^ (8 * ((31 - i) % 8)))) = M'.map u64 := by
   rw [hcs, hor, ← hgd, hpow, Nl (2 ^ _), List.map_set]
  rw [hM'] at hset
  refine EC.draw 11 (by kernel_rfl) ?_
  simp only [Kv, Kz, Ku, Kw]
  repeat
   (first
    | (apply fQ; (iterate 2 rfl); exact r1; iterate 2 rfl) | (apply fQ; (iterate 2 rfl); exact r2; iterate 2 rfl)
    | (apply fQ; (iterate 2 rfl); exact r3; iterate 2 rfl) | (apply fQ; (iterate 2 rfl); exact r4; iterate 2 rfl)
    | (apply bG; (iterate 3 rfl); exact hk; iterate 2 rfl) | (apply aG; rfl; exact I0; rfl; (rw [hoff]; exact hget); iterate 2 rfl)
    | (apply Gg; rfl; exact c1; iterate 3 rfl) | (apply aJ; iterate 3 rfl) | (apply J6; (iterate 3 rfl); (focus omega); (focus omega); iterate 2 rfl)
    | ((with_reducible apply EH.nil); rfl))
  repeat
   (first
    | (apply oV; (iterate 3 rfl); exact hk; iterate 2 rfl) | (apply aO; rfl; exact .z; rfl; rfl; (rw [hoff]; exact hset); rfl)
    | (apply aB; iterate 3 rfl) | (apply dQ; (iterate 3 rfl); (focus omega); (focus omega); iterate 2 rfl) | apply EL.nil
    | (with_reducible first | apply EK.nc | apply EC.seq | apply EC.r0 | apply EC.k0 | apply EC.label | apply EC.b0 | apply EC.x0 | apply EC.ret | apply EK.n0 | apply EK.s0 | apply EK.aA | apply EK.aj | apply EK.ah))
  refine EK.again ⟨i + 1, by omega⟩ (by dsimp only; omega) ?_
  rw [hM]
  simp only [Ls]
  exact Le.kp
 ·
  have : i = 32 := by omega
  subst this
  rw [Ja]
  repeat
   (first
    | (apply aF; rfl; exact I.a; iterate 4 rfl) | (apply aC (b := false); (iterate 2 rfl); exact aN; iterate 2 rfl)
    | (apply aO; rfl; exact saA; iterate 4 rfl) | apply EL.nil
    | (apply EC.f0; rfl)
    | (with_reducible first | apply EK.nc | apply EC.seq | apply EC.r0 | apply EC.k0 | apply EC.label | apply EC.b0 | apply EC.x0 | apply EC.ret | apply EK.n0 | apply EK.s0 | apply EK.aA | apply EK.aj | apply EK.ah))
  refine EK.l7 1 rfl rfl rfl rfl ?_ rfl
  (exact RL.a)
theorem CW (ls : List Nat) (hl : ls.length = 4) (i : Nat) (hi : i < 32) : ((eF 8 ls).map UInt8.ofNat).reverse[i]? = some (UInt8.ofNat (ls.getD ((31 - i) / 8) 0 / 256 ^ ((31 - i) % 8))) := by
 have hlen : (eF 8 ls).length = 32 := by rw [fA, hl]
 rw [List.getElem?_reverse (by rw [KG]; omega), KG, hlen, List.getElem?_map, lS 8 (by decide) ls _ (by omega), show 32 - 1 - i = 31 - i by omega]
 simp only [NY]
 congr 1
 apply UInt8.toNat_inj.1
 show _ % 256 % 256 = _ % 256
 rw [Nat.mod_mod]
theorem oh {α : Type} (l : List α) (z : α) (i n : Nat) (hl : l.length = n) (hi : i < n) : (l.take i ++ List.replicate (n - i) z).set i l[i] = l.take (i + 1) ++ List.replicate (n - (i + 1)) z := by
 rw [MX _ _ (by rw [LD]; omega), LD, MC (by omega), Oi, show n - i = (n - (i + 1)) + 1 by omega, Ny, NW, LG (by omega), KR]
 rfl
theorem oD (ls : List Nat) (hl : ls.length = 4) (h1 : ∀ x ∈ ls, x < 18446744073709551616) : Fn 70 [dLs ls] (· = .val (.arr 32 (bJ (Wd.le 18446744073709551616 ls)))) := by
 have hW := oW 8 ls (by rw [hl]) h1
 rw [show (18446744073709551616 : Nat) = 256 ^ 8 from rfl, ← hW]
 have hWl : (((eF 8 ls).map UInt8.ofNat).reverse).length = 32 := by rw [MO, KG, fA, hl]
 have hget := CW ls hl
 generalize ((eF 8 ls).map UInt8.ofNat).reverse = W at hWl hget
 clear hW
 refine Fn.walk 24 Tryz.func70 rfl Tryz.ntmps70 (by simp) fun X => ?_
 repeat
  (first
   | (apply aB; iterate 3 rfl) | (apply bW; rfl; rfl; rfl; intro _) | (apply aV; rfl; rfl; rfl; intro _) | apply EL.nil
   | (with_reducible first | apply EK.nc | apply EC.seq | apply EC.r0 | apply EC.k0 | apply EC.label | apply EC.b0 | apply EC.x0 | apply EC.ret | apply EK.n0 | apply EK.s0 | apply EK.aA | apply EK.aj | apply EK.ah))
 rename_i g1 g2 g3
 refine EC.loop (ι := {i : Nat // i ≤ 32})
  (fun i => ⟨[(6, .val (.v (.int .i64 (i.1 : Int)))), (3, .val (.v (.pointer (some ⟨g3, 0, none⟩)))), (2, .val (.v (.pointer (some ⟨g2, 0, none⟩)))), (1, .val (.v (.pointer (some ⟨g1, 0, none⟩))))], [.var g3 34 (.arr 32 (W.take i.1 ++ List.replicate (32 - i.1) 0)), .var g2 34 (.arr 32 zero32), .var g1 125 (dLs ls)], []⟩)
  (fun i => 32 - i.1) ⟨0, by omega⟩ ?_ ?_
 · exact Le.kp
 rintro ⟨i, hi⟩
 dsimp only at hi ⊢
 by_cases hlt : i < 32
 ·
  have hk8 : (31 - i) / 8 < ls.length := by omega
  have hgd : ls.getD ((31 - i) / 8) 0 = ls[(31 - i) / 8] := by simp [List.getD, hk8]
  have hWi := hget i hlt
  rw [hgd] at hWi
  obtain ⟨hWlt, hWi⟩ := KP.1 hWi
  have hlv := wC (rF hk8)
  have hx := h1 _ (LH hk8)
  have hpow : 256 ^ ((31 - i) % 8) = 2 ^ (8 * ((31 - i) % 8)) := by rw [Nat.pow_mul]
  have hm8 : (31 - i) % 8 < 8 := Nat.mod_lt _ (by decide)
  have ek : ((31 : Int) - (i : Int)) = ((31 - i : Nat) : Int) := by omega
  have hoff : 0 + ((((31 - i) / 8 : Nat) : Int)).toNat * 1 = (31 - i) / 8 := by omega
  have hoffi : 0 + ((i : Int)).toNat * 1 = i := by omega
  have hk : (0 : Int) ≤ (((31 - i) / 8 : Nat) : Int) ∧ ((((31 - i) / 8 : Nat) : Int)).toNat < 4 := ⟨by omega, by omega⟩
  have hki : (0 : Int) ≤ (i : Int) ∧ ((i : Int)).toNat < 32 := ⟨by omega, by omega⟩
  have r1 := jk rfl (yI 3 (31 - i) (by omega))
  have r2 := jk rfl (yH 3 (31 - i))
  have r3 := jk rfl (Gs 123 (ls[(31 - i) / 8]) (8 * ((31 - i) % 8)) (by omega))
  have c1 : ∀ w, (Go.convert 123 5 (u64 (ls[(31 - i) / 8] / 2 ^ (8 * ((31 - i) % 8))))).run Tryz.prog w = .ok (bv W[i]) w := by
   have := mV (T := 123) (U := 5) (k := .u64) (k' := .u8) Tryz.underlying123 Tryz.underlying5 ((ls[(31 - i) / 8] / 2 ^ (8 * ((31 - i) % 8)) : Nat) : Int) (((ls[(31 - i) / 8] / 2 ^ (8 * ((31 - i) % 8)) : Nat) % 256 : Nat) : Int) (by rw [IntKind.wrap_u8]; simp)
   rw [hWi, FT, hpow]
   exact this
  have e8 : ((8 * ((31 - i) % 8) : Nat) : Int) = 8 * (((31 - i) % 8 : Nat) : Int) := by omega
  rw [e8] at r3
  have hst := oh W 0 i 32 hWl hlt
  repeat
   (first
    | (apply aB; iterate 3 rfl) | (apply ak; iterate 3 rfl) | (apply aC (b := true); (iterate 2 rfl); exact aN; iterate 2 rfl)
    | (apply dQ; (iterate 3 rfl); (focus omega); (focus omega); iterate 2 rfl) | apply EL.nil | (apply EC.t0; rfl)
    | (with_reducible first | apply EK.nc | apply EC.seq | apply EC.r0 | apply EC.k0 | apply EC.label | apply EC.b0 | apply EC.x0 | apply EC.ret | apply EK.n0 | apply EK.s0 | apply EK.aA | apply EK.aj | apply EK.ah))
  rw [ek]
  repeat
   (first
    | (apply dO; (iterate 2 rfl); exact r1; iterate 2 rfl) | (apply dO; (iterate 2 rfl); exact r2; iterate 2 rfl)
    | (apply dO; (iterate 2 rfl); exact r3; iterate 2 rfl) | (apply oV; (iterate 3 rfl); (first | exact hk | exact hki); iterate 2 rfl)
    | (apply aF; rfl; (first | exact I0 | exact I1 | exact I2); rfl; (rw [hoff]; exact hlv); iterate 2 rfl) | (apply F8; rfl; exact c1; iterate 3 rfl)
    | (apply zT; rfl; exact .z; rfl; rfl; (omega); rfl) | (apply aB; iterate 3 rfl)
    | (apply dQ; (iterate 3 rfl); (focus omega); (focus omega); iterate 2 rfl) | apply EL.nil
    | (with_reducible first | apply EK.nc | apply EC.seq | apply EC.r0 | apply EC.k0 | apply EC.label | apply EC.b0 | apply EC.x0 | apply EC.ret | apply EK.n0 | apply EK.s0 | apply EK.aA | apply EK.aj | apply EK.ah))
  refine EK.again ⟨i + 1, by omega⟩ (by dsimp only; omega) ?_
  rw [hoffi, hst]
  simp only [Ls]
  exact Le.kp
 ·
  have : i = 32 := by omega
  subst this
  rw [ML (by omega), Oi, Nz, KU]
  repeat
   (first
    | (apply aF; rfl; exact I.a; iterate 4 rfl) | (apply aC (b := false); (iterate 2 rfl); exact aN; iterate 2 rfl)
    | (apply aO; rfl; exact saA; iterate 4 rfl) | apply EL.nil
    | (apply EC.f0; rfl)
    | (with_reducible first | apply EK.nc | apply EC.seq | apply EC.r0 | apply EC.k0 | apply EC.label | apply EC.b0 | apply EC.x0 | apply EC.ret | apply EK.n0 | apply EK.s0 | apply EK.aA | apply EK.aj | apply EK.ah))
  refine EK.l7 1 rfl rfl rfl rfl ?_ rfl
  (exact RL.a)
theorem ql (v : List UInt8) (hv : v.length = 32) : (bZ 8 4 v).length = 4 ∧ (∀ x ∈ bZ 8 4 v, x < 18446744073709551616) ∧ Wd.le 18446744073709551616 (bZ 8 4 v) = val v := ⟨jT 8 4 v, uY 8 4 v, vg (c := 8) (k := 4) (by rw [hv])⟩
theorem Iw (u v : List UInt8) (hu : u.length = 32) (hv : v.length = 32) : Fn 53 [.arr 32 u, .arr 32 v] (· = .val (.v (.int .i64 (mW (val u) (val v))))) := by
 have h1 := qx u hu
 have h2 := qx v hv
 obtain ⟨a1, a2, a3⟩ := ql u hu
 obtain ⟨b1, b2, b3⟩ := ql v hv
 have h3 := xB _ _ a1 b1 a2 b2
 rw [a3, b3] at h3
 refine Fn.walk 10 Tryz.func53 rfl Tryz.ntmps53 (by simp) fun X => ?_
 repeat
  (first
   | (apply ak; iterate 3 rfl) | (apply aV; rfl; rfl; rfl; intro _) | apply EL.nil
   | (with_reducible first | apply EK.nc | apply EC.seq | apply EC.r0 | apply EC.k0 | apply EC.label | apply EC.b0 | apply EC.x0 | apply EC.ret | apply EK.n0 | apply EK.s0 | apply EK.aA | apply EK.aj | apply EK.ah))
 refine EC.draw 5 (by kernel_rfl) ?_
 simp only [Kv, Kz, Ku, Kw]
 repeat
  (first
   | (apply bV (h1); rfl; exact RL.a; exact enA; iterate 2 rfl) | (apply bV (h2); rfl; exact RL.a; exact enA; iterate 2 rfl)
   | (apply bV (h3); rfl; exact RL.a; exact enA; iterate 2 rfl) | (apply aG; rfl; exact I.a; iterate 4 rfl) | ((with_reducible apply EH.nil); rfl))
 repeat
  (first
   | (apply ak; iterate 3 rfl) | apply EL.nil
   | (with_reducible first | apply EK.nc | apply EC.seq | apply EC.r0 | apply EC.k0 | apply EC.label | apply EC.b0 | apply EC.x0 | apply EC.ret | apply EK.n0 | apply EK.s0 | apply EK.aA | apply EK.aj | apply EK.ah))
 exact EK.kC rfl rfl rfl
theorem JV (u v : List UInt8) (hu : u.length = 32) (hv : v.length = 32) : Fn 55 [.arr 32 u, .arr 32 v] (· = .val (.arr 32 (bJ (val u + 256 ^ 32 - val v)))) := by
 have h1 := qx u hu
 have h2 := qx v hv
 obtain ⟨a1, a2, a3⟩ := ql u hu
 obtain ⟨b1, b2, b3⟩ := ql v hv
 obtain ⟨os, c, h3, o1, o2, o3, o4⟩ := xA _ _ a1 b1 a2 b2
 have h4 := oD os o1 o2
 have hb := wz v
 rw [hv] at hb
 have e : bJ (Wd.le 18446744073709551616 os) = bJ (val u + 256 ^ 32 - val v) := by
  refine val_inj _ _ (by rw [cu, cu]) ?_
  rw [fV, fV]
  rw [a3, b3] at o4
  have : c = 0 ∨ c = 1 := by omega
  rcases this with rfl | rfl <;> omega
 rw [e] at h4
 refine Fn.walk 11 Tryz.func55 rfl Tryz.ntmps55 (by simp) fun X => ?_
 repeat
  (first
   | (apply bW; rfl; rfl; rfl; intro _) | (apply aV; rfl; rfl; rfl; intro _) | apply EL.nil
   | (with_reducible first | apply EK.nc | apply EC.seq | apply EC.r0 | apply EC.k0 | apply EC.label | apply EC.b0 | apply EC.x0 | apply EC.ret | apply EK.n0 | apply EK.s0 | apply EK.aA | apply EK.aj | apply EK.ah))
 refine EC.draw 6 (by kernel_rfl) ?_
 simp only [Kv, Kz, Ku, Kw]
 repeat
  (first
   | (apply bV (h1); rfl; exact RL.a; exact enA; iterate 2 rfl) | (apply bV (h2); rfl; exact RL.a; exact enA; iterate 2 rfl)
   | (apply bV (h3); rfl; exact RL.a; exact enA; iterate 2 rfl) | (apply bV (h4); rfl; exact RL.a; exact enA; iterate 2 rfl)
   | (apply aG; rfl; exact I.a; iterate 4 rfl) | ((with_reducible apply EH.nil); rfl))
 repeat
  (first
   | (apply aO; rfl; exact saA; iterate 4 rfl) | apply EL.nil
   | (with_reducible first | apply EK.nc | apply EC.seq | apply EC.r0 | apply EC.k0 | apply EC.label | apply EC.b0 | apply EC.x0 | apply EC.ret | apply EK.n0 | apply EK.s0 | apply EK.aA | apply EK.aj | apply EK.ah))
 refine EK.l7 0 rfl rfl rfl rfl ?_ rfl
 (exact RL.a)
theorem JW (u v : List UInt8) (hu : u.length = 32) (hv : v.length = 32) : Fn 54 [.arr 32 u, .arr 32 v] (· = .val (.arr 32 (bJ (val u + val v)))) := by
 have h1 := qx u hu
 have h2 := qx v hv
 obtain ⟨a1, a2, a3⟩ := ql u hu
 obtain ⟨b1, b2, b3⟩ := ql v hv
 obtain ⟨os, c, h3, o1, o2, o4⟩ := xC _ _ a1 b1 a2 b2
 have h4 := oD os o1 o2
 have e : bJ (Wd.le 18446744073709551616 os) = bJ (val u + val v) := by
  refine val_inj _ _ (by rw [cu, cu]) ?_
  rw [fV, fV]
  rw [a3, b3] at o4
  rw [← o4, show (18446744073709551616 : Nat) ^ 4 = 256 ^ 32 from rfl, OA]
 rw [e] at h4
 clear e o4 o2
 obtain ⟨s0, s1, s2, s3, rfl⟩ : ∃ a0 a1 a2 a3, os = [a0, a1, a2, a3] := by
  match os, o1 with
  | [a, b, c, d], _ => exact ⟨a, b, c, d, rfl⟩
 refine Fn.walk 17 Tryz.func54 rfl Tryz.ntmps54 (by simp) fun X => ?_
 repeat
  (first
   | (apply bW; rfl; rfl; rfl; intro _) | (apply aV; rfl; rfl; rfl; intro _) | apply EL.nil
   | (with_reducible first | apply EK.nc | apply EC.seq | apply EC.r0 | apply EC.k0 | apply EC.label | apply EC.b0 | apply EC.x0 | apply EC.ret | apply EK.n0 | apply EK.s0 | apply EK.aA | apply EK.aj | apply EK.ah))
 refine EC.dL 10 [0, 1, 2, 3, 4, 5, 6, 7] [8, 9] [] _ (by kernel_rfl) (by kernel_rfl) rfl ?_
 simp only [aQ, KJ, KN, KD, KF]
 repeat
  (first
   | (apply bV (h1); rfl; exact RL.a; exact enA; iterate 2 rfl) | (apply bV (h2); rfl; exact RL.a; exact enA; iterate 2 rfl)
   | (apply bV (h3); rfl; exact RL.a; exact enA; iterate 2 rfl) | (apply aJ; iterate 3 rfl) | (apply gU; iterate 4 rfl)
   | (apply aG; rfl; exact I.a; iterate 4 rfl))
 refine EM.nil ?_
 repeat (first | rw [Kr] | rw [Kt])
 refine CH.mut (os := []) (rest := []) rfl rfl (GX rfl rfl) ?_
 rintro _ _ ⟨_, rfl, rfl⟩
 try simp only [St.put]
 repeat (first | rw [Kr] | rw [Kt])
 refine CH.mut (os := [_]) (rest := []) rfl rfl (pI (gI rfl rfl rfl rfl rfl)) ?_
 rintro _ _ ⟨rfl, rfl⟩
 try simp only [St.put]
 repeat (first | rw [Kr] | rw [Kt])
 refine CH.nil ?_
 try simp only [Ku, Kw]
 repeat
  (first
   | (apply fJ (h4); rfl; exact RL.a; exact enA; iterate 2 rfl) | (apply ak; iterate 3 rfl) | (apply aF; rfl; exact I.a; iterate 4 rfl)
   | (apply aO; rfl; exact saA; iterate 4 rfl) | apply EL.nil
   | (with_reducible first | apply EK.nc | apply EC.seq | apply EC.r0 | apply EC.k0 | apply EC.label | apply EC.b0 | apply EC.x0 | apply EC.ret | apply EK.n0 | apply EK.s0 | apply EK.aA | apply EK.aj | apply EK.ah))
 refine EK.l7 1 rfl rfl rfl rfl ?_ rfl
 (exact RL.a)
end E
end Go.Proofs.YtkhjanjlcdhdcaaGreat
