/-
 Merged (wip/tools/merge.py): PF2, JPlain, AB1, PF4, EBX.
 Conditions: none.
-/
import Derived.Test.YtiledgojbpmoiaaZC11
import Derived.Test.YtiledgojbpmoiaaZC15
import Derived.Test.YtiledgojbpmoiaaZC14
import Derived.Test.YtiledgojbpmoiaaZC6
import Derived.Lib.Bytealg
/-
 The reference's IsNode.
 Conditions: none.
-/
namespace Go.Proofs.Ytiledgojbpmoiaa
set_option linter.unusedVariables false
open Go.RowKit Mono Rlp
namespace E
def rawE : Raw := .mk false [] []
def isL : Raw → Bool
 | .mk l _ _ => l
def bts : Raw → List UInt8
 | .mk _ b _ => b
def its : Raw → List Raw
 | .mk _ _ xs => xs
mutual
def dep : Raw → Nat
 | .mk _ _ xs => depL xs + 1
def depL : List Raw → Nat
 | [] => 0
 | x :: xs => max (dep x) (depL xs)
end
theorem dep_mem {x : Raw} : ∀ {xs : List Raw}, x ∈ xs → dep x ≤ depL xs
 | y :: xs, h => by
  rw [depL]
  rcases List.mem_cons.1 h with rfl | h
  · omega
  ·
   have := dep_mem h
   omega
def rfB (N : Raw → Bool) (none : Bool) : Raw → Bool
 | .mk true b xs => decide ((pkB (.mk true b xs)).length < 32) && N (.mk true b xs)
 | .mk false b _ => decide (b.length = 32) || (none && decide (b.length = 0))
def some1 (x : Raw) : Bool := isL x || decide (0 < (bts x).length)
def brB (N : Raw → Bool) (xs : List Raw) : Bool := (xs.take 16).all (rfB N true) && !(isL (xs.getD 16 rawE)) && decide (2 ≤ ((xs.take 16).filter some1).length + (if 0 < (bts (xs.getD 16 rawE)).length then 1 else 0))
def prB (N : Raw → Bool) (a b : Raw) : Bool := !(isL a) && match rdP (bts a) with
 | none => false
 | some (p, true) => !(isL b) && decide (0 < (bts b).length)
 | some (p, false) => decide (0 < p.length) && rfB N false b && !(isL b && decide ((its b).length = 2))
def isN : Nat → Raw → Bool
 | 0, _ => false
 | _ + 1, .mk false _ _ => false
 | f + 1, .mk true _ xs => if xs.length = 17 then brB (isN f) xs else if xs.length = 2 then prB (isN f) (xs.getD 0 rawE) (xs.getD 1 rawE) else false
theorem EB_ge (b : List UInt8) : b.length ≤ (EB b).length := by
 rw [EB_length]
 unfold szE szB
 split
 · omega
 · split <;> omega
theorem EL_memN {x : Raw} : ∀ {xs : List Raw}, x ∈ xs → (Rlp.E x).length ≤ (Rlp.EL xs).length
 | y :: xs, h => by
  rw [Rlp.EL, List.length_append]
  rcases List.mem_cons.1 h with rfl | h
  · omega
  ·
   have := EL_memN h
   omega
theorem E_kid {b : List UInt8} {xs : List Raw} {x : Raw} (h : x ∈ xs) : (Rlp.E x).length ≤ (Rlp.E (.mk true b xs)).length := by
 rw [Rlp.E, List.length_append]
 have := EL_memN h
 omega
theorem rfB_list (N : Raw → Bool) (n : Bool) (b : List UInt8) (xs : List Raw) : rfB N n (.mk true b xs) = (decide ((pkB (.mk true b xs)).length < 32) && N (.mk true b xs)) := rfl
theorem rfB_bytes (N : Raw → Bool) (n : Bool) (b : List UInt8) (xs : List Raw) : rfB N n (.mk false b xs) = (decide (b.length = 32) || (n && decide (b.length = 0))) := rfl
set_option maxRecDepth 20000 in
set_option maxHeartbeats 8000000 in
theorem f_isRef (x : Raw) (n : Bool) (N : Raw → Bool) (H : isL x = true → Fn 21 [dItem x] (· = .val (.v (.bool (N x))))) : Fn 34 [dItem x, .v (.bool n)] (· = .val (.v (.bool (rfB N n x)))) := by
 have h2 := f_rPack x
 refine FnM.toFn ?_
 obtain ⟨l, b, xs⟩ := x
 cases l with
 | true =>
  have h1 := H rfl
  rw [rfB_list]
  have hpb : packed (.mk true b xs) = none ∨ packed (.mk true b xs) = some (pkB (.mk true b xs)) := by
   unfold pkB
   cases h : packed (.mk true b xs) with
   | none => exact .inl rfl
   | some b => exact .inr rfl
  rcases hpb with hp | hp
  ·
   have h0 : pkB (.mk true b xs) = [] := by unfold pkB; rw [hp]; rfl
   rw [hp] at h2
   rw [h0]
   rw [show decide (([] : List UInt8).length < 32) = true from rfl, Bool.true_and]
   generalize N (.mk true b xs) = r at h1 ⊢
   unfold packD at h2
   dsimp only at h2
   unfold dItem at h1 h2 ⊢
   refine FnM.walk 34 Try.func34 rfl Try.ntmps34 (by simp) fun X => ?_
   repeat
    (first
     | (apply P_call (h2); rfl; exact RefineL.refl _ _; (focus (intro _ _; simp [go_sem]; done)); iterate 2 rfl)
     | (apply P_call (h1); rfl; exact RefineL.refl _ _; (focus (intro _ _; simp [go_sem]; done)); iterate 2 rfl) | (apply P_move; iterate 3 rfl)
     | (apply P_assign; iterate 3 rfl) | (apply P_field; iterate 6 rfl) | (apply P_extract; iterate 4 rfl) | (apply P_pick; iterate 4 rfl)
     | (apply P_load; rfl; (first | exact I0 | exact I1 | exact I2 | exact I3 | exact I4 | exact I5 | exact I6); iterate 4 rfl)
     | (apply P_cmp (b := true); (iterate 2 rfl); (focus (first | (simp [cmpI]; done) | (simp [cmpI]; omega))); iterate 2 rfl) | (apply P_lenv; iterate 4 rfl)
     | (apply P_box; rfl; rfl; rfl; intro _) | apply EL.nil | ((with_reducible apply EK.then_normal); apply EK.code) | (apply EC.cond_true; rfl)
     | (with_reducible first | apply EC.seq | apply EC.region | apply EC.ret | apply EK.then_ret))
   exact EK.retM1s [] rfl rfl (List.nil_sublist _) ⟨rfl, rfl⟩
  ·
   rw [hp] at h2
   generalize pkB (.mk true b xs) = pb at h2 ⊢
   generalize N (.mk true b xs) = r at h1 ⊢
   unfold packD at h2
   dsimp only at h2
   unfold dItem at h1 h2 ⊢
   refine FnM.walk 34 Try.func34 rfl Try.ntmps34 (by simp) fun X => ?_
   by_cases h32 : pb.length < 32
   ·
    rw [show decide (pb.length < 32) = true by simp [h32], Bool.true_and]
    repeat
     (first
      | (apply P_call (h2); rfl; exact RefineL.refl _ _; (focus (intro _ _; simp [go_sem]; done)); iterate 2 rfl)
      | (apply P_call (h1); rfl; exact RefineL.refl _ _; (focus (intro _ _; simp [go_sem]; done)); iterate 2 rfl) | (apply P_move; iterate 3 rfl)
      | (apply P_assign; iterate 3 rfl) | (apply P_field; iterate 6 rfl) | (apply P_extract; iterate 4 rfl) | (apply P_pick; iterate 4 rfl)
      | (apply P_load; rfl; (first | exact I0 | exact I1 | exact I2 | exact I3 | exact I4 | exact I5 | exact I6); iterate 4 rfl)
      | (apply P_cmp (b := true); (iterate 2 rfl); (focus (first | (simp [cmpI]; done) | (simp [cmpI]; omega))); iterate 2 rfl) | (apply P_lenbs; iterate 4 rfl)
      | (apply P_box; rfl; rfl; rfl; intro _) | apply EL.nil | ((with_reducible apply EK.then_normal); apply EK.code) | (apply EC.cond_true; rfl)
      | (with_reducible first | apply EC.seq | apply EC.region | apply EC.ret | apply EK.then_ret))
    exact EK.retM1s [] rfl rfl (List.nil_sublist _) ⟨rfl, rfl⟩
   ·
    rw [show decide (pb.length < 32) = false by simp [h32], Bool.false_and]
    repeat
     (first
      | (apply P_skip; iterate 2 rfl) | (apply P_call (h2); rfl; exact RefineL.refl _ _; (focus (intro _ _; simp [go_sem]; done)); iterate 2 rfl) | (apply P_move; iterate 3 rfl)
      | (apply P_assign; iterate 3 rfl) | (apply P_field; iterate 6 rfl) | (apply P_extract; iterate 4 rfl) | (apply P_pick; iterate 4 rfl)
      | (apply P_load; rfl; (first | exact I0 | exact I1 | exact I2 | exact I3 | exact I4 | exact I5 | exact I6); iterate 4 rfl)
      | (apply P_cmp (b := false); (iterate 2 rfl); (focus (first | (simp [cmpI]; done) | (simp [cmpI]; omega))); iterate 2 rfl) | (apply P_lenbs; iterate 4 rfl)
      | (apply P_box; rfl; rfl; rfl; intro _) | apply EL.nil | ((with_reducible apply EK.then_normal); apply EK.code) | (apply EC.cond_true; rfl)
      | (with_reducible first | apply EC.seq | apply EC.region | apply EC.ret | apply EK.then_ret))
    exact EK.retM1s [] rfl rfl (List.nil_sublist _) ⟨rfl, rfl⟩
 | false =>
  clear h2 H
  rw [rfB_bytes]
  unfold dItem
  refine FnM.walk 34 Try.func34 rfl Try.ntmps34 (by simp) fun X => ?_
  by_cases h32 : b.length = 32
  ·
   rw [show decide (b.length = 32) = true by simp [h32], Bool.true_or]
   repeat
    (first
     | (apply P_skip; iterate 2 rfl) | (apply P_move; iterate 3 rfl) | (apply P_assign; iterate 3 rfl) | (apply P_field; iterate 6 rfl) | (apply P_pick; iterate 4 rfl)
     | (apply P_load; rfl; (first | exact I0 | exact I1 | exact I2 | exact I3 | exact I4 | exact I5 | exact I6); iterate 4 rfl)
     | (apply P_cmp (b := true); (iterate 2 rfl); (focus (first | (simp [cmpI]; done) | (simp [cmpI]; omega))); iterate 2 rfl) | (apply P_lenbs; iterate 4 rfl)
     | (apply P_box; rfl; rfl; rfl; intro _) | apply EL.nil | ((with_reducible apply EK.then_normal); apply EK.code) | (apply EC.cond_false; rfl)
     | (with_reducible first | apply EC.seq | apply EC.region | apply EC.skip | apply EC.ret))
   exact EK.retM1s [] rfl rfl (List.nil_sublist _) ⟨rfl, rfl⟩
  ·
   rw [show decide (b.length = 32) = false by simp [h32], Bool.false_or]
   cases n with
   | false =>
    repeat
     (first
      | (apply P_skip; iterate 2 rfl) | (apply P_move; iterate 3 rfl) | (apply P_assign; iterate 3 rfl) | (apply P_field; iterate 6 rfl) | (apply P_pick; iterate 4 rfl)
      | (apply P_load; rfl; (first | exact I0 | exact I1 | exact I2 | exact I3 | exact I4 | exact I5 | exact I6); iterate 4 rfl)
      | (apply P_cmp (b := false); (iterate 2 rfl); (focus (first | (simp [cmpI]; done) | (simp [cmpI]; omega))); iterate 2 rfl) | (apply P_lenbs; iterate 4 rfl)
      | (apply P_box; rfl; rfl; rfl; intro _) | apply EL.nil | ((with_reducible apply EK.then_normal); apply EK.code) | (apply EC.cond_false; rfl)
      | (with_reducible first | apply EC.seq | apply EC.region | apply EC.skip | apply EC.ret))
    exact EK.retM1s [] rfl rfl (List.nil_sublist _) ⟨rfl, rfl⟩
   | true =>
    rw [Bool.true_and]
    by_cases h0 : b.length = 0
    ·
     rw [show decide (b.length = 0) = true by simp [h0]]
     have hc : cmpI .eql (b.length : Int) 0 = some true := by rw [h0]; rfl
     repeat
      (first
       | (apply P_cmp (b := true); (iterate 2 rfl); exact hc; iterate 2 rfl) | (apply P_move; iterate 3 rfl) | (apply P_assign; iterate 3 rfl)
       | (apply P_field; iterate 6 rfl) | (apply P_pick; iterate 4 rfl)
       | (apply P_load; rfl; (first | exact I0 | exact I1 | exact I2 | exact I3 | exact I4 | exact I5 | exact I6); iterate 4 rfl)
       | (apply P_cmp (b := false); (iterate 2 rfl); (focus (first | (simp [cmpI]; done) | (simp [cmpI]; omega))); iterate 2 rfl) | (apply P_lenbs; iterate 4 rfl)
       | (apply P_box; rfl; rfl; rfl; intro _) | apply EL.nil | ((with_reducible apply EK.then_normal); apply EK.code) | (apply EC.cond_false; rfl)
       | (with_reducible first | apply EC.seq | apply EC.region | apply EC.skip | apply EC.ret))
     exact EK.retM1s [] rfl rfl (List.nil_sublist _) ⟨rfl, rfl⟩
    ·
     have hc : cmpI .eql (b.length : Int) 0 = some false := by
      simp only [cmpI, Option.some.injEq, beq_eq_false_iff_ne]
      omega
     rw [decide_eq_false h0]
     repeat
      (first
       | (apply P_cmp (b := false); (iterate 2 rfl); exact hc; iterate 2 rfl) | (apply P_move; iterate 3 rfl) | (apply P_assign; iterate 3 rfl)
       | (apply P_field; iterate 6 rfl) | (apply P_pick; iterate 4 rfl)
       | (apply P_load; rfl; (first | exact I0 | exact I1 | exact I2 | exact I3 | exact I4 | exact I5 | exact I6); iterate 4 rfl)
       | (apply P_cmp (b := false); (iterate 2 rfl); (focus (first | (simp [cmpI]; done) | (simp [cmpI]; omega))); iterate 2 rfl) | (apply P_lenbs; iterate 4 rfl)
       | (apply P_box; rfl; rfl; rfl; intro _) | apply EL.nil | ((with_reducible apply EK.then_normal); apply EK.code) | (apply EC.cond_false; rfl)
       | (with_reducible first | apply EC.seq | apply EC.region | apply EC.skip | apply EC.ret))
     exact EK.retM1s [] rfl rfl (List.nil_sublist _) ⟨rfl, rfl⟩
set_option maxRecDepth 20000 in
set_option maxHeartbeats 4000000 in
theorem f_rShort (x : Raw) : Fn 36 [dItem x] (· = .val (.v (.bool (isL x && decide ((its x).length = 2))))) := by
 obtain ⟨l, b, xs⟩ := x
 have hml : (dItems xs).length = xs.length := by rw [dItems_map, List.length_map]
 unfold dItem isL its
 refine Fn.walk 11 Try.func36 rfl Try.ntmps36 (by simp) fun X => ?_
 cases l with
 | false =>
  repeat
   (first
    | (apply P_skip; iterate 2 rfl) | (apply P_move; iterate 3 rfl) | (apply P_assign; iterate 3 rfl) | (apply P_field; iterate 6 rfl) | (apply P_pick; iterate 4 rfl)
    | (apply P_load; rfl; (first | exact I0 | exact I1 | exact I2 | exact I3 | exact I4 | exact I5 | exact I6); iterate 4 rfl) | (apply P_box; rfl; rfl; rfl; intro _)
    | apply EL.nil | ((with_reducible apply EK.then_normal); apply EK.code) | (with_reducible first | apply EC.seq | apply EC.region | apply EC.ret))
  exact EK.ret1 rfl rfl rfl
 | true =>
  rw [Bool.true_and]
  by_cases h : xs.length = 2
  ·
   rw [show decide (xs.length = 2) = true by simp [h]]
   repeat
    (first
     | (apply P_move; iterate 3 rfl) | (apply P_assign; iterate 3 rfl) | (apply P_field; iterate 6 rfl) | (apply P_pick; iterate 4 rfl)
     | (apply P_load; rfl; (first | exact I0 | exact I1 | exact I2 | exact I3 | exact I4 | exact I5 | exact I6); iterate 4 rfl)
     | (apply P_cmp (b := true); (iterate 2 rfl); (focus (first | (simp [cmpI]; done) | (simp [cmpI]; omega))); iterate 2 rfl) | (apply P_lensl; iterate 4 rfl)
     | (apply P_box; rfl; rfl; rfl; intro _) | apply EL.nil | ((with_reducible apply EK.then_normal); apply EK.code) | (with_reducible first | apply EC.seq | apply EC.region | apply EC.ret))
   exact EK.ret1 rfl rfl rfl
  ·
   rw [show decide (xs.length = 2) = false by simp [h]]
   repeat
    (first
     | (apply P_move; iterate 3 rfl) | (apply P_assign; iterate 3 rfl) | (apply P_field; iterate 6 rfl) | (apply P_pick; iterate 4 rfl)
     | (apply P_load; rfl; (first | exact I0 | exact I1 | exact I2 | exact I3 | exact I4 | exact I5 | exact I6); iterate 4 rfl)
     | (apply P_cmp (b := false); (iterate 2 rfl); (focus (first | (simp [cmpI]; done) | (simp [cmpI]; omega))); iterate 2 rfl) | (apply P_lensl; iterate 4 rfl)
     | (apply P_box; rfl; rfl; rfl; intro _) | apply EL.nil | ((with_reducible apply EK.then_normal); apply EK.code) | (with_reducible first | apply EC.seq | apply EC.region | apply EC.ret))
   exact EK.ret1 rfl rfl rfl
end E
end Go.Proofs.Ytiledgojbpmoiaa
/-
 Changes as items (plain): what a diff is packed as, which items are diffs.
 Conditions: none. No program is named here.
-/
namespace Go.Proofs.Ytiledgojbpmoiaa
set_option linter.unusedVariables false
open Rlp
namespace Jn
structure Sl where
 key : List UInt8
 val : List UInt8
structure Ch where
 addr : List UInt8
 gone : Bool
 nonce : Int
 bal : List UInt8
 code : List UInt8
 slots : List Sl
structure Df where
 id : List UInt8
 par : List UInt8
 chs : List Ch
def Sl.ok (s : Sl) : Prop := s.key.length = 32 ∧ s.val.length = 32
def Ch.ok (c : Ch) : Prop := c.addr.length = 20 ∧ c.bal.length = 32 ∧ -9223372036854775808 ≤ c.nonce ∧ c.nonce ≤ 9223372036854775807 ∧ ∀ s ∈ c.slots, s.ok
def Df.ok (d : Df) : Prop := d.id.length = 32 ∧ d.par.length = 32 ∧ ∀ c ∈ d.chs, c.ok
def bytesI (l : List UInt8) : Raw := .mk false l []
def listI (xs : List Raw) : Raw := .mk true [] xs
def numI (n : Nat) : Raw := bytesI (be n)
def wordI (l : List UInt8) : Raw := bytesI (strip l)
def slotI (s : Sl) : Raw := listI [wordI s.key, wordI s.val]
def chI (c : Ch) : Raw := listI [bytesI c.addr, numI (if c.gone then 1 else 0), numI c.nonce.toNat, wordI c.bal, bytesI c.code, listI (c.slots.map slotI)]
def dfI (d : Df) : Raw := listI [bytesI d.id, bytesI d.par, listI (d.chs.map chI)]
abbrev cmp (l m : List UInt8) : Int := Lib.compareBytes l m
def risesS : List Sl → Bool
 | [] => true
 | [_] => true
 | a :: b :: l => decide (cmp a.key b.key < 0) && risesS (b :: l)
def mayC (c : Ch) : Bool := decide (0 ≤ c.nonce) && risesS c.slots
def risesC : List Ch → Bool
 | [] => true
 | [_] => true
 | a :: b :: l => decide (cmp a.addr b.addr < 0) && risesC (b :: l)
def may (l : List Ch) : Bool := l.all mayC && risesC l
def packD (d : Df) : Except Nat (List UInt8) := if may d.chs then (match packed (dfI d) with | some b => .ok b | none => .error 3) else .error 1
/-! ### Back -/
def isB : Raw → Option (List UInt8)
 | .mk false bs _ => some bs
 | .mk true _ _ => none
def isL : Raw → Option (List Raw)
 | .mk true _ xs => some xs
 | .mk false _ _ => none
def slotR (x : Raw) : Option Sl :=
 match isL x with
 | some [a, b] => match wordR a, wordR b with
  | some k, some v => some ⟨k, v⟩
  | _, _ => none
 | _ => none
def allR {α : Type} (f : Raw → Option α) : List Raw → Option (List α)
 | [] => some []
 | x :: xs => match f x with
  | none => none
  | some y => match allR f xs with
   | none => none
   | some ys => some (y :: ys)
def chR (x : Raw) : Option Ch :=
 match isL x with
 | some [a, g, n, w, c, s] =>
  match isB a, intR g, intR n, wordR w, isB c, isL s with
  | some a, some g, some n, some w, some c, some s => if a.length = 20 ∧ g ≤ 1 then (match allR slotR s with | some ss => some ⟨a, g == 1, n, w, c, ss⟩ | none => none) else none
  | _, _, _, _, _, _ => none
 | _ => none
def dfR (x : Raw) : Option Df :=
 match isL x with
 | some [i, p, l] =>
  match isB i, isB p, isL l with
  | some i, some p, some l => if i.length = 32 ∧ p.length = 32 then (match allR chR l with | some cs => some ⟨i, p, cs⟩ | none => none) else none
  | _, _, _ => none
 | _ => none
def readD (b : List UInt8) : Except Nat Df :=
 match readR b with
 | .error e => .error e
 | .ok x => match dfR x with
  | none => .error 4
  | some d => if may d.chs then .ok d else .error 4
/-! ### An item that is a diff's has the diff's bytes -/
theorem E_list (bs : List UInt8) (xs : List Raw) : E (.mk true bs xs) = head (EL xs).length 192 ++ EL xs := by rw [E]
/-! ### What is small is packed -/
mutual
theorem packR_ok : ∀ x : Raw, (E x).length ≤ most → packR x = some (E x)
 | .mk false bs xs, h => by
  rw [E] at h ⊢
  rw [packR]
  have h2 : bs.length ≤ (EB bs).length := by unfold EB; split <;> simp
  rw [if_neg (by omega)]
 | .mk true bs xs, h => by
  rw [E_list] at h ⊢
  rw [List.length_append] at h
  rw [packR, packRL_ok xs [] (by simp; omega)]
  rfl
theorem packRL_ok : ∀ (xs : List Raw) (acc : List UInt8), acc.length + (EL xs).length ≤ most → packRL xs acc = some (acc ++ EL xs)
 | [], acc, h => by rw [packRL, EL, List.append_nil]
 | x :: xs, acc, h => by
  rw [EL, List.length_append] at h
  rw [packRL, packR_ok x (by omega), EL]
  dsimp only
  rw [if_neg (by omega), packRL_ok xs (acc ++ E x) (by rw [List.length_append]; omega), List.append_assoc]
end
/-! ### A diff's item is the diff's -/
end Jn
end Go.Proofs.Ytiledgojbpmoiaa
/-
 Bodies: acct.Pack and the reference's PackBody.
 Conditions: none.
-/
namespace Go.Proofs.Ytiledgojbpmoiaa
set_option linter.unusedVariables false
open Go.RowKit Mono Rlp
namespace E
theorem packed_ok {x : Raw} (hd : deepR x 32 ≤ 32) (h : (E x).length ≤ most) : packed x = some (Rlp.E x) := by
 rw [packed_ref, if_neg (by omega), Jn.packR_ok _ h]
 dsimp only
 rw [if_neg (by omega)]
end E
end Go.Proofs.Ytiledgojbpmoiaa
/-
 What lists are as nodes (plain): the program's way and the reference's.
 Conditions: none.
-/
namespace Go.Proofs.Ytiledgojbpmoiaa
set_option linter.unusedVariables false
open Go.RowKit Mono Rlp
namespace E
/-! ### Items that were read -/
structure Gd (x : Raw) : Prop where
 nrm : norm x = x
 deep : ∀ m, deepR x m ≤ 32
 dep : dep x ≤ 33
 len : (Rlp.E x).length ≤ most
theorem parseL_nice {p : List UInt8 → Except Nat (Raw × Nat)} {Q : Raw → Prop} (hp : ∀ b x k, p b = .ok (x, k) → Q x) : ∀ (f : Nat) (b : List UInt8) (xs : List Raw), parseL p f b = .ok xs → ∀ x ∈ xs, Q x
 | _, [], xs, h => by unfold parseL at h; cases h; intro x hx; cases hx
 | 0, _ :: _, xs, h => by unfold parseL at h; cases h
 | f + 1, c :: b, xs, h => by
  unfold parseL at h
  split at h
  · cases h
  ·
   rename_i x k hx
   split at h
   · cases h
   ·
    rename_i ys hy
    cases h
    intro z hz
    rcases List.mem_cons.1 hz with rfl | hz
    · exact hp _ _ _ hx
    · exact parseL_nice hp f _ ys hy z hz
theorem normL_idP : ∀ xs : List Raw, (∀ x ∈ xs, norm x = x) → normL xs = xs
 | [], _ => by rw [normL]
 | x :: xs, h => by rw [normL, h x List.mem_cons_self, normL_idP xs fun y hy => h y (List.mem_cons_of_mem _ hy)]
theorem depL_le {n : Nat} : ∀ xs : List Raw, (∀ x ∈ xs, dep x ≤ n) → depL xs ≤ n
 | [], _ => by rw [depL]; omega
 | x :: xs, h => by
  rw [depL]
  have h1 := h x List.mem_cons_self
  have h2 := depL_le xs fun y hy => h y (List.mem_cons_of_mem _ hy)
  omega
theorem stepP_nice (p : Option (List UInt8 → Except Nat (Raw × Nat))) (d : Nat) (hp : ∀ q, p = some q → 0 < d ∧ ∀ b x k, q b = .ok (x, k) → norm x = x ∧ (∀ m, deepR x m ≤ d - 1) ∧ dep x ≤ d) (b : List UInt8) (x : Raw) (n : Nat) (h : stepP p b = .ok (x, n)) : norm x = x ∧ (∀ m, deepR x m ≤ d) ∧ dep x ≤ d + 1 := by
 have hB : ∀ l : List UInt8, norm (.mk false l []) = .mk false l [] ∧ (∀ m, deepR (.mk false l []) m ≤ d) ∧ dep (.mk false l []) ≤ d + 1 := fun l => ⟨by rw [norm], fun m => by rw [deepR]; omega, by rw [dep, depL]; omega⟩
 cases b with
 | nil => cases h
 | cons c t =>
  rw [stepP_cons] at h
  split at h
  ·
   cases h
   exact hB _
  ·
   split at h
   ·
    split at h
    · cases h
    ·
     split at h
     · cases h
     ·
      cases h
      exact hB _
   ·
    cases p with
    | none => cases h
    | some p =>
     obtain ⟨hd, hq⟩ := hp p rfl
     dsimp only at h
     split at h
     · cases h
     ·
      split at h
      · cases h
      ·
       rename_i ys hy
       cases h
       have hall := parseL_nice hq _ _ _ hy
       refine ⟨by rw [norm, normL_idP ys fun x hx => (hall x hx).1], fun m => ?_, ?_⟩
       ·
        cases m with
        | zero => rw [deepR]; omega
        | succ m =>
         rw [deepR]
         have := (maxD_le ys m 0 (d - 1)).2 ⟨Nat.zero_le _, fun x hx => (hall x hx).2.1 m⟩
         omega
       ·
        rw [dep]
        have := depL_le ys fun x hx => (hall x hx).2.2
        omega
theorem parse_nice : ∀ (d : Nat) (b : List UInt8) (x : Raw) (n : Nat), parse d b = .ok (x, n) → norm x = x ∧ (∀ m, deepR x m ≤ d) ∧ dep x ≤ d + 1
 | 0, b, x, n, h => stepP_nice none 0 (fun q e => by cases e) b x n h
 | d + 1, b, x, n, h => stepP_nice (some (parse d)) (d + 1) (fun q e => by cases e; exact ⟨Nat.succ_pos _, parse_nice d⟩) b x n h
theorem readR_gd {b : List UInt8} {x : Raw} (h : readR b = .ok x) : Gd x := by
 have hE := readR_E h
 unfold readR at h
 split at h
 · cases h
 ·
  rename_i hl
  split at h
  · cases h
  ·
   rename_i y n hy
   split at h
   ·
    cases h
    obtain ⟨h1, h2, h3⟩ := parse_nice 32 b x n hy
    exact ⟨h1, h2, h3, by rw [← hE]; omega⟩
   · cases h
theorem Gd.pk {x : Raw} (h : Gd x) : packed x = some (Rlp.E x) := packed_ok (h.deep 32) h.len
theorem Gd.pkB {x : Raw} (h : Gd x) : E.pkB x = Rlp.E x := by
 unfold E.pkB
 rw [h.pk]
 rfl
theorem normL_mem : ∀ {xs : List Raw}, normL xs = xs → ∀ x ∈ xs, norm x = x
 | y :: xs, h, x, hx => by
  rw [normL] at h
  injection h with h1 h2
  rcases List.mem_cons.1 hx with rfl | hx
  · exact h1
  · exact normL_mem h2 x hx
theorem Gd.kid {b : List UInt8} {xs : List Raw} {y : Raw} (h : Gd (.mk true b xs)) (hy : y ∈ xs) : Gd y where
 nrm := by
  have := h.nrm
  rw [norm] at this
  injection this with _ _ h3
  exact normL_mem h3 y hy
 deep m := by
  have h1 := h.deep (m + 1)
  rw [deepR] at h1
  have := ((maxD_le xs m 0 31).1 (by omega)).2 y hy
  omega
 dep := by
  have h1 := h.dep
  rw [E.dep] at h1
  have := dep_mem hy
  omega
 len := Nat.le_trans (E_kid hy) h.len
theorem gd_rawE : Gd rawE := ⟨by rw [rawE, norm], fun m => by rw [rawE, deepR]; omega, by rw [rawE, E.dep, depL]; omega, by decide⟩
/-! ### Nodes -/
inductive Nd where
 | nil
 | hash (w : List UInt8)
 | leaf (p v : List UInt8)
 | ext (p : List UInt8) (k : Nd)
 | br (ks : Nat → Nd) (v : List UInt8)
def Nd.isNil : Nd → Bool
 | .nil => true
 | _ => false
def Nd.isBH : Nd → Bool
 | .br _ _ => true
 | .hash _ => true
 | _ => false
def refF (N : Raw → Nd × Bool) (x : Raw) : Nd × Bool := if isL x then (match packed x with
  | none => (.nil, false)
  | some b => if b.length < 32 then N x else (.nil, false)) else if (bts x).length = 0 then (.nil, true) else if (bts x).length = 32 then (.hash (bts x), true) else (.nil, false)
def pairF (N : Raw → Nd × Bool) (a b : Raw) : Nd × Bool := match rdP (bts a) with
 | none => (.nil, false)
 | some (p, lf) => if isL a then (.nil, false) else if lf then (.leaf p (bts b), !isL b && decide (0 < (bts b).length)) else if (refF N b).1.isBH then (.ext p (refF N b).1, (refF N b).2 && decide (0 < p.length)) else (.nil, false)
def cntF (N : Raw → Nd × Bool) (xs : List Raw) : Nat := (xs.filter fun x => !(refF N x).1.isNil).length
def brF (N : Raw → Nd × Bool) (xs : List Raw) : Nd × Bool := if (xs.take 16).all (fun x => (refF N x).2) then (.br (fun k => (refF N (xs.getD k rawE)).1) (bts (xs.getD 16 rawE)), !isL (xs.getD 16 rawE) && decide (1 < cntF N (xs.take 16) + (if 0 < (bts (xs.getD 16 rawE)).length then 1 else 0))) else (.nil, false)
def nodeF : Nat → Raw → Nd × Bool
 | 0, _ => (.nil, false)
 | _ + 1, .mk false _ _ => (.nil, false)
 | f + 1, .mk true _ xs => if xs.length = 2 then pairF (nodeF f) (xs.getD 0 rawE) (xs.getD 1 rawE) else if xs.length = 17 then brF (nodeF f) xs else (.nil, false)
theorem all_eq {α : Type} {p q : α → Bool} : ∀ {l : List α}, (∀ x ∈ l, p x = q x) → l.all p = l.all q
 | [], _ => rfl
 | x :: l, h => by rw [List.all_cons, List.all_cons, h x List.mem_cons_self, all_eq fun y hy => h y (List.mem_cons_of_mem _ hy)]
theorem filter_eqP {α : Type} {p q : α → Bool} : ∀ {l : List α}, (∀ x ∈ l, p x = q x) → l.filter p = l.filter q
 | [], _ => rfl
 | x :: l, h => by rw [List.filter_cons, List.filter_cons, h x List.mem_cons_self, filter_eqP fun y hy => h y (List.mem_cons_of_mem _ hy)]
theorem nodeF_some : ∀ (f : Nat) (x : Raw), (nodeF f x).2 = true → (nodeF f x).1.isNil = false
 | 0, x, h => by cases h
 | _ + 1, .mk false _ _, h => by cases h
 | f + 1, .mk true b xs, h => by
  rw [nodeF] at h ⊢
  split
  ·
   rename_i h2
   rw [if_pos h2] at h
   unfold pairF at h ⊢
   split
   ·
    rename_i e
    rw [e] at h
    cases h
   ·
    rename_i p lf e
    rw [e] at h
    dsimp only at h
    split
    ·
     rename_i h3
     rw [if_pos h3] at h
     cases h
    ·
     split
     · rfl
     ·
      split
      · rfl
      ·
       rename_i h3 h4 h5
       rw [if_neg h3, if_neg h4, if_neg h5] at h
       cases h
  ·
   rename_i h2
   rw [if_neg h2] at h
   split
   ·
    rename_i h3
    rw [if_pos h3] at h
    unfold brF at h ⊢
    split
    · rfl
    ·
     rename_i h4
     rw [if_neg h4] at h
     cases h
   ·
    rename_i h3
    rw [if_neg h3] at h
    cases h
theorem nodeF_bh : ∀ (f : Nat) (x : Raw), (nodeF f x).2 = true → (nodeF f x).1.isBH = !decide ((its x).length = 2)
 | 0, x, h => by cases h
 | _ + 1, .mk false _ _, h => by cases h
 | f + 1, .mk true b xs, h => by
  rw [nodeF] at h ⊢
  show _ = !decide (xs.length = 2)
  split
  ·
   rename_i h2
   rw [if_pos h2] at h
   rw [decide_eq_true h2]
   unfold pairF at h ⊢
   split
   · rfl
   ·
    rename_i p lf e
    rw [e] at h
    dsimp only at h
    split
    · rfl
    ·
     split
     · rfl
     ·
      split
      · rfl
      · rfl
  ·
   rename_i h2
   rw [if_neg h2] at h
   rw [decide_eq_false h2]
   split
   ·
    rename_i h3
    rw [if_pos h3] at h
    unfold brF at h ⊢
    split
    · rfl
    ·
     rename_i h4
     rw [if_neg h4] at h
     cases h
   ·
    rename_i h3
    rw [if_neg h3] at h
    cases h
theorem refF_list {N : Raw → Nd × Bool} {x : Raw} (hx : Gd x) (hl : isL x = true) : refF N x = if (Rlp.E x).length < 32 then N x else (.nil, false) := by
 unfold refF
 rw [if_pos hl, hx.pk]
theorem refF_ok {f : Nat} {x : Raw} (hx : Gd x) (ih : (nodeF f x).2 = isN f x) : (refF (nodeF f) x).2 = rfB (isN f) true x ∧ ((refF (nodeF f) x).2 = true → (!(refF (nodeF f) x).1.isNil) = some1 x) := by
 obtain ⟨l, b, xs⟩ := x
 cases l with
 | true =>
  rw [refF_list hx rfl]
  rw [rfB_list]
  unfold some1
  rw [hx.pkB, show isL (.mk true b xs) = true from rfl, Bool.true_or]
  split
  ·
   rename_i h
   rw [decide_eq_true h, Bool.true_and]
   exact ⟨ih, fun h2 => by rw [nodeF_some f _ h2]; rfl⟩
  ·
   rename_i h
   rw [decide_eq_false h, Bool.false_and]
   exact ⟨rfl, fun h => by cases h⟩
 | false =>
  rw [rfB_bytes]
  unfold refF some1
  rw [show isL (.mk false b xs) = false from rfl, if_neg Bool.false_ne_true, show bts (.mk false b xs) = b from rfl, Bool.false_or]
  by_cases h0 : b.length = 0
  ·
   rw [if_pos h0]
   refine ⟨by simp [h0], fun _ => ?_⟩
   rw [h0]
   rfl
  ·
   rw [if_neg h0]
   by_cases h32 : b.length = 32
   ·
    rw [if_pos h32]
    refine ⟨by simp [h32], fun _ => ?_⟩
    rw [h32]
    rfl
   ·
    rw [if_neg h32]
    refine ⟨by simp [h0, h32], fun h => by cases h⟩
theorem nodeF_isN : ∀ (f : Nat) (x : Raw), Gd x → (nodeF f x).2 = isN f x
 | 0, x, _ => rfl
 | _ + 1, .mk false _ _, _ => by rw [nodeF, isN]
 | f + 1, .mk true b xs, hx => by
  have ih : ∀ y ∈ xs, (nodeF f y).2 = isN f y := fun y hy => nodeF_isN f y (hx.kid hy)
  rw [nodeF, isN]
  by_cases h2 : xs.length = 2
  ·
   rw [if_pos h2, if_neg (by omega), if_pos h2]
   match xs, h2 with
   | [a, c], _ =>
    have hc := hx.kid (y := c) (List.mem_cons_of_mem _ List.mem_cons_self)
    have ic := ih c (List.mem_cons_of_mem _ List.mem_cons_self)
    show (pairF (nodeF f) a c).2 = prB (isN f) a c
    unfold pairF prB
    cases hr : rdP (bts a) with
    | none => simp
    | some pl =>
     obtain ⟨p, lf⟩ := pl
     dsimp only
     cases hla : isL a with
     | true => rfl
     | false =>
      rw [if_neg Bool.false_ne_true, Bool.not_false, Bool.true_and]
      cases lf with
      | true => rfl
      | false =>
       rw [if_neg Bool.false_ne_true]
       dsimp only
       obtain ⟨cl, cb, cx⟩ := c
       cases cl with
       | true =>
        rw [refF_list hc rfl]
        rw [rfB_list]
        rw [hc.pkB, show isL (.mk true cb cx) = true from rfl, Bool.true_and]
        split
        ·
         rename_i hlt
         rw [decide_eq_true hlt, Bool.true_and]
         cases hn : isN f (.mk true cb cx) with
         | true =>
          rw [hn] at ic
          rw [nodeF_bh f _ ic, ic]
          cases hd : decide ((its (.mk true cb cx)).length = 2) with
          | true => simp
          | false => simp
         | false =>
          rw [hn] at ic
          rw [ic]
          split <;> simp
        ·
         rename_i hlt
         rw [decide_eq_false hlt]
         simp [Nd.isBH]
       | false =>
        rw [rfB_bytes]
        unfold refF
        rw [show isL (.mk false cb cx) = false from rfl, if_neg Bool.false_ne_true, show bts (.mk false cb cx) = cb from rfl]
        by_cases h0 : cb.length = 0
        ·
         rw [if_pos h0]
         simp [Nd.isBH, h0]
        ·
         rw [if_neg h0]
         by_cases h32 : cb.length = 32
         ·
          rw [if_pos h32]
          simp [Nd.isBH, h32]
         ·
          rw [if_neg h32]
          simp [Nd.isBH, h32]
  ·
   rw [if_neg h2]
   by_cases h17 : xs.length = 17
   ·
    rw [if_pos h17, if_pos h17]
    unfold brF brB
    have hk : ∀ y ∈ xs.take 16, (refF (nodeF f) y).2 = rfB (isN f) true y := fun y hy => (refF_ok (hx.kid (List.mem_of_mem_take hy)) (ih y (List.mem_of_mem_take hy))).1
    rw [all_eq hk]
    cases hall : (xs.take 16).all (rfB (isN f) true) with
    | false => simp
    | true =>
     rw [if_pos rfl, Bool.true_and]
     dsimp only
     congr 1
     have : (xs.take 16).filter (fun x => !(refF (nodeF f) x).1.isNil) = (xs.take 16).filter some1 := filter_eqP fun y hy => (refF_ok (hx.kid (List.mem_of_mem_take hy)) (ih y (List.mem_of_mem_take hy))).2 (by rw [hk y hy]; exact List.all_eq_true.1 hall y hy)
     unfold cntF
     rw [this]
     rfl
   · rw [if_neg h17, if_neg h17, if_neg h2]
end E
end Go.Proofs.Ytiledgojbpmoiaa
/-
 The abstract machine: a new variable that is never written again is read through its pointer.
 Conditions: none.
-/
namespace Go.Proofs.Ytiledgojbpmoiaa
set_option linter.unusedVariables false
open Go.RowKit Mono Rlp
namespace E
theorem g_boxpd {S : St} {ops : Array Oper} {o : Oper} {Ty : TypeId} {x : Operand} {d : D} (ho : o.op = .box Ty x) (hx : ev S x = some (.val d)) : Grows ops S o (· = .val (.pd d)) := fun base ok a w ha => by
 obtain ⟨cs, h1, h2⟩ := n_box ho hx base ok a w ha
 rw [h1]
 have hg := gr_alloc w (.cells cs.toArray Ty)
 refine ⟨hg, _, rfl, (readV_one rfl).2 ?_⟩
 rw [Reads]
 have hs : w.heap.size < (w.alloc (.cells cs.toArray Ty)).heap.size := by simp
 have hr : (w.alloc (.cells cs.toArray Ty)).heap[w.heap.size]? = some (.cells cs.toArray Ty (0, 0)) := (MapKept.heap_alloc w _).1
 exact ⟨w.heap.size, 0, cs, rfl, ⟨.inr (Nat.le_refl _), hs⟩, range_of_row hr, Reads.mono (fun b hb => ⟨.inl hb, Nat.lt_of_lt_of_le (ha.lt b hb) hg.size⟩) (fun p hp => hg.cell (ha.lt _ hp)) _ _ h2⟩
theorem EK.retM2kS {N : Nat} {X : Cx N} {fn : Func} {Φ : R → List Obj → Prop} {S : St} {t u : Tmp} {d e d' e' : D} (os' : List Obj) (hres : fn.results = #[.tmp t, .tmp u]) (hl : look S.regs t = some (.val d)) (hk : look S.regs u = some (.val e)) (hR : RefineL S.facts [d, e] [d', e']) (ho : os'.Sublist S.objs) (hΦ : Φ (.tpl [d', e']) os') : EK X (bodyPost Try.prog fn (OutM X Φ) .ret) S := by
 refine EK.le (S' := ⟨S.regs, os', S.facts⟩) ?_ (EK.retM2r hres hl hk hR hΦ)
 exact fun a w h => ⟨h.mem.less ho (fun f hf => hf), fun t r ht => ReadR.mono (fun b hb => ok_less ho hb) (fun _ _ => rfl) (h.regs t r ht), h.size, h.defers⟩
end E
end Go.Proofs.Ytiledgojbpmoiaa
