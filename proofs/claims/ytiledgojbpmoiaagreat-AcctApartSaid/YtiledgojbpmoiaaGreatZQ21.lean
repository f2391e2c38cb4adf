/-
 Merged (wip/tools/merge.py): TP9, JPlain, AB1, AL3, BR2, BR3.
 Conditions: none.
-/
import Derived.Test.YtiledgojbpmoiaaGreatZQ20
import Derived.Test.YtiledgojbpmoiaaGreatZQ15
import Derived.Test.YtiledgojbpmoiaaGreatZQ5
import Derived.Lib.Bytealg
import Derived.Test.YtiledgojbpmoiaaGreatZQ16
import Derived.Test.YtiledgojbpmoiaaGreatZQ11
import Derived.Test.YtiledgojbpmoiaaGreatZQ18
import Derived.Test.YtiledgojbpmoiaaGreatZQ17
namespace Go.Proofs.YtiledgojbpmoiaaGreat
set_option linter.unusedVariables false
set_option maxRecDepth 20000
set_option maxHeartbeats 4000000
open Go.RowKit Mono Rlp
namespace E
theorem Dv (x : UInt8) : (x >>> 4).toNat = x.toNat / 16 := by rw [UInt8.toNat_shiftRight]; simp [Nat.shiftRight_eq_div_pow]
theorem Du (x : UInt8) : (x &&& 15).toNat = x.toNat % 16 := by rw [UInt8.toNat_and]; exact Nat.and_two_pow_sub_one_eq_mod _ 4
theorem tC (l : List UInt8) : ∀ x ∈ split l, x.toNat ≤ 15 := by
 intro x hx
 obtain ⟨y, _, hy⟩ := List.mem_flatMap.1 hx
 simp only [List.mem_cons, List.not_mem_nil, or_false] at hy
 rcases hy with rfl | rfl
 · rw [Dv]; have := y.toNat_lt; omega
 · rw [Du]; omega
theorem V6 : ∀ (f : Nat) (l : List Pr) (at_ : Nat), (∀ x ∈ l, x.1.length ≤ 536870912) → (bdF f l at_).ok := by
 intro f
 induction f with
 | zero => intro l at_ h; exact trivial
 | succ f ih =>
  intro l at_ h
  match l with
  | [] => exact trivial
  | [x] =>
   show (x.1.drop at_).length ≤ 536870912
   have := h x (by simp)
   rw [List.length_drop]
   omega
  | x :: y :: r =>
   have hx := h x (by simp)
   rw [bdF]
   split
   ·
    refine ⟨?_, ih _ _ h⟩
    rw [List.length_take, List.length_drop]
    omega
   ·
    split
    · exact fun i => ih _ _ fun z hz => h z (List.mem_cons_of_mem _ ((List.mem_filter.1 hz).1))
    · exact fun i => ih _ _ fun z hz => h z ((List.mem_filter.1 hz).1)
def ig (l : List Pr) : Nat := if 100000 < l.length ∨ l.any lg = true then 3 else if l.any (·.2.isEmpty) = true then 1 else if ((l.map sp).map (·.1)).Nodup then 0 else 1
def xY (l : List Pr) : Tn := bdF 200 (srt (l.map sp)) 0
theorem ku {l : List Pr} (h : ig l = 0) : vJ l = .tpl [.sl 2 ((srt (l.map sp)).map dPr), .v (.int .i64 0)] ∧ l.any lg = false ∧ ((l.map sp).map (·.1)).Nodup := by
 unfold ig at h
 unfold vJ
 split at h
 · cases h
 ·
  rename_i h1
  rw [if_neg h1]
  split at h
  · cases h
  ·
   rename_i h2
   rw [if_neg h2]
   split at h
   ·
    rename_i h3
    rw [if_pos h3]
    exact ⟨rfl, by simpa using fun e => h1 (.inr e), h3⟩
   · cases h
theorem I9 {l : List Pr} (h : ig l ≠ 0) : vJ l = .tpl [.v (.slice none 0 0), .v (.int .i64 (ig l : Int))] := by
 unfold ig at h ⊢
 unfold vJ
 split
 · rfl
 ·
  rename_i h1
  rw [if_neg h1] at h
  split
  · rfl
  ·
   rename_i h2
   rw [if_neg h2] at h
   split
   ·
    rename_i h3
    rw [if_pos h3] at h
    exact absurd rfl h
   · rfl
theorem Fg {l : List Pr} (hn : ((l.map sp).map (·.1)).Nodup) : kT 0 (srt (l.map sp)) := by
 refine ⟨?_, fun x _ => Nat.zero_le _, fun x _ y _ => rfl, fun x hx b hb => ?_⟩
 ·
  have h1 := su (l.map sp)
  have h2 : ((srt (l.map sp)).map (·.1)).Nodup := ((iW (l.map sp)).map (·.1)).nodup_iff.2 hn
  unfold List.Nodup at h2
  rw [List.pairwise_map] at h2
  refine (h1.and h2).imp fun h => ?_
  exact Classical.byContradiction fun hn => h.2 (List.le_antisymm h.1 (List.not_lt.1 hn))
 ·
  obtain ⟨y, _, rfl⟩ := List.mem_map.1 ((iW (l.map sp)).mem_iff.1 hx)
  have := tC y.1 b hb
  omega
theorem UZ (l : List Pr) : Fn 69 [.sl 2 (l.map dPr)] (· = .tpl [if ig l = 0 then dT (xY l) else .v .nilIface, .v (.int .i64 (ig l : Int))]) := by
 have h1 := Sv l
 refine Fn.walk 16 Tryz.func69 rfl Tryz.ntmps69 (by simp) fun X => ?_
 by_cases he : ig l = 0
 ·
  obtain ⟨e1, e2, e3⟩ := ku he
  rw [e1] at h1
  rw [if_pos he, he]
  have hlen : ∀ x ∈ srt (l.map sp), x.1.length ≤ 128 := fun x hx => by
   obtain ⟨y, hy, rfl⟩ := List.mem_map.1 ((iW (l.map sp)).mem_iff.1 hx)
   have := iM e2 hy
   show (split y.1).length ≤ 128
   rw [fA]
   omega
  have h2 := SA 200 (srt (l.map sp)) 0 (Fg e3) (fun x hx => by have := hlen x hx; omega) (fun x hx => by have := hlen x hx; omega)
  repeat
   (first
    | (apply aJ (h1); rfl; exact ak.refl _ _; exact enA; iterate 2 rfl) | (apply aJ (h2); rfl; exact ak.refl _ _; exact enA; iterate 2 rfl)
    | (apply au; iterate 3 rfl) | (apply aj; iterate 3 rfl) | (apply aS; iterate 4 rfl)
    | (apply aA (b := false); (iterate 2 rfl); exact aG; iterate 2 rfl) | apply EL.nil | ((with_reducible apply EK.ah); apply EK.code) | (apply EC.cond_false; rfl)
    | (with_reducible first | apply EC.seq | apply EC.region | apply EC.skip | apply EC.ret))
  exact EK.rF rfl rfl rfl rfl
 ·
  rw [I9 he] at h1
  rw [if_neg he]
  have hne : (ig l : Int) ≠ 0 := by omega
  repeat
   (first
    | (apply aJ (h1); rfl; exact ak.refl _ _; exact enA; iterate 2 rfl) | (apply au; iterate 3 rfl) | (apply aj; iterate 3 rfl)
    | (apply aS; iterate 4 rfl) | (apply aA (b := true); (iterate 2 rfl); exact aG; iterate 2 rfl) | apply EL.nil | ((with_reducible apply EK.ah); apply EK.code)
    | (apply EC.cond_true; rfl) | (with_reducible first | apply EC.seq | apply EC.region | apply EC.ret | apply EK.aI))
  exact EK.rF rfl rfl rfl rfl
theorem QO {l : List Pr} (h : ig l = 0) : (xY l).ok := V6 _ _ _ fun x hx => by
 obtain ⟨y, hy, rfl⟩ := List.mem_map.1 ((iW (l.map sp)).mem_iff.1 hx)
 have := iM (ku h).2.1 hy
 show (split y.1).length ≤ _
 rw [fA]
 omega
def kW (l : List Pr) : List UInt8 := if ig l = 0 then sumT (xY l) else zero32
theorem PS (l : List Pr) : Fn 26 [.sl 2 (l.map dPr)] (· = .tpl [.arr 32 (kW l), .v (.int .i64 (ig l : Int))]) := by
 have h1 := UZ l
 unfold kW
 refine Fn.walk 17 Tryz.func26 rfl Tryz.ntmps26 (by simp) fun X => ?_
 by_cases he : ig l = 0
 ·
  have h2 := VY (xY l) (QO he)
  rw [if_pos he, he] at h1 ⊢
  repeat
   (first
    | (apply aJ (h1); rfl; exact ak.refl _ _; exact enA; iterate 2 rfl) | (apply aJ (h2); rfl; exact ak.refl _ _; exact enA; iterate 2 rfl)
    | (apply au; iterate 3 rfl) | (apply aj; iterate 3 rfl) | (apply aS; iterate 4 rfl)
    | (apply aA (b := false); (iterate 2 rfl); exact aG; iterate 2 rfl) | (apply aV; rfl; rfl; rfl; intro _)
    | (apply aO; rfl; (focus (repeat first | exact .z | apply aY.s | apply aN.s)); iterate 4 rfl) | apply EL.nil | ((with_reducible apply EK.ah); apply EK.code)
    | (apply EC.cond_false; rfl) | (with_reducible first | apply EC.seq | apply EC.region | apply EC.skip | apply EC.ret))
  refine EK.ni 0 rfl rfl rfl rfl rfl ?_ rfl
  (exact RL.a)
 ·
  rw [if_neg he] at h1 ⊢
  have hne : (ig l : Int) ≠ 0 := by omega
  repeat
   (first
    | (apply aJ (h1); rfl; exact ak.refl _ _; exact enA; iterate 2 rfl) | (apply au; iterate 3 rfl) | (apply aj; iterate 3 rfl)
    | (apply aS; iterate 4 rfl) | (apply aA (b := true); (iterate 2 rfl); exact aG; iterate 2 rfl) | (apply iD; iterate 5 rfl)
    | (apply aV; rfl; rfl; rfl; intro _) | (apply aO; rfl; (focus (repeat first | exact .z | apply aY.s | apply aN.s)); iterate 4 rfl) | apply EL.nil
    | ((with_reducible apply EK.ah); apply EK.code) | (apply EC.cond_true; rfl) | (with_reducible first | apply EC.seq | apply EC.region | apply EC.ret | apply EK.aI))
  refine EK.ni 0 rfl rfl rfl rfl rfl ?_ rfl
  (exact RL.a)
end E
end Go.Proofs.YtiledgojbpmoiaaGreat
namespace Go.Proofs.YtiledgojbpmoiaaGreat
set_option linter.unusedVariables false
open Rlp
namespace Jn
structure Sl where
 key : List UInt8
 val : List UInt8
structure Ch where
 addr : List UInt8
 gone : Bool
 nonce : Int
 bal : List UInt8
 code : List UInt8
 slots : List Sl
structure Df where
 id : List UInt8
 par : List UInt8
 chs : List Ch
def Sl.ok (s : Sl) : Prop := s.key.length = 32 ∧ s.val.length = 32
def Ch.ok (c : Ch) : Prop := c.addr.length = 20 ∧ c.bal.length = 32 ∧ -9223372036854775808 ≤ c.nonce ∧ c.nonce ≤ 9223372036854775807 ∧ ∀ s ∈ c.slots, s.ok
def Df.ok (d : Df) : Prop := d.id.length = 32 ∧ d.par.length = 32 ∧ ∀ c ∈ d.chs, c.ok
def qB (l : List UInt8) : Raw := .mk false l []
def F5 (xs : List Raw) : Raw := .mk true [] xs
def Rn (n : Nat) : Raw := qB (be n)
def Ef (l : List UInt8) : Raw := qB (strip l)
def Vy (s : Sl) : Raw := F5 [Ef s.key, Ef s.val]
def chI (c : Ch) : Raw := F5 [qB c.addr, Rn (if c.gone then 1 else 0), Rn c.nonce.toNat, Ef c.bal, qB c.code, F5 (c.slots.map Vy)]
def dfI (d : Df) : Raw := F5 [qB d.id, qB d.par, F5 (d.chs.map chI)]
abbrev cmp (l m : List UInt8) : Int := Lib.compareBytes l m
def Oe : List Sl → Bool
 | [] => true
 | [_] => true
 | a :: b :: l => decide (cmp a.key b.key < 0) && Oe (b :: l)
def WA (c : Ch) : Bool := decide (0 ≤ c.nonce) && Oe c.slots
def Og : List Ch → Bool
 | [] => true
 | [_] => true
 | a :: b :: l => decide (cmp a.addr b.addr < 0) && Og (b :: l)
def may (l : List Ch) : Bool := l.all WA && Og l
def oW (d : Df) : Except Nat (List UInt8) := if may d.chs then (match packed (dfI d) with | some b => .ok b | none => .error 3) else .error 1
def isB : Raw → Option (List UInt8)
 | .mk false bs _ => some bs
 | .mk true _ _ => none
theorem Vm (bs : List UInt8) (xs : List Raw) : E (.mk true bs xs) = head (EL xs).length 192 ++ EL xs := by rw [E]
mutual
theorem FI : ∀ x : Raw, (E x).length ≤ most → eG x = some (E x)
 | .mk false bs xs, h => by
  rw [E] at h ⊢
  rw [eG]
  have h2 : bs.length ≤ (EB bs).length := by unfold EB; split <;> simp
  rw [if_neg (by omega)]
 | .mk true bs xs, h => by
  rw [Vm] at h ⊢
  rw [List.length_append] at h
  rw [eG, Bf xs [] (by simp; omega)]
  rfl
theorem Bf : ∀ (xs : List Raw) (acc : List UInt8), acc.length + (EL xs).length ≤ most → fF xs acc = some (acc ++ EL xs)
 | [], acc, h => by rw [fF, EL, List.append_nil]
 | x :: xs, acc, h => by
  rw [EL, List.length_append] at h
  rw [fF, FI x (by omega), EL]
  dsimp only
  rw [if_neg (by omega), Bf xs (acc ++ E x) (by rw [List.length_append]; omega), List.append_assoc]
end
theorem Cb (xs : List Raw) (bs : List UInt8) (m k : Nat) (h : ∀ x ∈ xs, dW x m ≤ k) : dW (.mk true bs xs) (m + 1) ≤ k + 1 := by
 rw [dW]
 have := (maxD_le xs m 0 k).2 ⟨Nat.zero_le _, h⟩
 omega
theorem JG {l : List UInt8} (h : l.length = 32) (hp : ∀ l : List UInt8, l.length = 32 → pad (strip l) = l) : JH (Ef l) = some l := by
 have hl := iI l
 unfold JH Ef qB
 rw [Ro, if_neg (rX l), Option.bind_some, if_pos (by omega), hp l h]
theorem OU {n : Nat} (h : n ≤ 9223372036854775807) : RI (Rn n) = some n := by
 have hl := gU 8 n (by omega)
 unfold RI Rn qB
 rw [Ro, if_neg, Option.bind_some, Ib, if_pos ⟨hl, h⟩]
 rcases Nat.eq_zero_or_pos n with h0 | h0
 · subst h0; rw [qX]; simp
 ·
  obtain ⟨b, l, e, hb⟩ := KJ n h0
  rw [e]
  simpa using hb
end Jn
end Go.Proofs.YtiledgojbpmoiaaGreat
namespace Go.Proofs.YtiledgojbpmoiaaGreat
set_option linter.unusedVariables false
set_option maxRecDepth 20000
set_option maxHeartbeats 8000000
open Go.RowKit Mono Rlp
namespace E
def dBd (n : Int) (w r c : List UInt8) : D := .tup [.v (.int .i64 n), .arr 32 w, .arr 32 r, .arr 32 c]
def jL (n : Int) (w r c : List UInt8) : Raw := .mk true [] [.mk false (be n.toNat) [], .mk false (strip w) [], .mk false r [], .mk false c []]
theorem qR {x : Raw} (hd : dW x 32 ≤ 32) (h : (E x).length ≤ most) : packed x = some (Rlp.E x) := by
 rw [sH, if_neg (by omega), Jn.FI _ h]
 dsimp only
 rw [if_neg (by omega)]
theorem nS (l : List UInt8) (h : l.length ≤ 32) : (EB l).length ≤ 33 := by
 rw [nT]
 unfold szE szB
 split
 · omega
 ·
  rw [if_pos (by omega)]
  omega
theorem Ho (n : Int) (hn : n ≤ 9223372036854775807) (w r c : List UInt8) (hw : w.length = 32) (hr : r.length = 32) (hc : c.length = 32) : (Rlp.E (jL n w r c)).length ≤ 200 := by
 have h1 := nS (be n.toNat) (by have := gU 8 n.toNat (by omega); omega)
 have h2 := nS (strip w) (by have := iI w; omega)
 have h3 := nS r (by omega)
 have h4 := nS c (by omega)
 have he : (Rlp.EL [.mk false (be n.toNat) [], .mk false (strip w) [], .mk false r [], .mk false c []]).length ≤ 132 := by
  simp only [Rlp.EL, Rlp.E, List.length_append, List.length_nil]
  omega
 unfold jL
 rw [Rlp.E, List.length_append, gW]
 unfold szB
 split
 · omega
 ·
  have := gU 8 (Rlp.EL [.mk false (be n.toNat) [], .mk false (strip w) [], .mk false r [], .mk false c []]).length (by omega)
  omega
theorem mO (n : Int) (hn : n ≤ 9223372036854775807) (w r c : List UInt8) (hw : w.length = 32) (hr : r.length = 32) (hc : c.length = 32) : packed (jL n w r c) = some (Rlp.E (jL n w r c)) := by
 refine qR ?_ (by have := Ho n hn w r c hw hr hc; simp only [most]; omega)
 unfold jL
 have := Jn.Cb [.mk false (be n.toNat) [], .mk false (strip w) [], .mk false r [], .mk false c []] [] 31 0 (fun x hx => by
  simp at hx
  rcases hx with rfl | rfl | rfl | rfl <;> (rw [dW]; omega))
 rw [show (32 : Nat) = 31 + 1 from rfl]
 exact Nat.le_trans this (by decide)
def Ce (n : Int) (w r c : List UInt8) : R := if n < 0 then .tpl [.bs [], .v (.int .i64 1)] else .tpl [.bs (Rlp.E (jL n w r c)), .v (.int .i64 0)]
theorem Jo (n : Int) (w r c : List UInt8) (hn0 : -9223372036854775808 ≤ n) (hn : n ≤ 9223372036854775807) (hw : w.length = 32) (hr : r.length = 32) (hc : c.length = 32) : Fn 109 [dBd n w r c] (· = Ce n w r c) := by
 have h1 := VZ n hn0 hn
 have h2 := TG w hw
 have h3 := Jp (jL n w r c)
 rw [mO n hn w r c hw hr hc] at h3
 unfold Ce
 refine Fn.walk 26 Tryz.func109 rfl Tryz.ntmps109 (by simp) fun X => ?_
 by_cases hneg : n < 0
 ·
  skip
  rw [if_pos hneg]
  repeat
   (first
    | (apply jD; rfl; rfl; rfl; intro g; refine EL.le (Le.pin (p := 1) (pre := []) rfl rfl) ?_; simp only [List.nil_append]) | (apply aj; iterate 3 rfl)
    | (apply aP; iterate 7 rfl) | (apply aK; iterate 5 rfl) | (apply aA (b := true); (iterate 2 rfl); exact aG; iterate 2 rfl) | apply EL.nil
    | ((with_reducible apply EK.ah); apply EK.code) | (apply EC.cond_true; rfl) | (with_reducible first | apply EC.seq | apply EC.region | apply EC.ret | apply EK.aI))
  refine EK.JV rfl rfl rfl ?_ rfl
  (exact RL.a)
 ·
  skip
  rw [if_neg hneg]
  repeat
   (first
    | (apply jD; rfl; rfl; rfl; intro g; refine EL.le (Le.pin (p := 1) (pre := []) rfl rfl) ?_; simp only [List.nil_append]) | (apply aj; iterate 3 rfl)
    | (apply aP; iterate 7 rfl) | (apply aK; iterate 5 rfl) | (apply aA (b := false); (iterate 2 rfl); exact aG; iterate 2 rfl) | apply EL.nil
    | ((with_reducible apply EK.ah); apply EK.code) | (apply EC.cond_false; rfl) | (with_reducible first | apply EC.seq | apply EC.region | apply EC.skip))
  refine EC.draw 13 (by kernel_rfl) ?_
  simp only [List.take_succ_cons, List.take_zero, List.drop_succ_cons, List.drop_zero]
  repeat
   (first
    | (apply bP (h1); rfl; exact ak.refl _ _; exact enA; iterate 2 rfl) | (apply bP (h2); rfl; exact ak.refl _ _; exact enA; iterate 2 rfl)
    | (apply sZ jQ; iterate 6 rfl) | (apply uX (d' := bJ (.mk false r [])); (iterate 5 rfl); (focus ((exact RL.a))); iterate 2 rfl)
    | (apply uX (d' := bJ (.mk false c [])); (iterate 5 rfl); (focus ((exact RL.a))); iterate 2 rfl) | (apply aW; iterate 7 rfl)
    | (apply bG; iterate 5 rfl) | (apply kP; iterate 9 rfl) | ((with_reducible apply EH.nil); rfl))
  repeat
   (first
    | (apply aJ (h3); rfl; exact RL.a; exact enA; iterate 2 rfl) | (apply au; iterate 3 rfl) | (apply aj; iterate 3 rfl)
    | (apply aS; iterate 4 rfl) | (apply fE; iterate 7 rfl) | apply EL.nil | ((with_reducible apply EK.ah); apply EK.code)
    | (with_reducible first | apply EC.seq | apply EC.region | apply EC.ret))
  exact EK.rF rfl rfl rfl rfl
theorem GL (n : Int) (w r c : List UInt8) (hn0 : -9223372036854775808 ≤ n) (hn : n ≤ 9223372036854775807) (hw : w.length = 32) (hr : r.length = 32) (hc : c.length = 32) : Fn 103 [dBd n w r c] (· = Ce n w r c) := by
 have h1 := UR n hn0 hn
 have h2 := PD w hw
 have h3 := uK (jL n w r c)
 have h4 := kN r
 have h5 := kN c
 have h6 := xP [.mk false (be n.toNat) [], .mk false (strip w) [], .mk false r [], .mk false c []]
 rw [mO n hn w r c hw hr hc] at h3
 unfold Ce
 refine Fn.walk 28 Tryz.func103 rfl Tryz.ntmps103 (by simp) fun X => ?_
 by_cases hneg : n < 0
 ·
  skip
  rw [if_pos hneg]
  repeat
   (first
    | (apply jD; rfl; rfl; rfl; intro g; refine EL.le (Le.pin (p := 1) (pre := []) rfl rfl) ?_; simp only [List.nil_append]) | (apply aj; iterate 3 rfl)
    | (apply aP; iterate 7 rfl) | (apply aK; iterate 5 rfl) | (apply aA (b := true); (iterate 2 rfl); exact aG; iterate 2 rfl) | apply EL.nil
    | ((with_reducible apply EK.ah); apply EK.code) | (apply EC.cond_true; rfl) | (with_reducible first | apply EC.seq | apply EC.region | apply EC.ret | apply EK.aI))
  refine EK.JV rfl rfl rfl ?_ rfl
  (exact RL.a)
 ·
  skip
  rw [if_neg hneg]
  repeat
   (first
    | (apply jD; rfl; rfl; rfl; intro g; refine EL.le (Le.pin (p := 1) (pre := []) rfl rfl) ?_; simp only [List.nil_append]) | (apply aj; iterate 3 rfl)
    | (apply aP; iterate 7 rfl) | (apply aK; iterate 5 rfl) | (apply aA (b := false); (iterate 2 rfl); exact aG; iterate 2 rfl) | apply EL.nil
    | ((with_reducible apply EK.ah); apply EK.code) | (apply EC.cond_false; rfl) | (with_reducible first | apply EC.seq | apply EC.region | apply EC.skip))
  refine EC.draw 19 (by kernel_rfl) ?_
  simp only [List.take_succ_cons, List.take_zero, List.drop_succ_cons, List.drop_zero]
  repeat
   (first
    | (apply bP (h1); rfl; exact ak.refl _ _; exact enA; iterate 2 rfl) | (apply bP (h2); rfl; exact ak.refl _ _; exact enA; iterate 2 rfl)
    | (apply bP (h4); rfl; exact ak.refl _ _; exact enA; iterate 2 rfl) | (apply bP (h5); rfl; exact ak.refl _ _; exact enA; iterate 2 rfl)
    | (apply bP (h6); rfl; exact ak.refl _ _; exact enA; iterate 2 rfl) | (apply bP (h3); rfl; exact ak.refl _ _; exact enA; iterate 2 rfl)
    | (apply sZ jQ; iterate 6 rfl) | (apply aU; iterate 3 rfl) | (apply iE; iterate 3 rfl) | (apply aW; iterate 7 rfl)
    | (apply rC; iterate 4 rfl) | (apply bG; iterate 5 rfl) | (apply kP; iterate 9 rfl) | ((with_reducible apply EH.nil); rfl))
  repeat
   (first
    | (apply au; iterate 3 rfl) | (apply aj; iterate 3 rfl) | apply EL.nil | ((with_reducible apply EK.ah); apply EK.code)
    | (with_reducible first | apply EC.seq | apply EC.region | apply EC.ret))
  exact EK.rF rfl rfl rfl rfl
theorem BF (ks : Nat → Tn) (v : List UInt8) : gI (.br ks v) = .mk true [] ((List.range 16).map (fun i => mD (ks i)) ++ [.mk false v []]) := rfl
def eF (n : Nat) (l : List Pr) : List Pr := l.map fun x => (x.1.drop n, x.2)
theorem Py (l : List Pr) (n : Nat) (hl : l.length ≤ 1000000) (hn : ∀ x ∈ l, n ≤ x.1.length) : Fn 128 [.sl 2 (l.map dPr), .v (.int .i64 (n : Int))] (· = .val (.sl 2 ((eF n l).map dPr))) := by
 have hml : (l.map dPr).length = l.length := List.length_map _
 refine FnM.toFn ?_
 refine FnM.walk 30 Tryz.func128 rfl Tryz.ntmps128 (by simp) fun X => ?_
 repeat
  (first
   | (apply aj; iterate 3 rfl) | apply EL.nil | ((with_reducible apply EK.ah); apply EK.code) | (with_reducible first | apply EC.seq | apply EC.region | apply EC.block))
 refine EC.le (Le.row 149 2) ?_
 refine EC.loop (ι := {x : Nat × Value // x.1 ≤ l.length})
  (fun x => ⟨[(6, .val (.v (.int .i64 (x.1.1 : Int)))), (5, .val (.v x.1.2)), (0, .val (.sl 2 (l.map dPr))), (1, .val (.v (.int .i64 (n : Int))))], [.row x.1.2 149 2 ((eF n (l.take x.1.1)).map dPr)], []⟩)
  (fun x => l.length - x.1.1) ⟨(0, .slice none 0 0), Nat.zero_le _⟩ ?_ ?_
 · exact Le.kp
 rintro ⟨⟨i, v⟩, hi⟩
 dsimp only at hi ⊢
 by_cases hlt : i < l.length
 ·
  have hd : (l.map dPr)[i]? = some (.tup [.bs l[i].1, .bs l[i].2]) := by rw [List.getElem?_map, List.getElem?_eq_getElem hlt]; rfl
  have hx := hn _ (List.getElem_mem hlt)
  have hl3 : ((eF n (l.take i)).map dPr).length = i := by unfold eF; rw [List.length_map, List.length_map, List.length_take]; omega
  have htk : (eF n (l.take (i + 1))).map dPr = (eF n (l.take i)).map dPr ++ [.tup [.bs (l[i].1.drop n), .bs l[i].2]] := by
   unfold eF
   rw [List.take_succ_eq_append_getElem hlt, List.map_append, List.map_append]
   rfl
  repeat
   (first
    | (apply au; iterate 3 rfl) | (apply aA (b := true); (iterate 2 rfl); exact aG; iterate 2 rfl) | (apply aB; iterate 4 rfl) | apply EL.nil
    | ((with_reducible apply EK.ah); apply EK.code) | (apply EC.cond_true; rfl) | (with_reducible first | apply EC.seq | apply EC.region | apply EC.skip | apply EC.block))
  refine EC.jm 16 [0, 1, 2, 3, 4, 5, 6, 7, 8, 9, 10, 11, 12, 13, 14] [15] [_] _ (by kernel_rfl) (by kernel_rfl) rfl ?_
  simp only [aQ, List.filterMap_cons, List.filterMap_nil, List.getElem?_cons_zero, List.getElem?_cons_succ]
  repeat
   (first
    | (apply qK; (iterate 3 rfl); exact ⟨by omega, by rw [Int.toNat_natCast]; omega⟩; iterate 2 rfl) | (apply aU; iterate 3 rfl) | (apply aW; iterate 7 rfl)
    | (apply bG; iterate 5 rfl)
    | (apply bD; (iterate 4 rfl); (focus (first | exact ⟨by decide, rfl⟩ | (refine ⟨by omega, ?_⟩; rw [Int.toNat_natCast]; assumption))); iterate 2 rfl)
    | (apply iL; iterate 7 rfl) | (apply kP; iterate 9 rfl))
  refine EM.nil ?_
  repeat (first | rw [List.cons_append] | rw [List.nil_append])
  refine CH.mut (os := [_]) (rest := []) rfl rfl (fZ rfl rfl rfl rfl rfl ?_) ?_
  ·
   rw [hl3]
   constructor <;> (simp; omega)
  rintro _ _ ⟨v', rfl, rfl⟩
  try simp only [St.put]
  repeat (first | rw [List.cons_append] | rw [List.nil_append])
  refine CH.nil ?_
  try simp only [List.drop_succ_cons, List.drop_zero]
  repeat
   (first
    | (apply au; iterate 3 rfl) | (apply aj; iterate 3 rfl) | (apply eU; (iterate 3 rfl); (focus omega); (focus omega); iterate 2 rfl) | apply EL.nil
    | ((with_reducible apply EK.ah); apply EK.code) | (with_reducible first | apply EC.region | apply EK.aF))
  refine EK.again ⟨(i + 1, v'), hlt⟩ (by dsimp only; omega) ?_
  dsimp only
  rw [htk]
  simp only [Int.natCast_add]
  exact Le.kp
 ·
  obtain rfl : i = l.length := by omega
  rw [List.take_length]
  refine EC.le (Le.freeze (pre := []) rfl) ?_
  simp only [List.nil_append]
  repeat
   (first
    | (apply au; iterate 3 rfl) | (apply aj; iterate 3 rfl) | (apply aA (b := false); (iterate 2 rfl); exact aG; iterate 2 rfl)
    | (apply aB; iterate 4 rfl) | apply EL.nil | ((with_reducible apply EK.ah); apply EK.code) | (apply EC.cond_false; rfl)
    | (with_reducible first | apply EC.seq | apply EC.region | apply EC.exit | apply EC.ret | apply EK.aZ | apply EK.aH))
  exact EK.Dj [] rfl rfl (RL.cons (Rf.fact List.mem_cons_self rfl) RL.nil) (List.nil_sublist _) ⟨rfl, rfl⟩
theorem xK (x : Raw) : (pkB x).length ≤ 1099511627776 := by
 have h : ∀ b, packed x = some b → b.length ≤ most := fun b h => by
  rw [sH] at h
  split at h
  · cases h
  ·
   split at h
   ·
    split at h
    · cases h
    ·
     cases h
     omega
   · cases h
 unfold pkB
 cases hp : packed x with
 | none => exact Nat.zero_le _
 | some b =>
  have := h b hp
  simp only [most] at this
  show b.length ≤ _
  omega
def nV (l : List Pr) (U : List (List UInt8)) (x : Raw) : List (List UInt8) := if l.isEmpty then [] else U ++ (if (pkB x).length < 32 then [] else [pkB x])
def jC (l : List Pr) (x : Raw) : Raw := if l.isEmpty then .mk false [] [] else vC x
theorem xR {N : Nat} {X : Cx N} {ops : Array Oper} {Q : Exit → Act → World → Prop} {l' : List Oper} {t ty f : Nat} {pos : String} {af : Array Edge} {gd : Option (Nat × Bool)} {args : Array Operand} {tys : Array TypeId} {ds ds' : List D} {Φ : R → List Obj → Prop} {rs : List (Tmp × R)} {os os0 : List Obj} {fs : List (Value × D)} (hF : FnM f ds' os Φ) (l1 : List Obj) (hos : os0 = l1 ++ os)
  (hx : evs (⟨rs, l1, fs⟩ : St) args.toList = some ds) (hR : ak fs ds ds') (hf : Enters f) (hg : guardOf ops ⟨rs, os ++ l1, fs⟩ ⟨some t, .call { callee := .value (.func f), args := args, argTypes := tys }, ty, pos, af, gd⟩ = some true) (hN : Nat.blt t N = true) (k : ∀ r os', Φ r os' → EL X ops Q l' ⟨(t, r) :: rs, l1 ++ os', fs⟩) : EL X ops Q (⟨some t, .call { callee := .value (.func f), args := args, argTypes := tys }, ty, pos, af, gd⟩ :: l') ⟨rs, os0, fs⟩ :=
 fH hF l1 [] (by rw [List.append_nil]; exact hos) (by rw [List.append_nil]; exact hx) hR hf (by rw [List.append_nil]; exact hg) hN fun r os' h => by
  rw [List.append_nil]
  exact k r os' h
structure Bld (g : Nat) where
 σ : Type
 os : σ → List Obj
 sz : σ → Nat
 Rl : List (List UInt8) → Nat → σ → σ → Prop
 none : ∀ s, Rl [] 0 s s
 app : ∀ {U V : List (List UInt8)} {C E : Nat} {s t u : σ}, Rl U C s t → Rl V E t u → Rl (U ++ V) (C + E) s u
 more : ∀ {U : List (List UInt8)} {C E : Nat} {s t : σ}, Rl U C s t → C ≤ E → Rl U E s t
 size : ∀ {U : List (List UInt8)} {C : Nat} {s t : σ}, Rl U C s t → sz t ≤ sz s + C
 put : ∀ (s : σ) (x : List UInt8), sz s ≤ 1000000000 → x.length ≤ 1099511627776 → FnM 79 [.v (ptr g), .bs x] (os s) (fun r os' => ∃ t, Rl [x] 1 s t ∧ r = .val (.arr 32 (hash x)) ∧ os' = os t)
theorem TK {g : Nat} (B : Bld g) (s : B.σ) (l : List Pr) (x : Raw) (U : List (List UInt8)) (C : Nat) (hc : B.sz s + C ≤ 1000000000)
  (H : l.isEmpty = false → FnM 78 [.v (ptr g), .sl 2 (l.map dPr)] (B.os s) (fun r os' => ∃ t, B.Rl U C s t ∧ r = .val (bJ x) ∧ os' = B.os t)) :
  FnM 127 [.v (ptr g), .sl 2 (l.map dPr)] (B.os s) (fun r os' => ∃ t, B.Rl (nV l U x) (if l.isEmpty then 0 else C + 1) s t ∧ r = .val (bJ (jC l x)) ∧ os' = B.os t) := by
 unfold jC nV
 have hb0 := kN []
 refine FnM.walk 30 Tryz.func127 rfl Tryz.ntmps127 (by simp) fun X => ?_
 cases l with
 | nil =>
  rw [if_pos (show ([] : List Pr).isEmpty = true from rfl), if_pos (show ([] : List Pr).isEmpty = true from rfl), if_pos (show ([] : List Pr).isEmpty = true from rfl)]
  repeat
   (first
    | (apply aJ (hb0); rfl; exact RL.a; exact enA; iterate 2 rfl) | (apply au; iterate 3 rfl)
    | (apply aA (b := true); (iterate 2 rfl); exact aG; iterate 2 rfl) | (apply aB; iterate 4 rfl) | (apply aV; rfl; rfl; rfl; intro _)
    | (apply aO; rfl; (focus (repeat first | exact .z | apply aY.s | apply aN.s)); iterate 4 rfl) | apply EL.nil | ((with_reducible apply EK.ah); apply EK.code)
    | (apply EC.cond_true; rfl) | (with_reducible first | apply EC.seq | apply EC.region | apply EC.ret | apply EK.aI))
  refine EK.kE 0 (B.os s) rfl rfl rfl rfl ?_ (by (repeat first | exact List.Sublist.refl _ | apply List.Sublist.cons_cons | apply List.Sublist.cons)) ⟨s, B.none s, rfl, rfl⟩
  (exact RL.a)
 | cons y l =>
  have h1 := H rfl
  rw [if_neg (show ¬ ((y :: l).isEmpty = true) from Bool.false_ne_true), if_neg (show ¬ ((y :: l).isEmpty = true) from Bool.false_ne_true), if_neg (show ¬ ((y :: l).isEmpty = true) from Bool.false_ne_true)]
  have h2 := uK x
  unfold vC
  repeat
   (first
    | (apply au; iterate 3 rfl) | (apply aA (b := false); (iterate 2 rfl); exact aG; iterate 2 rfl) | (apply aB; iterate 4 rfl)
    | (apply aV; rfl; rfl; rfl; intro _) | apply EL.nil | ((with_reducible apply EK.ah); apply EK.code) | (apply EC.cond_false; rfl)
    | (with_reducible first | apply EC.seq | apply EC.region | apply EC.skip))
  refine xR h1 [_] rfl rfl (ak.refl _ _) (by intro _ _; simp [go_sem]) rfl rfl ?_
  rintro _ _ ⟨t, hn1, rfl, rfl⟩
  simp only [List.cons_append, List.nil_append]
  have hle := xK x
  have hpb : packed x = none ∨ packed x = some (pkB x) := by
   unfold pkB
   cases h : packed x with
   | none => exact .inl rfl
   | some b => exact .inr rfl
  rcases hpb with hp | hp
  ·
   have h0 : pkB x = [] := by unfold pkB; rw [hp]; rfl
   rw [hp] at h2
   rw [h0, if_pos (by decide), if_pos (by decide), List.append_nil]
   unfold oW at h2
   dsimp only at h2
   cases x with
   | mk xb xs xl =>
    unfold bJ at h2 ⊢
    repeat
     (first
      | (apply aJ (h2); rfl; exact ak.refl _ _; exact enA; iterate 2 rfl) | (apply au; iterate 3 rfl) | (apply aj; iterate 3 rfl)
      | (apply aS; iterate 4 rfl) | (apply dA; rfl; exact I.a; iterate 4 rfl) | (apply aA (b := true); (iterate 2 rfl); exact aG; iterate 2 rfl)
      | (apply zW; iterate 4 rfl) | (apply aV; rfl; rfl; rfl; intro _)
      | (apply aO; rfl; (focus (repeat first | exact .z | apply aY.s | apply aN.s)); iterate 4 rfl) | apply EL.nil | ((with_reducible apply EK.ah); apply EK.code)
      | (apply EC.cond_true; rfl) | (with_reducible first | apply EC.seq | apply EC.region | apply EC.ret | apply EK.aI))
    refine EK.kE 1 (B.os t) rfl rfl rfl rfl ?_ (by (repeat first | exact List.Sublist.refl _ | apply List.Sublist.cons_cons | apply List.Sublist.cons)) ⟨t, B.more hn1 (by omega), rfl, rfl⟩
    (exact RL.a)
  ·
   rw [hp] at h2
   unfold oW at h2
   dsimp only at h2
   generalize pkB x = pb at h2 hle
   by_cases h32 : pb.length < 32
   ·
    rw [if_pos h32, if_pos h32, List.append_nil]
    cases x with
    | mk xb xs xl =>
     unfold bJ at h2 ⊢
     repeat
      (first
       | (apply aJ (h2); rfl; exact ak.refl _ _; exact enA; iterate 2 rfl) | (apply au; iterate 3 rfl) | (apply aj; iterate 3 rfl)
       | (apply aS; iterate 4 rfl) | (apply dA; rfl; exact I.a; iterate 4 rfl) | (apply aA (b := true); (iterate 2 rfl); exact aG; iterate 2 rfl)
       | (apply dU; iterate 4 rfl) | (apply aV; rfl; rfl; rfl; intro _)
       | (apply aO; rfl; (focus (repeat first | exact .z | apply aY.s | apply aN.s)); iterate 4 rfl) | apply EL.nil | ((with_reducible apply EK.ah); apply EK.code)
       | (apply EC.cond_true; rfl) | (with_reducible first | apply EC.seq | apply EC.region | apply EC.ret | apply EK.aI))
     refine EK.kE 1 (B.os t) rfl rfl rfl rfl ?_ (by (repeat first | exact List.Sublist.refl _ | apply List.Sublist.cons_cons | apply List.Sublist.cons)) ⟨t, B.more hn1 (by omega), rfl, rfl⟩
     (exact RL.a)
   ·
    rw [if_neg h32, if_neg h32]
    have hsz := B.size hn1
    have h3 := B.put t pb (by omega) hle
    have h4 := kN (hash pb)
    cases x with
    | mk xb xs xl =>
     unfold bJ at h2
     repeat
      (first
       | (apply aJ (h2); rfl; exact ak.refl _ _; exact enA; iterate 2 rfl) | (apply au; iterate 3 rfl) | (apply aj; iterate 3 rfl)
       | (apply aS; iterate 4 rfl) | (apply dA; rfl; exact I.a; iterate 4 rfl) | (apply aA (b := false); (iterate 2 rfl); exact aG; iterate 2 rfl)
       | (apply dU; iterate 4 rfl) | (apply aV; rfl; rfl; rfl; intro _)
       | (apply aO; rfl; (focus (repeat first | exact .z | apply aY.s | apply aN.s)); iterate 4 rfl) | apply EL.nil | ((with_reducible apply EK.ah); apply EK.code)
       | (apply EC.cond_false; rfl) | (with_reducible first | apply EC.seq | apply EC.region | apply EC.skip))
     refine xR h3 [_, _] rfl rfl (ak.refl _ _) (by intro _ _; simp [go_sem]) rfl rfl ?_
     rintro _ _ ⟨u, hu, rfl, rfl⟩
     simp only [List.cons_append, List.nil_append]
     repeat
      (first
       | (apply aV; rfl; rfl; rfl; intro _) | (apply aO; rfl; (focus (repeat first | exact .z | apply aY.s | apply aN.s)); iterate 4 rfl) | apply EL.nil
       | ((with_reducible apply EK.ah); apply EK.code) | (with_reducible first | apply EC.seq | apply EC.region))
     refine EL.le (Le.pin (p := 8) (pre := []) rfl rfl) ?_
     simp only [List.nil_append]
     repeat
      (first
       | (apply lY jQ; iterate 6 rfl) | (apply aJ (h4); rfl; exact ak.refl _ _; exact enA; iterate 2 rfl)
       | (apply aO; rfl; (focus (repeat first | exact .z | apply aY.s | apply aN.s)); iterate 4 rfl) | apply EL.nil | ((with_reducible apply EK.ah); apply EK.code)
       | (with_reducible apply EC.ret))
     refine EK.kE 1 (B.os u) rfl rfl rfl rfl ?_ (by (repeat first | exact List.Sublist.refl _ | apply List.Sublist.cons_cons | apply List.Sublist.cons)) ⟨u, B.app hn1 hu, rfl, rfl⟩
     (exact RL.a)
def dQ (p : List UInt8) (l : List Pr) : Nat := l.foldl (fun n x => if common p x.1 < n then common p x.1 else n) p.length
theorem Ju (p : List UInt8) (l : List Pr) (x : Pr) : dQ p (l ++ [x]) = if common p x.1 < dQ p l then common p x.1 else dQ p l := by
 unfold dQ
 rw [List.foldl_append]
 rfl
theorem Cc (a b : List UInt8) : common a b ≤ a.length ∧ common a b ≤ b.length := ⟨(gX a b).2.1, (gX a b).2.2⟩
theorem lX (p : List UInt8) : ∀ (l : List Pr) (m : Nat), m ≤ p.length → (l.foldl (fun n x => if common p x.1 < n then common p x.1 else n) m) ≤ m ∧ ∀ x ∈ l, (l.foldl (fun n x => if common p x.1 < n then common p x.1 else n) m) ≤ common p x.1
 | [], m, h => ⟨Nat.le_refl _, fun x hx => by cases hx⟩
 | y :: l, m, h => by
  rw [List.foldl_cons]
  split
  ·
   rename_i hlt
   obtain ⟨h1, h2⟩ := lX p l (common p y.1) (Cc p y.1).1
   refine ⟨by omega, fun x hx => ?_⟩
   rcases List.mem_cons.1 hx with rfl | hx
   · exact h1
   · exact h2 x hx
  ·
   rename_i hge
   obtain ⟨h1, h2⟩ := lX p l m h
   refine ⟨h1, fun x hx => ?_⟩
   rcases List.mem_cons.1 hx with rfl | hx
   · omega
   · exact h2 x hx
def headD (d : Nat) (x : Pr) : Bool := match x.1 with
 | [] => false
 | c :: _ => c.toNat == d
def fG (d : Nat) (x : Pr) : Bool := match x.1 with
 | [] => false
 | c :: _ => decide (c.toNat < d)
def cZ (d : Nat) (l : List Pr) : List Pr := eF 1 (l.filter (headD d))
def lJ (l : List Pr) : List UInt8 := l.foldl (fun v x => if x.1.isEmpty then x.2 else v) []
theorem KZ (l : List Pr) (x : Pr) : lJ (l ++ [x]) = if x.1.isEmpty then x.2 else lJ l := by
 unfold lJ
 rw [List.foldl_append]
 rfl
def bF : Nat → List Pr → Raw
 | 0, _ => .mk false [] []
 | f + 1, l => match l with
  | [] => .mk true [] []
  | [x] => .mk true [] [.mk false (ppk x.1 true) [], .mk false x.2 []]
  | x :: y :: r =>
   if 0 < dQ x.1 (y :: r) then .mk true [] [.mk false (ppk (x.1.take (dQ x.1 (y :: r))) false) [], jC (eF (dQ x.1 (y :: r)) (x :: y :: r)) (bF f (eF (dQ x.1 (y :: r)) (x :: y :: r)))]
   else .mk true [] ((List.range 16).map (fun d => jC (cZ d (x :: y :: r)) (bF f (cZ d (x :: y :: r)))) ++ [.mk false (lJ (x :: y :: r)) []])
def gZ : Nat → List Pr → List (List UInt8)
 | 0, _ => []
 | f + 1, l => match l with
  | [] => []
  | [_] => []
  | x :: y :: r =>
   if 0 < dQ x.1 (y :: r) then nV (eF (dQ x.1 (y :: r)) (x :: y :: r)) (gZ f (eF (dQ x.1 (y :: r)) (x :: y :: r))) (bF f (eF (dQ x.1 (y :: r)) (x :: y :: r)))
   else ((List.range 16).map fun d => nV (cZ d (x :: y :: r)) (gZ f (cZ d (x :: y :: r))) (bF f (cZ d (x :: y :: r)))).flatten
theorem PZ (l : List Pr) (d : Nat) : (l.filter (fG (d + 1))).length = (l.filter (fG d)).length + (l.filter (headD d)).length := by
 induction l with
 | nil => rfl
 | cons x l ih =>
  obtain ⟨p, v⟩ := x
  cases p with
  | nil =>
   rw [List.filter_cons_of_neg (p := fG (d + 1)) (by simp [fG]; try omega), List.filter_cons_of_neg (p := fG d) (by simp [fG]; try omega), List.filter_cons_of_neg (p := headD d) (by simp [headD]; try omega)]
   exact ih
  | cons c p =>
   by_cases h1 : c.toNat = d
   ·
    rw [List.filter_cons_of_pos (p := fG (d + 1)) (by simp [fG]; try omega), List.filter_cons_of_neg (p := fG d) (by simp [fG]; try omega), List.filter_cons_of_pos (p := headD d) (by simp [headD]; try omega), List.length_cons, List.length_cons]
    omega
   ·
    by_cases h2 : c.toNat < d
    ·
     rw [List.filter_cons_of_pos (p := fG (d + 1)) (by simp [fG]; try omega), List.filter_cons_of_pos (p := fG d) (by simp [fG]; try omega), List.filter_cons_of_neg (p := headD d) (by simp [headD]; try omega), List.length_cons, List.length_cons]
     omega
    ·
     rw [List.filter_cons_of_neg (p := fG (d + 1)) (by simp [fG]; try omega), List.filter_cons_of_neg (p := fG d) (by simp [fG]; try omega), List.filter_cons_of_neg (p := headD d) (by simp [headD]; try omega)]
     exact ih
theorem cnt_le (l : List Pr) (d : Nat) : (l.filter (fG d)).length ≤ l.length := List.length_filter_le _ _
theorem AV (n : Nat) (l : List Pr) : (eF n l).length = l.length := List.length_map _
theorem OL (d : Nat) (l : List Pr) : (cZ d l).length = (l.filter (headD d)).length := AV _ _
theorem uD {d : Nat} {l : List Pr} {y : Pr} (h : y ∈ cZ d l) : ∃ x ∈ l, headD d x = true ∧ y = (x.1.drop 1, x.2) := by
 obtain ⟨x, hx, rfl⟩ := List.mem_map.1 h
 exact ⟨x, (List.mem_filter.1 hx).1, (List.mem_filter.1 hx).2, rfl⟩
theorem vV {d : Nat} {x : Pr} (h : headD d x = true) : 1 ≤ x.1.length := by
 unfold headD at h
 split at h
 · cases h
 ·
  rename_i e
  rw [e]
  simp
end E
end Go.Proofs.YtiledgojbpmoiaaGreat
