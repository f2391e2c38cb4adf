/-
 Merged (wip/tools/merge.py): TP4, PF2, JPlain, AB1, PF4, EBX.
 Conditions: none.
-/
import Derived.Test.YtiledgojbpmoiaaGreatZR16
import Derived.Test.YtiledgojbpmoiaaGreatZR12
import Derived.Test.YtiledgojbpmoiaaGreatZR15
import Derived.Test.YtiledgojbpmoiaaGreatZR6
import Derived.Lib.Bytealg
namespace Go.Proofs.YtiledgojbpmoiaaGreat
set_option linter.unusedVariables false
set_option maxRecDepth 20000
set_option maxHeartbeats 8000000
open Go.RowKit Mono Rlp
namespace E
theorem Q9 (ks : Nat → Tn) (l : List Nat) : D.sizes (l.map fun i => dT (ks i)) = l.length := by
 induction l with
 | nil => rfl
 | cons i l ih => rw [List.map_cons, D.sizes, (jg _).1, ih, List.length_cons, Nat.add_comm]
theorem sub_one {d : D} (h : ∃ k : Tn, d = dT k) : d.sub 0 1 false = some d := by
 obtain ⟨k, rfl⟩ := h
 cases k <;> (rw [dT]; simp [D.sub])
theorem Oo (p : List UInt8) (k : Tn) : (D.tup [.bs p, dT k]).sub 0 1 false = some (.bs p) := by
 simp [D.sub, D.yc, D.size]
theorem Om (p : List UInt8) (k : Tn) : (D.tup [.bs p, dT k]).sub 1 1 false = some (dT k) := by
 have := sub_one ⟨k, rfl⟩
 simp [D.sub, D.yc, D.size, (jg k).1, this]
theorem Jw {ds : List D} (v : List UInt8) (h : D.sizes ds = 16) : (D.tup [.tup ds, .bs v]).sub 0 16 true = some (.tup ds) := by
 simp [D.sub, D.yc, D.size, D.sizes, h]
theorem Jv {ds : List D} (v : List UInt8) (h : D.sizes ds = 16) : (D.tup [.tup ds, .bs v]).sub 16 1 false = some (.bs v) := by
 simp [D.sub, D.yc, D.size, D.sizes, h]
theorem Uj {ds : List D} (h : D.sizes ds = 16) : (D.tup ds).sub 0 16 true = some (.tup ds) := by
 simp [D.sub, h]
theorem MX (p v : List UInt8) (hp : p.length ≤ 536870912) : Fn 138 [dT (.leaf p v)] (· = .val (aW (eu (.leaf p v)))) := by
 have h1 := J9 p true hp
 have h2 := P7 (ppk p true) v
 rw [dT, eu]
 refine Fn.walk 85 Tryz.func138 rfl Tryz.ntmps138 (by simp) fun X => ?_
 repeat
  (first
   | (apply aA (h1); rfl; exact aj.refl _ _; exact enA; iterate 2 rfl) | (apply aA (h2); rfl; exact aj.refl _ _; exact enA; iterate 2 rfl)
   | (apply au; iterate 3 rfl) | (apply ak; iterate 3 rfl) | (apply cZ; iterate 6 rfl) | (apply bf; iterate 7 rfl)
   | (apply aF; iterate 4 rfl) | (apply aK; iterate 5 rfl) | (apply dh; rfl; exact I.a; iterate 4 rfl) | (apply eU; iterate 7 rfl)
   | (apply jD; iterate 9 rfl) | (apply kN; iterate 3 rfl) | (apply eX; iterate 4 rfl) | (apply aZ; rfl; rfl; rfl; intro _)
   | (apply aN; rfl; (focus (repeat first | exact .z | apply bC.s | apply aP.s)); iterate 4 rfl) | apply EL.nil | ((with_reducible apply EK.ah); apply EK.code)
   | (apply EC.cond_true; rfl) | (with_reducible first | apply EC.seq | apply EC.region | apply EC.block | apply EC.ret | apply EK.aI))
 refine EK.kZ 1 rfl rfl rfl rfl ?_ rfl
 (exact RL.a)
theorem Pz (p : List UInt8) (k : Tn) (hp : p.length ≤ 536870912) (hk : Fn 186 [dT k] (· = .val (aW (mF k)))) : Fn 138 [dT (.ext p k)] (· = .val (aW (eu (.ext p k)))) := by
 have h1 := J9 p false hp
 have h2 := Oi (ppk p false)
 have he : eu (.ext p k) = .mk true [] [.mk false (ppk p false) [], mF k] := by rw [eu, mF]
 rw [he, dT]
 clear he
 generalize mF k = x at hk ⊢
 obtain ⟨xb, xl, xs⟩ := x
 rw [aW] at hk
 rw [show aW (.mk true [] [.mk false (ppk p false) [], .mk xb xl xs]) = .tup [.v (.bool true), .bs [], .sl 3 [aW (.mk false (ppk p false) []), .tup [.v (.bool xb), .bs xl, .sl 3 (eY xs)]]] from rfl]
 refine Fn.walk 85 Tryz.func138 rfl Tryz.ntmps138 (by simp) fun X => ?_
 repeat
  (first
   | (apply aA (h1); rfl; exact aj.refl _ _; exact enA; iterate 2 rfl) | (apply bf; (iterate 4 rfl); exact Oo _ _; iterate 2 rfl)
   | (apply au; iterate 3 rfl) | (apply ak; iterate 3 rfl) | (apply aF; iterate 4 rfl) | (apply aK; iterate 5 rfl)
   | (apply eU; iterate 7 rfl) | (apply kN; iterate 3 rfl) | (apply eX; iterate 4 rfl) | (apply iC; iterate 6 rfl)
   | (apply aZ; rfl; rfl; rfl; intro _) | (apply aN; rfl; (focus (repeat first | exact .z | apply bC.s | apply aP.s)); iterate 4 rfl) | apply EL.nil
   | ((with_reducible apply EK.ah); apply EK.code) | (apply EC.cond_true; rfl) | (apply EC.cond_false; rfl) | (with_reducible first | apply EC.seq | apply EC.region | apply EC.block))
 refine EC.jO 11 [0, 3, 4, 5, 6, 10] [1, 2, 7, 8, 9] [] _ (by kernel_rfl) (by kernel_rfl) rfl ?_
 simp only [bQ, List.filterMap_cons, List.filterMap_nil, List.getElem?_cons_zero, List.getElem?_cons_succ]
 repeat
  (first
   | (apply dn; (iterate 4 rfl); exact Om _ _; iterate 2 rfl) | (apply bM; (iterate 2 rfl); exact sub_one ⟨_, rfl⟩; iterate 2 rfl)
   | (apply aY; iterate 3 rfl) | (apply dB; iterate 6 rfl) | (apply oh; iterate 3 rfl))
 refine EM.nil ?_
 repeat (first | rw [List.cons_append] | rw [List.nil_append])
 refine CH.cut 1 ?_
 simp only [List.take_succ_cons, List.take_zero, List.drop_succ_cons, List.drop_zero]
 repeat
  (first
   | (apply kY; iterate 9 rfl))
 refine EM.nil ?_
 repeat (first | rw [List.cons_append] | rw [List.nil_append])
 refine CH.Wu (os := []) (rest := []) h2 rfl rfl (aj.refl _ _) (by intro _ _; simp [go_sem]) rfl rfl ?_
 rintro _ _ ⟨v, rfl, rfl⟩
 try simp only [St.put]
 repeat (first | rw [List.cons_append] | rw [List.nil_append])
 refine CH.cut 2 ?_
 simp only [List.take_succ_cons, List.take_zero, List.drop_succ_cons, List.drop_zero]
 repeat
  (first
   | (apply dW (hk); rfl; exact aj.refl _ _; exact enA; iterate 2 rfl) | (apply kY; iterate 9 rfl))
 refine EM.nil ?_
 repeat (first | rw [List.cons_append] | rw [List.nil_append])
 refine CH.mut (os := [_]) (rest := []) rfl rfl (iM rfl rfl rfl rfl rfl (by constructor <;> simp)) ?_
 rintro _ _ ⟨v', rfl, rfl⟩
 try simp only [St.put]
 repeat (first | rw [List.cons_append] | rw [List.nil_append])
 refine CH.nil ?_
 try simp only [List.drop_succ_cons, List.drop_zero]
 refine EL.le (Le.freeze (pre := []) rfl) ?_
 simp only [List.nil_append]
 repeat
  (first
   | (apply dh; rfl; exact I.a; iterate 4 rfl) | (apply aN; rfl; (focus (repeat first | exact .z | apply bC.s | apply aP.s)); iterate 4 rfl) | apply EL.nil
   | ((with_reducible apply EK.ah); apply EK.code) | (with_reducible first | apply EC.seq | apply EC.region | apply EC.ret | apply EK.aI))
 refine EK.kZ 1 rfl rfl rfl rfl ?_ rfl
 (exact RL.a)
theorem RN (ks : Nat → Tn) (v : List UInt8) (hk : ∀ i, Fn 186 [dT (ks i)] (· = .val (aW (mF (ks i))))) : Fn 138 [dT (.br ks v)] (· = .val (aW (eu (.br ks v)))) := by
 have h2 := P8 v
 have he : eu (.br ks v) = .mk true [] ((List.range 16).map (fun i => mF (ks i)) ++ [.mk false v []]) := by rw [eu]; rfl
 have hsz : D.sizes ((List.range 16).map fun i => dT (ks i)) = 16 := by rw [Q9, List.length_range]
 have hat : ∀ i, i < 16 → ((List.range 16).map fun i => dT (ks i))[i]? = some (dT (ks i)) := fun i hi => by rw [List.getElem?_map, List.getElem?_range hi]; rfl
 have hall : ∀ d ∈ ((List.range 16).map fun i => dT (ks i)), d.size = 1 ∧ d.agg = false := fun d hd => by
  obtain ⟨i, _, rfl⟩ := List.mem_map.1 hd
  exact jg _
 have hlen : ((List.range 16).map fun i => dT (ks i)).length = 16 := by simp
 rw [he, dT, show aW (.mk true [] ((List.range 16).map (fun i => mF (ks i)) ++ [.mk false v []])) = .tup [.v (.bool true), .bs [], .sl 3 ((List.range 16).map (fun i => aW (mF (ks i))) ++ [aW (.mk false v [])])] from by rw [aW, jI, List.map_append, List.map_map]; rfl]
 clear he
 generalize hE : ((List.range 16).map fun i => dT (ks i)) = K at *
 refine Fn.walk 85 Tryz.func138 rfl Tryz.ntmps138 (by simp) fun X => ?_
 repeat
  (first
   | (apply bf; (iterate 4 rfl); exact Jw _ hsz; iterate 2 rfl) | (apply aK; (iterate 2 rfl); exact Uj hsz; iterate 2 rfl)
   | (apply au; iterate 3 rfl) | (apply ak; iterate 3 rfl) | (apply aF; iterate 4 rfl) | (apply eU; iterate 7 rfl)
   | (apply kN; iterate 3 rfl) | (apply eX; iterate 4 rfl) | (apply iC; iterate 6 rfl) | (apply aZ; rfl; rfl; rfl; intro _)
   | (apply aN; rfl; (focus (repeat first | exact .z | apply bC.s | apply aP.s)); iterate 4 rfl) | apply EL.nil | ((with_reducible apply EK.ah); apply EK.code)
   | (apply EC.cond_true; rfl) | (apply EC.cond_false; rfl) | (with_reducible first | apply EC.seq | apply EC.region | apply EC.block))
 rename_i g1 g
 refine EC.le (Le.row 157 3) ?_
 refine EC.loop (ι := {p : Value × Nat // p.2 ≤ 16})
  (fun p => ⟨[(63, .val (.v (.int .i64 (p.1.2 : Int)))), (62, .val (.tup K)), (10, .val (.pd (.tup [.tup K, .bs v]))), (3, .val (.v (.pointer (some ⟨g, 0, none⟩)))), (2, .val (.v (.pointer (some ⟨g1, 0, none⟩))))],
   [.row p.1.1 157 3 ((List.range p.1.2).map fun i => aW (mF (ks i))), .var g 157 (.tup [.v (.bool true), .v (.slice none 0 0), .v p.1.1]), .var g1 157 (.tup [.v (.bool false), .v (.slice none 0 0), .v (.slice none 0 0)])], []⟩)
  (fun p => 16 - p.1.2) ⟨(.slice none 0 0, 0), by decide⟩ ?_ ?_
 · exact Le.kp
 rintro ⟨⟨rv, n⟩, hn⟩
 dsimp only at hn ⊢
 have hl : ((List.range n).map fun i => aW (mF (ks i))).length = n := by simp
 by_cases hlt : n < 16
 ·
  have hx := hk n
  have hnx : (List.range (n + 1)).map (fun i => aW (mF (ks i))) = (List.range n).map (fun i => aW (mF (ks i))) ++ [aW (mF (ks n))] := by rw [List.range_succ, List.map_append]; rfl
  cases hr : mF (ks n) with
  | mk xb xl xs =>
   rw [hr, aW] at hx
   rw [hr, aW] at hnx
   repeat
    (first
     | (apply aC (b := true); (iterate 2 rfl); exact aO; iterate 2 rfl) | apply EL.nil | ((with_reducible apply EK.ah); apply EK.code) | (apply EC.cond_true; rfl)
     | (with_reducible first | apply EC.seq | apply EC.region | apply EC.skip | apply EC.block))
   refine ES.still (I8 (k := (n : Int)) (d := dT (ks n)) rfl rfl rfl rfl rfl (fun w => by kernel_rfl) hall hlen ⟨by omega, by rw [Int.toNat_natCast]; exact hat n hlt⟩) rfl rfl rfl ?_
   repeat
    (first
     | (apply ak; iterate 3 rfl) | apply EL.nil | ((with_reducible apply EK.ah); apply EK.code))
   refine EC.jO 7 [0, 1, 2, 6] [3, 4, 5] [_] _ (by kernel_rfl) (by kernel_rfl) rfl ?_
   simp only [bQ, List.filterMap_cons, List.filterMap_nil, List.getElem?_cons_zero, List.getElem?_cons_succ]
   repeat
    (first
     | (apply aY; iterate 3 rfl) | (apply dB; iterate 6 rfl) | (apply dH; rfl; exact I.a; iterate 4 rfl))
   refine EM.nil ?_
   repeat (first | rw [List.cons_append] | rw [List.nil_append])
   refine CH.cut 2 ?_
   simp only [List.take_succ_cons, List.take_zero, List.drop_succ_cons, List.drop_zero]
   repeat
    (first
     | (apply dW (hx); rfl; exact aj.refl _ _; exact enA; iterate 2 rfl) | (apply kY; iterate 9 rfl))
   refine EM.nil ?_
   repeat (first | rw [List.cons_append] | rw [List.nil_append])
   refine CH.mut (os := [_]) (rest := []) rfl rfl (iM rfl rfl rfl rfl rfl (by rw [hl]; constructor <;> (simp; omega))) ?_
   rintro _ _ ⟨v', rfl, rfl⟩
   try simp only [St.put]
   repeat (first | rw [List.cons_append] | rw [List.nil_append])
   refine CH.nil ?_
   try simp only [List.drop_succ_cons, List.drop_zero]
   repeat
    (first
     | (apply au; iterate 3 rfl) | (apply jd; (iterate 3 rfl); (focus omega); (focus omega); iterate 2 rfl)
     | (apply aN; rfl; (focus (repeat first | exact .z | apply bC.s | apply aP.s)); iterate 4 rfl) | apply EL.nil | ((with_reducible apply EK.ah); apply EK.code)
     | (with_reducible first | apply EC.region | apply EK.aI))
   refine EK.again ⟨(v', n + 1), hlt⟩ (by dsimp only; omega) ?_
   dsimp only
   rw [hnx]
   simp only [Int.natCast_add]
   exact Le.kp
 ·
  obtain rfl : n = 16 := by omega
  repeat
   (first
    | (apply aC (b := false); (iterate 2 rfl); exact aO; iterate 2 rfl) | apply EL.nil | ((with_reducible apply EK.ah); apply EK.code) | (apply EC.cond_false; rfl)
    | (with_reducible first | apply EC.seq | apply EC.region | apply EC.exit | apply EK.bG | apply EK.aQ))
  refine EC.jO 10 [0, 1, 2, 3, 4, 5, 9] [6, 7, 8] [_] _ (by kernel_rfl) (by kernel_rfl) rfl ?_
  simp only [bQ, List.filterMap_cons, List.filterMap_nil, List.getElem?_cons_zero, List.getElem?_cons_succ]
  repeat
   (first
    | (apply dn; (iterate 4 rfl); exact Jv _ hsz; iterate 2 rfl) | (apply aY; iterate 3 rfl) | (apply dB; iterate 6 rfl)
    | (apply bM; iterate 5 rfl) | (apply dH; rfl; exact I.a; iterate 4 rfl) | (apply oh; iterate 3 rfl))
  refine EM.nil ?_
  repeat (first | rw [List.cons_append] | rw [List.nil_append])
  refine CH.cut 2 ?_
  simp only [List.take_succ_cons, List.take_zero, List.drop_succ_cons, List.drop_zero]
  repeat
   (first
    | (apply dW (h2); rfl; exact aj.refl _ _; exact enA; iterate 2 rfl) | (apply kY; iterate 9 rfl))
  refine EM.nil ?_
  repeat (first | rw [List.cons_append] | rw [List.nil_append])
  refine CH.mut (os := [_]) (rest := []) rfl rfl (iM rfl rfl rfl rfl rfl (by rw [hl]; constructor <;> simp)) ?_
  rintro _ _ ⟨v', rfl, rfl⟩
  try simp only [St.put]
  repeat (first | rw [List.cons_append] | rw [List.nil_append])
  refine CH.nil ?_
  try simp only [List.drop_succ_cons, List.drop_zero]
  refine EL.le (Le.freeze (pre := []) rfl) ?_
  simp only [List.nil_append]
  repeat
   (first
    | (apply dh; rfl; exact I.a; iterate 4 rfl) | (apply aN; rfl; (focus (repeat first | exact .z | apply bC.s | apply aP.s)); iterate 4 rfl) | apply EL.nil
    | ((with_reducible apply EK.ah); apply EK.code) | (with_reducible first | apply EC.seq | apply EC.region | apply EC.ret | apply EK.aI))
  refine EK.kZ 1 rfl rfl rfl rfl ?_ rfl
  (exact RL.a)
theorem DL : ∀ t : Tn, t.ok → t.isNil = false → Fn 138 [dT t] (· = .val (aW (eu t)))
 | .leaf p v, h, _ => MX p v h
 | .ext p k, h, _ => Pz p k h.1 (Gs k fun hn => DL k h.2 hn)
 | .br ks v, h, _ => RN ks v fun i => Gs (ks i) fun hn => DL (ks i) (h i) hn
theorem Ws (t : Tn) (h : t.ok) : Fn 70 [dT t] (· = .val (.arr 32 (sumT t))) := Qh t (DL t h)
theorem Kq (t : Tn) (h : t.ok) (hn : t.isNil = false) : Fn 91 [dT t] (· = .val (.bs (pkB (eu t)))) := tq t (DL t h hn)
def fM : Raw := .mk false [] []
def isL : Raw → Bool
 | .mk l _ _ => l
def bts : Raw → List UInt8
 | .mk _ b _ => b
def its : Raw → List Raw
 | .mk _ _ xs => xs
mutual
def dep : Raw → Nat
 | .mk _ _ xs => Aj xs + 1
def Aj : List Raw → Nat
 | [] => 0
 | x :: xs => max (dep x) (Aj xs)
end
theorem uO {x : Raw} : ∀ {xs : List Raw}, x ∈ xs → dep x ≤ Aj xs
 | y :: xs, h => by
  rw [Aj]
  rcases List.mem_cons.1 h with rfl | h
  · omega
  ·
   have := uO h
   omega
def rfB (N : Raw → Bool) (none : Bool) : Raw → Bool
 | .mk true b xs => decide ((pkB (.mk true b xs)).length < 32) && N (.mk true b xs)
 | .mk false b _ => decide (b.length = 32) || (none && decide (b.length = 0))
def some1 (x : Raw) : Bool := isL x || decide (0 < (bts x).length)
def brB (N : Raw → Bool) (xs : List Raw) : Bool := (xs.take 16).all (rfB N true) && !(isL (xs.getD 16 fM)) && decide (2 ≤ ((xs.take 16).filter some1).length + (if 0 < (bts (xs.getD 16 fM)).length then 1 else 0))
def prB (N : Raw → Bool) (a b : Raw) : Bool := !(isL a) && match rdP (bts a) with
 | none => false
 | some (p, true) => !(isL b) && decide (0 < (bts b).length)
 | some (p, false) => decide (0 < p.length) && rfB N false b && !(isL b && decide ((its b).length = 2))
def isN : Nat → Raw → Bool
 | 0, _ => false
 | _ + 1, .mk false _ _ => false
 | f + 1, .mk true _ xs => if xs.length = 17 then brB (isN f) xs else if xs.length = 2 then prB (isN f) (xs.getD 0 fM) (xs.getD 1 fM) else false
theorem Ub (b : List UInt8) : b.length ≤ (EB b).length := by
 rw [oC]
 unfold szE szB
 split
 · omega
 · split <;> omega
theorem KX {x : Raw} : ∀ {xs : List Raw}, x ∈ xs → (Rlp.E x).length ≤ (Rlp.EL xs).length
 | y :: xs, h => by
  rw [Rlp.EL, List.length_append]
  rcases List.mem_cons.1 h with rfl | h
  · omega
  ·
   have := KX h
   omega
theorem WI {b : List UInt8} {xs : List Raw} {x : Raw} (h : x ∈ xs) : (Rlp.E x).length ≤ (Rlp.E (.mk true b xs)).length := by
 rw [Rlp.E, List.length_append]
 have := KX h
 omega
theorem tZ (N : Raw → Bool) (n : Bool) (b : List UInt8) (xs : List Raw) : rfB N n (.mk true b xs) = (decide ((pkB (.mk true b xs)).length < 32) && N (.mk true b xs)) := rfl
theorem qR (N : Raw → Bool) (n : Bool) (b : List UInt8) (xs : List Raw) : rfB N n (.mk false b xs) = (decide (b.length = 32) || (n && decide (b.length = 0))) := rfl
end E
end Go.Proofs.YtiledgojbpmoiaaGreat
namespace Go.Proofs.YtiledgojbpmoiaaGreat
set_option linter.unusedVariables false
open Rlp
namespace Jn
structure Sl where
 key : List UInt8
 val : List UInt8
structure Ch where
 addr : List UInt8
 gone : Bool
 nonce : Int
 bal : List UInt8
 code : List UInt8
 slots : List Sl
structure Df where
 id : List UInt8
 par : List UInt8
 chs : List Ch
def Sl.ok (s : Sl) : Prop := s.key.length = 32 ∧ s.val.length = 32
def Ch.ok (c : Ch) : Prop := c.addr.length = 20 ∧ c.bal.length = 32 ∧ -9223372036854775808 ≤ c.nonce ∧ c.nonce ≤ 9223372036854775807 ∧ ∀ s ∈ c.slots, s.ok
def Df.ok (d : Df) : Prop := d.id.length = 32 ∧ d.par.length = 32 ∧ ∀ c ∈ d.chs, c.ok
def vS (l : List UInt8) : Raw := .mk false l []
def FK (xs : List Raw) : Raw := .mk true [] xs
def VU (n : Nat) : Raw := vS (be n)
def N8 (l : List UInt8) : Raw := vS (strip l)
def VJ (s : Sl) : Raw := FK [N8 s.key, N8 s.val]
def chI (c : Ch) : Raw := FK [vS c.addr, VU (if c.gone then 1 else 0), VU c.nonce.toNat, N8 c.bal, vS c.code, FK (c.slots.map VJ)]
def dfI (d : Df) : Raw := FK [vS d.id, vS d.par, FK (d.chs.map chI)]
abbrev cmp (l m : List UInt8) : Int := Lib.compareBytes l m
def OM : List Sl → Bool
 | [] => true
 | [_] => true
 | a :: b :: l => decide (cmp a.key b.key < 0) && OM (b :: l)
def WQ (c : Ch) : Bool := decide (0 ≤ c.nonce) && OM c.slots
def OO : List Ch → Bool
 | [] => true
 | [_] => true
 | a :: b :: l => decide (cmp a.addr b.addr < 0) && OO (b :: l)
def may (l : List Ch) : Bool := l.all WQ && OO l
def nM (d : Df) : Except Nat (List UInt8) := if may d.chs then (match packed (dfI d) with | some b => .ok b | none => .error 3) else .error 1
def isB : Raw → Option (List UInt8)
 | .mk false bs _ => some bs
 | .mk true _ _ => none
def isL : Raw → Option (List Raw)
 | .mk true _ xs => some xs
 | .mk false _ _ => none
def VI (x : Raw) : Option Sl :=
 match isL x with
 | some [a, b] => match N7 a, N7 b with
  | some k, some v => some ⟨k, v⟩
  | _, _ => none
 | _ => none
def Vq {α : Type} (f : Raw → Option α) : List Raw → Option (List α)
 | [] => some []
 | x :: xs => match f x with
  | none => none
  | some y => match Vq f xs with
   | none => none
   | some ys => some (y :: ys)
def chR (x : Raw) : Option Ch :=
 match isL x with
 | some [a, g, n, w, c, s] =>
  match isB a, Wi g, Wi n, N7 w, isB c, isL s with
  | some a, some g, some n, some w, some c, some s => if a.length = 20 ∧ g ≤ 1 then (match Vq VI s with | some ss => some ⟨a, g == 1, n, w, c, ss⟩ | none => none) else none
  | _, _, _, _, _, _ => none
 | _ => none
def dfR (x : Raw) : Option Df :=
 match isL x with
 | some [i, p, l] =>
  match isB i, isB p, isL l with
  | some i, some p, some l => if i.length = 32 ∧ p.length = 32 then (match Vq chR l with | some cs => some ⟨i, p, cs⟩ | none => none) else none
  | _, _, _ => none
 | _ => none
def OX (b : List UInt8) : Except Nat Df :=
 match jC b with
 | .error e => .error e
 | .ok x => match dfR x with
  | none => .error 4
  | some d => if may d.chs then .ok d else .error 4
theorem Vy (bs : List UInt8) (xs : List Raw) : E (.mk true bs xs) = head (EL xs).length 192 ++ EL xs := by rw [E]
mutual
theorem Fh : ∀ x : Raw, (E x).length ≤ most → fD x = some (E x)
 | .mk false bs xs, h => by
  rw [E] at h ⊢
  rw [fD]
  have h2 : bs.length ≤ (EB bs).length := by unfold EB; split <;> simp
  rw [if_neg (by omega)]
 | .mk true bs xs, h => by
  rw [Vy] at h ⊢
  rw [List.length_append] at h
  rw [fD, AZ xs [] (by simp; omega)]
  rfl
theorem AZ : ∀ (xs : List Raw) (acc : List UInt8), acc.length + (EL xs).length ≤ most → gK xs acc = some (acc ++ EL xs)
 | [], acc, h => by rw [gK, EL, List.append_nil]
 | x :: xs, acc, h => by
  rw [EL, List.length_append] at h
  rw [gK, Fh x (by omega), EL]
  dsimp only
  rw [if_neg (by omega), AZ xs (acc ++ E x) (by rw [List.length_append]; omega), List.append_assoc]
end
theorem NK (xs : List Raw) (bs : List UInt8) (m k : Nat) (h : ∀ x ∈ xs, dO x m ≤ k) : dO (.mk true bs xs) (m + 1) ≤ k + 1 := by
 rw [dO]
 have := (maxD_le xs m 0 k).2 ⟨Nat.zero_le _, h⟩
 omega
end Jn
end Go.Proofs.YtiledgojbpmoiaaGreat
namespace Go.Proofs.YtiledgojbpmoiaaGreat
set_option linter.unusedVariables false
open Go.RowKit Mono Rlp
namespace E
theorem vC {x : Raw} (hd : dO x 32 ≤ 32) (h : (E x).length ≤ most) : packed x = some (Rlp.E x) := by
 rw [sN, if_neg (by omega), Jn.Fh _ h]
 dsimp only
 rw [if_neg (by omega)]
structure Gd (x : Raw) : Prop where
 nrm : norm x = x
 deep : ∀ m, dO x m ≤ 32
 dep : dep x ≤ 33
 len : (Rlp.E x).length ≤ most
theorem wH {p : List UInt8 → Except Nat (Raw × Nat)} {Q : Raw → Prop} (hp : ∀ b x k, p b = .ok (x, k) → Q x) : ∀ (f : Nat) (b : List UInt8) (xs : List Raw), dK p f b = .ok xs → ∀ x ∈ xs, Q x
 | _, [], xs, h => by unfold dK at h; cases h; intro x hx; cases hx
 | 0, _ :: _, xs, h => by unfold dK at h; cases h
 | f + 1, c :: b, xs, h => by
  unfold dK at h
  split at h
  · cases h
  ·
   rename_i x k hx
   split at h
   · cases h
   ·
    rename_i ys hy
    cases h
    intro z hz
    rcases List.mem_cons.1 hz with rfl | hz
    · exact hp _ _ _ hx
    · exact wH hp f _ ys hy z hz
theorem Bj : ∀ xs : List Raw, (∀ x ∈ xs, norm x = x) → nN xs = xs
 | [], _ => by rw [nN]
 | x :: xs, h => by rw [nN, h x List.mem_cons_self, Bj xs fun y hy => h y (List.mem_cons_of_mem _ hy)]
theorem Ku {n : Nat} : ∀ xs : List Raw, (∀ x ∈ xs, dep x ≤ n) → Aj xs ≤ n
 | [], _ => by rw [Aj]; omega
 | x :: xs, h => by
  rw [Aj]
  have h1 := h x List.mem_cons_self
  have h2 := Ku xs fun y hy => h y (List.mem_cons_of_mem _ hy)
  omega
theorem yg (p : Option (List UInt8 → Except Nat (Raw × Nat))) (d : Nat) (hp : ∀ q, p = some q → 0 < d ∧ ∀ b x k, q b = .ok (x, k) → norm x = x ∧ (∀ m, dO x m ≤ d - 1) ∧ dep x ≤ d) (b : List UInt8) (x : Raw) (n : Nat) (h : rM p b = .ok (x, n)) : norm x = x ∧ (∀ m, dO x m ≤ d) ∧ dep x ≤ d + 1 := by
 have hB : ∀ l : List UInt8, norm (.mk false l []) = .mk false l [] ∧ (∀ m, dO (.mk false l []) m ≤ d) ∧ dep (.mk false l []) ≤ d + 1 := fun l => ⟨by rw [norm], fun m => by rw [dO]; omega, by rw [dep, Aj]; omega⟩
 cases b with
 | nil => cases h
 | cons c t =>
  rw [iH] at h
  split at h
  ·
   cases h
   exact hB _
  ·
   split at h
   ·
    split at h
    · cases h
    ·
     split at h
     · cases h
     ·
      cases h
      exact hB _
   ·
    cases p with
    | none => cases h
    | some p =>
     obtain ⟨hd, hq⟩ := hp p rfl
     dsimp only at h
     split at h
     · cases h
     ·
      split at h
      · cases h
      ·
       rename_i ys hy
       cases h
       have hall := wH hq _ _ _ hy
       refine ⟨by rw [norm, Bj ys fun x hx => (hall x hx).1], fun m => ?_, ?_⟩
       ·
        cases m with
        | zero => rw [dO]; omega
        | succ m =>
         rw [dO]
         have := (maxD_le ys m 0 (d - 1)).2 ⟨Nat.zero_le _, fun x hx => (hall x hx).2.1 m⟩
         omega
       ·
        rw [dep]
        have := Ku ys fun x hx => (hall x hx).2.2
        omega
theorem yP : ∀ (d : Nat) (b : List UInt8) (x : Raw) (n : Nat), parse d b = .ok (x, n) → norm x = x ∧ (∀ m, dO x m ≤ d) ∧ dep x ≤ d + 1
 | 0, b, x, n, h => yg none 0 (fun q e => by cases e) b x n h
 | d + 1, b, x, n, h => yg (some (parse d)) (d + 1) (fun q e => by cases e; exact ⟨Nat.succ_pos _, yP d⟩) b x n h
theorem Ez {b : List UInt8} {x : Raw} (h : jC b = .ok x) : Gd x := by
 have hE := Rn h
 unfold jC at h
 split at h
 · cases h
 ·
  rename_i hl
  split at h
  · cases h
  ·
   rename_i y n hy
   split at h
   ·
    cases h
    obtain ⟨h1, h2, h3⟩ := yP 32 b x n hy
    exact ⟨h1, h2, h3, by rw [← hE]; omega⟩
   · cases h
theorem Gd.pk {x : Raw} (h : Gd x) : packed x = some (Rlp.E x) := vC (h.deep 32) h.len
theorem Gd.pkB {x : Raw} (h : Gd x) : E.pkB x = Rlp.E x := by
 unfold E.pkB
 rw [h.pk]
 rfl
theorem Bh : ∀ {xs : List Raw}, nN xs = xs → ∀ x ∈ xs, norm x = x
 | y :: xs, h, x, hx => by
  rw [nN] at h
  injection h with h1 h2
  rcases List.mem_cons.1 hx with rfl | hx
  · exact h1
  · exact Bh h2 x hx
theorem Gd.kid {b : List UInt8} {xs : List Raw} {y : Raw} (h : Gd (.mk true b xs)) (hy : y ∈ xs) : Gd y where
 nrm := by
  have := h.nrm
  rw [norm] at this
  injection this with _ _ h3
  exact Bh h3 y hy
 deep m := by
  have h1 := h.deep (m + 1)
  rw [dO] at h1
  have := ((maxD_le xs m 0 31).1 (by omega)).2 y hy
  omega
 dep := by
  have h1 := h.dep
  rw [E.dep] at h1
  have := uO hy
  omega
 len := Nat.le_trans (WI hy) h.len
theorem RX : Gd fM := ⟨by rw [fM, norm], fun m => by rw [fM, dO]; omega, by rw [fM, E.dep, Aj]; omega, by decide⟩
inductive Nd where
 | nil
 | hash (w : List UInt8)
 | leaf (p v : List UInt8)
 | ext (p : List UInt8) (k : Nd)
 | br (ks : Nat → Nd) (v : List UInt8)
def Nd.isNil : Nd → Bool
 | .nil => true
 | _ => false
def Nd.xk : Nd → Bool
 | .br _ _ => true
 | .hash _ => true
 | _ => false
def gY (N : Raw → Nd × Bool) (x : Raw) : Nd × Bool := if isL x then (match packed x with
  | none => (.nil, false)
  | some b => if b.length < 32 then N x else (.nil, false)) else if (bts x).length = 0 then (.nil, true) else if (bts x).length = 32 then (.hash (bts x), true) else (.nil, false)
def rP (N : Raw → Nd × Bool) (a b : Raw) : Nd × Bool := match rdP (bts a) with
 | none => (.nil, false)
 | some (p, lf) => if isL a then (.nil, false) else if lf then (.leaf p (bts b), !isL b && decide (0 < (bts b).length)) else if (gY N b).1.xk then (.ext p (gY N b).1, (gY N b).2 && decide (0 < p.length)) else (.nil, false)
def cntF (N : Raw → Nd × Bool) (xs : List Raw) : Nat := (xs.filter fun x => !(gY N x).1.isNil).length
def brF (N : Raw → Nd × Bool) (xs : List Raw) : Nd × Bool := if (xs.take 16).all (fun x => (gY N x).2) then (.br (fun k => (gY N (xs.getD k fM)).1) (bts (xs.getD 16 fM)), !isL (xs.getD 16 fM) && decide (1 < cntF N (xs.take 16) + (if 0 < (bts (xs.getD 16 fM)).length then 1 else 0))) else (.nil, false)
def bH : Nat → Raw → Nd × Bool
 | 0, _ => (.nil, false)
 | _ + 1, .mk false _ _ => (.nil, false)
 | f + 1, .mk true _ xs => if xs.length = 2 then rP (bH f) (xs.getD 0 fM) (xs.getD 1 fM) else if xs.length = 17 then brF (bH f) xs else (.nil, false)
theorem all_eq {α : Type} {p q : α → Bool} : ∀ {l : List α}, (∀ x ∈ l, p x = q x) → l.all p = l.all q
 | [], _ => rfl
 | x :: l, h => by rw [List.all_cons, List.all_cons, h x List.mem_cons_self, all_eq fun y hy => h y (List.mem_cons_of_mem _ hy)]
theorem zD {α : Type} {p q : α → Bool} : ∀ {l : List α}, (∀ x ∈ l, p x = q x) → l.filter p = l.filter q
 | [], _ => rfl
 | x :: l, h => by rw [List.filter_cons, List.filter_cons, h x List.mem_cons_self, zD fun y hy => h y (List.mem_cons_of_mem _ hy)]
theorem sS : ∀ (f : Nat) (x : Raw), (bH f x).2 = true → (bH f x).1.isNil = false
 | 0, x, h => by cases h
 | _ + 1, .mk false _ _, h => by cases h
 | f + 1, .mk true b xs, h => by
  rw [bH] at h ⊢
  split
  ·
   rename_i h2
   rw [if_pos h2] at h
   unfold rP at h ⊢
   split
   ·
    rename_i e
    rw [e] at h
    cases h
   ·
    rename_i p lf e
    rw [e] at h
    dsimp only at h
    split
    ·
     rename_i h3
     rw [if_pos h3] at h
     cases h
    ·
     split
     · rfl
     ·
      split
      · rfl
      ·
       rename_i h3 h4 h5
       rw [if_neg h3, if_neg h4, if_neg h5] at h
       cases h
  ·
   rename_i h2
   rw [if_neg h2] at h
   split
   ·
    rename_i h3
    rw [if_pos h3] at h
    unfold brF at h ⊢
    split
    · rfl
    ·
     rename_i h4
     rw [if_neg h4] at h
     cases h
   ·
    rename_i h3
    rw [if_neg h3] at h
    cases h
theorem Po : ∀ (f : Nat) (x : Raw), (bH f x).2 = true → (bH f x).1.xk = !decide ((its x).length = 2)
 | 0, x, h => by cases h
 | _ + 1, .mk false _ _, h => by cases h
 | f + 1, .mk true b xs, h => by
  rw [bH] at h ⊢
  show _ = !decide (xs.length = 2)
  split
  ·
   rename_i h2
   rw [if_pos h2] at h
   rw [decide_eq_true h2]
   unfold rP at h ⊢
   split
   · rfl
   ·
    rename_i p lf e
    rw [e] at h
    dsimp only at h
    split
    · rfl
    ·
     split
     · rfl
     ·
      split
      · rfl
      · rfl
  ·
   rename_i h2
   rw [if_neg h2] at h
   rw [decide_eq_false h2]
   split
   ·
    rename_i h3
    rw [if_pos h3] at h
    unfold brF at h ⊢
    split
    · rfl
    ·
     rename_i h4
     rw [if_neg h4] at h
     cases h
   ·
    rename_i h3
    rw [if_neg h3] at h
    cases h
theorem qW {N : Raw → Nd × Bool} {x : Raw} (hx : Gd x) (hl : isL x = true) : gY N x = if (Rlp.E x).length < 32 then N x else (.nil, false) := by
 unfold gY
 rw [if_pos hl, hx.pk]
theorem JG {f : Nat} {x : Raw} (hx : Gd x) (ih : (bH f x).2 = isN f x) : (gY (bH f) x).2 = rfB (isN f) true x ∧ ((gY (bH f) x).2 = true → (!(gY (bH f) x).1.isNil) = some1 x) := by
 obtain ⟨l, b, xs⟩ := x
 cases l with
 | true =>
  rw [qW hx rfl]
  rw [tZ]
  unfold some1
  rw [hx.pkB, show isL (.mk true b xs) = true from rfl, Bool.true_or]
  split
  ·
   rename_i h
   rw [decide_eq_true h, Bool.true_and]
   exact ⟨ih, fun h2 => by rw [sS f _ h2]; rfl⟩
  ·
   rename_i h
   rw [decide_eq_false h, Bool.false_and]
   exact ⟨rfl, fun h => by cases h⟩
 | false =>
  rw [qR]
  unfold gY some1
  rw [show isL (.mk false b xs) = false from rfl, if_neg Bool.false_ne_true, show bts (.mk false b xs) = b from rfl, Bool.false_or]
  by_cases h0 : b.length = 0
  ·
   rw [if_pos h0]
   refine ⟨by simp [h0], fun _ => ?_⟩
   rw [h0]
   rfl
  ·
   rw [if_neg h0]
   by_cases h32 : b.length = 32
   ·
    rw [if_pos h32]
    refine ⟨by simp [h32], fun _ => ?_⟩
    rw [h32]
    rfl
   ·
    rw [if_neg h32]
    refine ⟨by simp [h0, h32], fun h => by cases h⟩
theorem kJ : ∀ (f : Nat) (x : Raw), Gd x → (bH f x).2 = isN f x
 | 0, x, _ => rfl
 | _ + 1, .mk false _ _, _ => by rw [bH, isN]
 | f + 1, .mk true b xs, hx => by
  have ih : ∀ y ∈ xs, (bH f y).2 = isN f y := fun y hy => kJ f y (hx.kid hy)
  rw [bH, isN]
  by_cases h2 : xs.length = 2
  ·
   rw [if_pos h2, if_neg (by omega), if_pos h2]
   match xs, h2 with
   | [a, c], _ =>
    have hc := hx.kid (y := c) (List.mem_cons_of_mem _ List.mem_cons_self)
    have ic := ih c (List.mem_cons_of_mem _ List.mem_cons_self)
    show (rP (bH f) a c).2 = prB (isN f) a c
    unfold rP prB
    cases hr : rdP (bts a) with
    | none => simp
    | some pl =>
     obtain ⟨p, lf⟩ := pl
     dsimp only
     cases hla : isL a with
     | true => rfl
     | false =>
      rw [if_neg Bool.false_ne_true, Bool.not_false, Bool.true_and]
      cases lf with
      | true => rfl
      | false =>
       rw [if_neg Bool.false_ne_true]
       dsimp only
       obtain ⟨cl, cb, cx⟩ := c
       cases cl with
       | true =>
        rw [qW hc rfl]
        rw [tZ]
        rw [hc.pkB, show isL (.mk true cb cx) = true from rfl, Bool.true_and]
        split
        ·
         rename_i hlt
         rw [decide_eq_true hlt, Bool.true_and]
         cases hn : isN f (.mk true cb cx) with
         | true =>
          rw [hn] at ic
          rw [Po f _ ic, ic]
          cases hd : decide ((its (.mk true cb cx)).length = 2) with
          | true => simp
          | false => simp
         | false =>
          rw [hn] at ic
          rw [ic]
          split <;> simp
        ·
         rename_i hlt
         rw [decide_eq_false hlt]
         simp [Nd.xk]
       | false =>
        rw [qR]
        unfold gY
        rw [show isL (.mk false cb cx) = false from rfl, if_neg Bool.false_ne_true, show bts (.mk false cb cx) = cb from rfl]
        by_cases h0 : cb.length = 0
        ·
         rw [if_pos h0]
         simp [Nd.xk, h0]
        ·
         rw [if_neg h0]
         by_cases h32 : cb.length = 32
         ·
          rw [if_pos h32]
          simp [Nd.xk, h32]
         ·
          rw [if_neg h32]
          simp [Nd.xk, h32]
  ·
   rw [if_neg h2]
   by_cases h17 : xs.length = 17
   ·
    rw [if_pos h17, if_pos h17]
    unfold brF brB
    have hk : ∀ y ∈ xs.take 16, (gY (bH f) y).2 = rfB (isN f) true y := fun y hy => (JG (hx.kid (List.mem_of_mem_take hy)) (ih y (List.mem_of_mem_take hy))).1
    rw [all_eq hk]
    cases hall : (xs.take 16).all (rfB (isN f) true) with
    | false => simp
    | true =>
     rw [if_pos rfl, Bool.true_and]
     dsimp only
     congr 1
     have : (xs.take 16).filter (fun x => !(gY (bH f) x).1.isNil) = (xs.take 16).filter some1 := zD fun y hy => (JG (hx.kid (List.mem_of_mem_take hy)) (ih y (List.mem_of_mem_take hy))).2 (by rw [hk y hy]; exact List.all_eq_true.1 hall y hy)
     unfold cntF
     rw [this]
     rfl
   · rw [if_neg h17, if_neg h17, if_neg h2]
theorem jU {S : St} {ops : Array Oper} {o : Oper} {Ty : TypeId} {x : Operand} {d : D} (ho : o.op = .box Ty x) (hx : ev S x = some (.val d)) : oz ops S o (· = .val (.pd d)) := fun base ok a w ha => by
 obtain ⟨cs, h1, h2⟩ := JM ho hx base ok a w ha
 rw [h1]
 have hg := aB w (.cells cs.toArray Ty)
 refine ⟨hg, _, rfl, (bP rfl).2 ?_⟩
 rw [Reads]
 have hs : w.heap.size < (w.alloc (.cells cs.toArray Ty)).heap.size := by simp
 have hr : (w.alloc (.cells cs.toArray Ty)).heap[w.heap.size]? = some (.cells cs.toArray Ty (0, 0)) := (MapKept.heap_alloc w _).1
 exact ⟨w.heap.size, 0, cs, rfl, ⟨.inr (Nat.le_refl _), hs⟩, jq hr, Reads.mono (fun b hb => ⟨.inl hb, Nat.lt_of_lt_of_le (ha.lt b hb) hg.size⟩) (fun p hp => hg.cell (ha.lt _ hp)) _ _ h2⟩
theorem EK.bT {N : Nat} {X : Cx N} {fn : Func} {Φ : R → List Obj → Prop} {S : St} {t u : Tmp} {d e d' e' : D} (os' : List Obj) (hres : fn.results = #[.tmp t, .tmp u]) (hl : look S.regs t = some (.val d)) (hk : look S.regs u = some (.val e)) (hR : aj S.facts [d, e] [d', e']) (ho : os'.Sublist S.objs) (hΦ : Φ (.tpl [d', e']) os') : EK X (bodyPost Tryz.prog fn (Ap X Φ) .ret) S := by
 refine EK.le (S' := ⟨S.regs, os', S.facts⟩) ?_ (EK.Ut hres hl hk hR hΦ)
 exact fun a w h => ⟨h.mem.less ho (fun f hf => hf), fun t r ht => bY.mono (fun b hb => rC ho hb) (fun _ _ => rfl) (h.regs t r ht), h.size, h.defers⟩
end E
end Go.Proofs.YtiledgojbpmoiaaGreat
