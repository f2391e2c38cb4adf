/-
 Merged: lemmas of this claim.
 Conditions: none.
-/
import Derived.Test.YtkhjanjlcdhdcaaGreatZL22
import Derived.Test.YtkhjanjlcdhdcaaGreatZL19
import Derived.Test.YtkhjanjlcdhdcaaGreatZL13
import Derived.Test.YtkhjanjlcdhdcaaGreatZL0
namespace Go.Proofs.YtkhjanjlcdhdcaaGreat
set_option linter.unusedVariables false
set_option maxRecDepth 20000
set_option maxHeartbeats 8000000
open Go.RowKit Mono Rlp Wd
namespace E
theorem zY (ls : List Nat) (hl : ls.length = 16) (i : Nat) (hi : i < 32) : ((eF 2 ls).map UInt8.ofNat).reverse[i]? = some (UInt8.ofNat (ls.getD ((31 - i) / 2) 0 / 256 ^ ((31 - i) % 2))) := by
 have hlen : (eF 2 ls).length = 32 := by rw [fA, hl]
 rw [List.getElem?_reverse (by rw [KG]; omega), KG, hlen, List.getElem?_map, lS 2 (by decide) ls _ (by omega), show 32 - 1 - i = 31 - i by omega]
 simp only [NY]
 congr 1
 apply UInt8.toNat_inj.1
 show _ % 256 % 256 = _ % 256
 rw [Nat.mod_mod]
theorem uK (W : List UInt8) (k : Nat) (h : k + 1 < W.length) : ((List.replicate (k + 2) 0 ++ W.drop (k + 2)).set (k + 1) W[k + 1]).set k W[k] = List.replicate k 0 ++ W.drop k := by
 rw [LV (show k < W.length by omega), LV h, List.replicate_succ', List.replicate_succ', KR, KR]
 rw [MX _ _ (by simp), MX _ _ (by simp)]
 simp
theorem rV (n m : Nat) (h : n % 256 ^ 32 = m % 256 ^ 32) : bJ n = bJ m := val_inj _ _ (by rw [cu, cu]) (by rw [fV, fV, h])
theorem CV (ls : List Nat) (hl : 16 ≤ ls.length) : bJ (Wd.le 65536 (ls.take 16)) = bJ (Wd.le 65536 ls) := by
 refine rV _ _ ?_
 conv => rhs; rw [← Mc 16 ls, fK, LD, MC hl]
 rw [show (65536 : Nat) ^ 16 = 256 ^ 32 from rfl, OA]
theorem Cm (ls : List Nat) (hl : 16 ≤ ls.length) (h1 : ∀ x ∈ ls, x < 65536) : Fn 74 [.sl 1 (dIs ls)] (· = .val (.arr 32 (bJ (Wd.le 65536 ls)))) := by
 have hW := oW 2 (ls.take 16) (by rw [LD]; omega) (fun x hx => h1 x (List.mem_of_mem_take hx))
 rw [show (256 : Nat) ^ 2 = 65536 from rfl, CV ls hl] at hW
 rw [← hW]
 have hWl : (((eF 2 (ls.take 16)).map UInt8.ofNat).reverse).length = 32 := by rw [MO, KG, fA, LD]; omega
 have hget := zY (ls.take 16) (by rw [LD]; omega)
 generalize ((eF 2 (ls.take 16)).map UInt8.ofNat).reverse = W at hWl hget
 clear hW
 have hll := fH ls
 refine Fn.walk 36 Tryz.func74 rfl Tryz.ntmps74 (by simp) fun X => ?_
 repeat
  (first
   | (apply ak; iterate 3 rfl) | (apply bW; rfl; rfl; rfl; intro _) | apply EL.nil
   | (with_reducible first | apply EK.nc | apply EC.seq | apply EC.r0 | apply EC.k0 | apply EC.label | apply EC.b0 | apply EC.x0 | apply EC.ret | apply EK.n0 | apply EK.s0 | apply EK.aA | apply EK.aj | apply EK.ah))
 rename_i g1 g2
 refine EC.loop (ι := {i : Nat // i ≤ 16})
  (fun i => ⟨[(4, .val (.v (.int .i64 (i.1 : Int)))), (3, .val (.v (.pointer (some ⟨g2, 0, none⟩)))), (2, .val (.v (.pointer (some ⟨g1, 0, none⟩)))), (0, .val (.sl 1 (dIs ls)))], [.var g2 34 (.arr 32 (List.replicate (32 - 2 * i.1) 0 ++ W.drop (32 - 2 * i.1))), .var g1 34 (.arr 32 zero32)], []⟩)
  (fun i => 16 - i.1) ⟨0, by omega⟩ ?_ ?_
 ·
  dsimp only
  rw [LZ (by omega)]
  exact Le.kp
 rintro ⟨i, hi⟩
 dsimp only at hi ⊢
 by_cases hlt : i < 16
 ·
  have hil : i < ls.length := by omega
  have hx : (dIs ls)[i]? = some (.v (i64 ls[i])) := jm hil
  have b1 := hget (31 - 2 * i) (by omega)
  have b2 := hget (30 - 2 * i) (by omega)
  have gd : ∀ p, p = i → (ls.take 16).getD p 0 = ls[i] := by
   rintro p rfl
   rw [Lr, MR, if_pos hlt, KA hil]
   rfl
  rw [gd _ (by omega), show (31 - (31 - 2 * i)) % 2 = 0 by omega, Nat.pow_zero, Nat.div_one] at b1
  rw [gd _ (by omega), show (31 - (30 - 2 * i)) % 2 = 1 by omega, Nat.pow_one] at b2
  have hxl := h1 _ (LH hil)
  generalize ls[i] = x at hx b1 b2 hxl
  have hst := uK W (30 - 2 * i) (by omega)
  rw [show 30 - 2 * i + 2 = 32 - 2 * i by omega] at hst
  have hst1 : W[30 - 2 * i + 1]'(by omega) = UInt8.ofNat x := by
   have : W[30 - 2 * i + 1]? = some (UInt8.ofNat x) := by rw [show 30 - 2 * i + 1 = 31 - 2 * i by omega]; exact b1
   exact (KP.1 this).2
  have hst2 : W[30 - 2 * i]'(by omega) = UInt8.ofNat (x / 256) := (KP.1 b2).2
  rw [hst1, hst2, show 30 - 2 * i + 1 = 31 - 2 * i by omega] at hst
  have r1 := zM 3 x 8 (by omega) (by decide) 255 (by decide)
  have r2 := vT 3 x 8 (by decide)
  have c1 : ∀ w, (Go.convert 3 5 (i64 (x % 2 ^ 8))).run Tryz.prog w = .ok (bv (UInt8.ofNat x)) w := by
   rw [FT]
   exact mV (T := 3) (U := 5) (k := .i64) (k' := .u8) Tryz.underlying3 Tryz.underlying5 ((x % 2 ^ 8 : Nat) : Int) ((x % 256 : Nat) : Int) (by rw [IntKind.wrap_u8]; omega)
  have c2 : ∀ w, (Go.convert 3 5 (i64 (x / 2 ^ 8))).run Tryz.prog w = .ok (bv (UInt8.ofNat (x / 256))) w := by
   rw [FT]
   exact mV (T := 3) (U := 5) (k := .i64) (k' := .u8) Tryz.underlying3 Tryz.underlying5 ((x / 2 ^ 8 : Nat) : Int) ((x / 256 % 256 : Nat) : Int) (by rw [IntKind.wrap_u8]; omega)
  have o1 : 0 + ((31 : Int) - 2 * (i : Int)).toNat * 1 = 31 - 2 * i := by omega
  have o2 : 0 + ((30 : Int) - 2 * (i : Int)).toNat * 1 = 30 - 2 * i := by omega
  have hk1 : (0 : Int) ≤ (31 : Int) - 2 * (i : Int) ∧ ((31 : Int) - 2 * (i : Int)).toNat < 32 := ⟨by omega, by omega⟩
  have hk2 : (0 : Int) ≤ (30 : Int) - 2 * (i : Int) ∧ ((30 : Int) - 2 * (i : Int)).toNat < 32 := ⟨by omega, by omega⟩
  have s1 : (List.replicate (32 - 2 * i) 0 ++ W.drop (32 - 2 * i)).length = 32 := by rw [Lu, MF, Oq]; omega
  generalize List.replicate (32 - 2 * i) 0 ++ W.drop (32 - 2 * i) = Z at hst s1
  repeat
   (first
    | (apply dO; (iterate 2 rfl); exact r1; iterate 2 rfl) | (apply dO; (iterate 2 rfl); exact r2; iterate 2 rfl)
    | (apply F8; rfl; (first | exact c1 | exact c2); iterate 3 rfl) | (apply oV; (iterate 3 rfl); (first | exact hk1 | exact hk2); iterate 2 rfl)
    | (apply zT; rfl; exact .z; rfl; rfl; (omega); rfl) | (apply aB; iterate 3 rfl) | (apply ak; iterate 3 rfl)
    | (apply bP; iterate 5 rfl) | (apply dH; iterate 4 rfl) | (apply aC (b := true); (iterate 2 rfl); exact aN; iterate 2 rfl)
    | (apply dQ; (iterate 3 rfl); (focus omega); (focus omega); iterate 2 rfl) | (apply aU; iterate 4 rfl)
    | (apply dh; (iterate 4 rfl); exact ixA; iterate 2 rfl) | apply EL.nil
    | (apply EC.t0; rfl)
    | (with_reducible first | apply EK.nc | apply EC.seq | apply EC.r0 | apply EC.k0 | apply EC.label | apply EC.b0 | apply EC.x0 | apply EC.ret | apply EK.n0 | apply EK.s0 | apply EK.aA | apply EK.aj | apply EK.ah))
  refine EK.again ⟨i + 1, by omega⟩ (by dsimp only; omega) ?_
  rw [o1, o2, hst, show 30 - 2 * i = 32 - 2 * (i + 1) by omega]
  simp only [Ls]
  exact Le.kp
 ·
  have : i = 16 := by omega
  subst this
  rw [Oi, Nz, Kt, Kw]
  repeat
   (first
    | (apply gV; iterate 2 rfl) | (apply aB; iterate 3 rfl) | (apply dH; iterate 4 rfl) | (apply aF; rfl; exact I.a; iterate 4 rfl)
    | (apply aC (b := false); (iterate 2 rfl); exact aN; iterate 2 rfl)
    | (apply aO; rfl; exact saA; iterate 4 rfl) | apply EL.nil
    | (apply EC.f0; rfl)
    | (with_reducible first | apply EK.nc | apply EC.seq | apply EC.r0 | apply EC.k0 | apply EC.label | apply EC.b0 | apply EC.x0 | apply EC.ret | apply EK.n0 | apply EK.s0 | apply EK.aA | apply EK.aj | apply EK.ah))
  refine EK.l7 1 rfl rfl rfl rfl ?_ rfl
  (exact RL.a)
def kK (a b : List Nat) : Nat → Nat
 | 0 => 0
 | i + 1 => (kK a b i + a.getD i 0 + b.getD i 0) / 65536
def lK (a b : List Nat) (i : Nat) : List Nat := (List.range i).map fun j => (kK a b j + a.getD j 0 + b.getD j 0) % 65536
theorem vW (a b : List Nat) (i : Nat) : lK a b (i + 1) = lK a b i ++ [(kK a b i + a.getD i 0 + b.getD i 0) % 65536] := by simp [lK, List.range_succ]
theorem jd (a b : List Nat) (i : Nat) : (lK a b i).length = i := by simp [lK]
theorem H8 (a b : List Nat) (i : Nat) : ∀ x ∈ lK a b i, x < 65536 := fun x hx => by
 obtain ⟨j, _, rfl⟩ := Lh.1 hx
 exact Nat.mod_lt _ (by decide)
theorem jl (B : Nat) (a : List Nat) (i : Nat) (h : i < a.length) : Wd.le B (a.take (i + 1)) = Wd.le B (a.take i) + B ^ i * a.getD i 0 := by
 rw [LG h, fK, LD, MC (Nb h), Lr, KA h]
 simp [Wd.le]
theorem rO (a b : List Nat) (h1 : ∀ x ∈ a, x < 65536) (h2 : ∀ x ∈ b, x < 65536) (ha : a.length = 16) (hb : b.length = 16) : ∀ i, i ≤ 16 → kK a b i ≤ 1
 | 0, _ => by simp [kK]
 | i + 1, h => by
  have := rO a b h1 h2 ha hb i (by omega)
  have g1 : a.getD i 0 < 65536 := by rw [Lr, KA (by omega)]; exact h1 _ (LH _)
  have g2 : b.getD i 0 < 65536 := by rw [Lr, KA (by omega)]; exact h2 _ (LH _)
  rw [kK]
  omega
theorem CP (a b : List Nat) (ha : a.length = 16) (hb : b.length = 16) : ∀ i, i ≤ 16 → Wd.le 65536 (lK a b i) + 65536 ^ i * kK a b i = Wd.le 65536 (a.take i) + Wd.le 65536 (b.take i)
 | 0, _ => by simp [lK, kK, Wd.le]
 | i + 1, h => by
  have ih := CP a b ha hb i (by omega)
  rw [vW, fK, jd, jl _ a i (by omega), jl _ b i (by omega), kK, Nu]
  simp only [Wd.le, Nat.mul_zero, Oh]
  generalize a.getD i 0 = x
  generalize b.getD i 0 = y
  generalize kK a b i = c at ih
  have hdm := Nat.mod_add_div (c + x + y) 65536
  have : 65536 ^ i * ((c + x + y) % 65536) + 65536 ^ i * 65536 * ((c + x + y) / 65536) = 65536 ^ i * (c + x + y) := by
   rw [Ou, ← MG, hdm]
  rw [MG, MG] at this
  omega
theorem Jq (a b : List Nat) (ha : a.length = 16) (hb : b.length = 16) (h1 : ∀ x ∈ a, x < 65536) (h2 : ∀ x ∈ b, x < 65536) : Fn 75 [.sl 1 (dIs a), .sl 1 (dIs b)] (· = .val (.sl 1 (dIs (lK a b 16 ++ [kK a b 16])))) := by
 have hla : (dIs a).length = 16 := (fH a).trans ha
 have hlb : (dIs b).length = 16 := (fH b).trans hb
 refine Fn.walk 51 Tryz.func75 rfl Tryz.ntmps75 (by simp) fun X => ?_
 repeat
  (first
   | (apply ak; iterate 3 rfl) | apply EL.nil
   | (with_reducible first | apply EK.nc | apply EC.seq | apply EC.r0 | apply EC.k0 | apply EC.label | apply EC.b0 | apply EC.x0 | apply EC.ret | apply EK.n0 | apply EK.s0 | apply EK.aA | apply EK.aj | apply EK.ah))
 refine EC.le (Le.row 3 1) ?_
 refine EC.loop (ι := {p : Value × Nat // p.2 ≤ 16})
  (fun p => ⟨[(7, .val (.v (.int .i64 (p.1.2 : Int)))), (6, .val (.v (.int .i64 (kK a b p.1.2 : Int)))), (5, .val (.v p.1.1)), (1, .val (.sl 1 (dIs b))), (0, .val (.sl 1 (dIs a)))], [.row p.1.1 3 1 (dIs (lK a b p.1.2))], []⟩)
  (fun p => 16 - p.1.2) ⟨(.slice none 0 0, 0), by simp⟩ ?_ ?_
 · exact Le.kp
 rintro ⟨⟨sv, i⟩, hi⟩
 dsimp only at hi ⊢
 by_cases hlt : i < 16
 ·
  have hx : (dIs a)[i]? = some (.v (i64 (a.getD i 0))) := by rw [jm (by omega), Lr, KA (by omega)]; rfl
  have hy : (dIs b)[i]? = some (.v (i64 (b.getD i 0))) := by rw [jm (by omega), Lr, KA (by omega)]; rfl
  have g1 : a.getD i 0 < 65536 := by rw [Lr, KA (by omega)]; exact h1 _ (LH _)
  have g2 : b.getD i 0 < 65536 := by rw [Lr, KA (by omega)]; exact h2 _ (LH _)
  have hc := rO a b h1 h2 ha hb i hi
  have hO := vW a b i
  have hC : kK a b (i + 1) = (kK a b i + a.getD i 0 + b.getD i 0) / 65536 := rfl
  have hOl : (lK a b i).length = i := jd a b i
  generalize hO' : lK a b (i + 1) = O' at hO
  generalize hC' : kK a b (i + 1) = C' at hC
  generalize kK a b i = c at hc hO hC
  generalize lK a b i = O at hO hOl
  generalize a.getD i 0 = x at hx g1 hO hC
  generalize b.getD i 0 = y at hy g2 hO hC
  have r1 := zM 3 (c + x + y) 16 (by omega) (by decide) 65535 (by decide)
  have r2 := vT 3 (c + x + y) 16 (by decide)
  simp only [i64, Ls] at r1 r2
  subst hC
  have hO2 : dIs O ++ [.v (.int .i64 (((c + x + y) % 2 ^ 16 : Nat) : Int))] = dIs O' := by rw [hO, ← uf]; rfl
  repeat
   (first
    | (apply gV; iterate 2 rfl) | (apply dO; (iterate 2 rfl); exact r1; iterate 2 rfl) | (apply dO; (iterate 2 rfl); exact r2; iterate 2 rfl)
    | (apply aB; iterate 3 rfl) | (apply ak; iterate 3 rfl) | (apply bP; iterate 5 rfl) | (apply dH; iterate 4 rfl)
    | (apply aC (b := true); (iterate 2 rfl); exact aN; iterate 2 rfl) | (apply dQ; (iterate 3 rfl); (focus omega); (focus omega); iterate 2 rfl)
    | (apply aU; iterate 4 rfl)
    | (apply dh; (iterate 4 rfl); exact ixA; iterate 2 rfl)
    | (apply kM; iterate 9 rfl)
    | ((apply dP; rfl; exact saA; (iterate 5 rfl); (focus (constructor <;> (first | (simp; done) | (simp; omega))))); intro _)
    | apply EL.nil | (apply EC.t0; rfl)
    | (with_reducible first | apply EK.nc | apply EC.seq | apply EC.r0 | apply EC.k0 | apply EC.label | apply EC.b0 | apply EC.x0 | apply EC.ret | apply EK.n0 | apply EK.s0 | apply EK.aA | apply EK.aj | apply EK.ah))
  rename_i sv'
  refine EK.again ⟨(sv', i + 1), by omega⟩ (by dsimp only; omega) ?_
  dsimp only
  rw [hO2, hO', hC']
  simp only [Ls]
  exact Le.kp
 ·
  have : i = 16 := by omega
  subst this
  have hc := rO a b h1 h2 ha hb 16 (by omega)
  have hOl : (lK a b 16).length = 16 := jd a b 16
  repeat
   (first
    | (apply aB; iterate 3 rfl) | (apply ak; iterate 3 rfl) | (apply dH; iterate 4 rfl)
    | (apply aC (b := false); (iterate 2 rfl); exact aN; iterate 2 rfl) | (apply aU; iterate 4 rfl) | (apply kM; iterate 9 rfl)
    | ((apply dP; rfl; exact saA; (iterate 5 rfl); (focus (constructor <;> (first | (simp; done) | (simp; omega))))); intro _)
    | apply EL.nil | (apply EC.f0; rfl)
    | (with_reducible first | apply EK.nc | apply EC.seq | apply EC.r0 | apply EC.k0 | apply EC.label | apply EC.b0 | apply EC.x0 | apply EC.ret | apply EK.n0 | apply EK.s0 | apply EK.aA | apply EK.aj | apply EK.ah))
  refine EK.le (Le.freeze (pre := []) rfl) ?_
  refine EK.Ej rfl rfl ?_ rfl
  rw [show dIs (lK a b 16) ++ [.v (.int .i64 (kK a b 16 : Int))] = dIs (lK a b 16 ++ [kK a b 16]) by rw [← uf]; rfl]
  (exact RL.a)
def kQ (a b : List Nat) : Nat → Nat
 | 0 => 0
 | i + 1 => if a.getD i 0 < kQ a b i + b.getD i 0 then 1 else 0
def Ae (a b : List Nat) (i : Nat) : Nat := if a.getD i 0 < kQ a b i + b.getD i 0 then a.getD i 0 + 65536 - kQ a b i - b.getD i 0 else a.getD i 0 - kQ a b i - b.getD i 0
def jR (a b : List Nat) (i : Nat) : List Nat := (List.range i).map (Ae a b)
theorem uQ (a b : List Nat) (i : Nat) : jR a b (i + 1) = jR a b i ++ [Ae a b i] := by simp [jR, List.range_succ]
theorem lU (a b : List Nat) (i : Nat) : (jR a b i).length = i := by simp [jR]
theorem rG (a b : List Nat) : ∀ i, kQ a b i ≤ 1
 | 0 => by simp [kQ]
 | i + 1 => by rw [kQ]; split <;> omega
theorem Gj (a b : List Nat) (ha : ∀ j, a.getD j 0 < 65536) (hb : ∀ j, b.getD j 0 < 65536) (i : Nat) : ∀ x ∈ jR a b i, x < 65536 := fun x hx => by
 obtain ⟨j, _, rfl⟩ := Lh.1 hx
 have := rG a b j
 have := ha j
 have := hb j
 unfold Ae
 split <;> omega
theorem Bq (a b : List Nat) (hA : ∀ j, a.getD j 0 < 65536) (hB : ∀ j, b.getD j 0 < 65536) (ha : a.length = 16) (hb : b.length = 16) : ∀ i, i ≤ 16 → Wd.le 65536 (jR a b i) + Wd.le 65536 (b.take i) = Wd.le 65536 (a.take i) + 65536 ^ i * kQ a b i
 | 0, _ => by simp [jR, kQ, Wd.le]
 | i + 1, h => by
  have ih := Bq a b hA hB ha hb i (by omega)
  have := rG a b i
  rw [uQ, fK, lU, jl _ a i (by omega), jl _ b i (by omega), kQ, Nu]
  simp only [Wd.le, Nat.mul_zero, Oh]
  unfold Ae
  have hx := hA i
  have hy := hB i
  generalize a.getD i 0 = x at *
  generalize b.getD i 0 = y at *
  generalize kQ a b i = c at *
  have key : ∀ d e : Nat, d + y + c = x + 65536 * e → 65536 ^ i * d + 65536 ^ i * y + 65536 ^ i * c = 65536 ^ i * x + 65536 ^ i * 65536 * e := fun d e h => by
   rw [Ou, ← MG, ← MG, ← MG, h]
  split
  ·
   have := key (x + 65536 - c - y) 1 (by omega)
   omega
  ·
   have := key (x - c - y) 0 (by omega)
   omega
theorem Jo (a b : List Nat) (ha : a.length = 16) (hb : b.length = 16) (hA : ∀ j, a.getD j 0 < 65536) (hB : ∀ j, b.getD j 0 < 65536) : Fn 76 [.sl 1 (dIs a), .sl 1 (dIs b)] (· = .val (.sl 1 (dIs (jR a b 16)))) := by
 refine Fn.walk 43 Tryz.func76 rfl Tryz.ntmps76 (by simp) fun X => ?_
 repeat
  (first
   | (apply aB; iterate 3 rfl) | (apply ak; iterate 3 rfl) | (apply aU; iterate 4 rfl) | apply EL.nil
   | (with_reducible first | apply EK.nc | apply EC.seq | apply EC.r0 | apply EC.k0 | apply EC.label | apply EC.b0 | apply EC.x0 | apply EC.ret | apply EK.n0 | apply EK.s0 | apply EK.aA | apply EK.aj | apply EK.ah))
 apply F6 (n := (dIs a).length) (y' := 8)
 ·
  rw [fH, ha]
  exact ⟨by decide, by decide⟩
 iterate 5 rfl
 intro sv
 rw [show List.replicate (dIs a).length (D.v (.int .i64 0)) = dIs (jR a b 0 ++ List.replicate (16 - 0) 0) by rw [fH, ha]; exact CJ 16]
 repeat
  (first
   | (apply ak; iterate 3 rfl) | apply EL.nil
   | (with_reducible first | apply EK.nc | apply EC.seq | apply EC.r0 | apply EC.k0 | apply EC.label | apply EC.b0 | apply EC.x0 | apply EC.ret | apply EK.n0 | apply EK.s0 | apply EK.aA | apply EK.aj | apply EK.ah))
 refine EC.loop (ι := {i : Nat // i ≤ 16})
  (fun i => ⟨[(7, .val (.v (.int .i64 (i.1 : Int)))), (6, .val (.v (.int .i64 (kQ a b i.1 : Int)))), (5, .val (.v sv)), (1, .val (.sl 1 (dIs b))), (0, .val (.sl 1 (dIs a)))], [.row sv 3 1 (dIs (jR a b i.1 ++ List.replicate (16 - i.1) 0))], []⟩)
  (fun i => 16 - i.1) ⟨0, by omega⟩ ?_ ?_
 · exact Le.kp
 rintro ⟨i, hi⟩
 dsimp only at hi ⊢
 by_cases hlt : i < 16
 ·
  have hx : (dIs a)[i]? = some (.v (i64 (a.getD i 0))) := by rw [jm (by omega), Lr, KA (by omega)]; rfl
  have hy : (dIs b)[i]? = some (.v (i64 (b.getD i 0))) := by rw [jm (by omega), Lr, KA (by omega)]; rfl
  have g1 := hA i
  have g2 := hB i
  have hc := rG a b i
  have hO := uQ a b i
  have hOl : (jR a b i).length = i := lU a b i
  have hD : Ae a b i = if a.getD i 0 < kQ a b i + b.getD i 0 then a.getD i 0 + 65536 - kQ a b i - b.getD i 0 else a.getD i 0 - kQ a b i - b.getD i 0 := rfl
  have hC : kQ a b (i + 1) = if a.getD i 0 < kQ a b i + b.getD i 0 then 1 else 0 := rfl
  have hst : (jR a b i ++ List.replicate (16 - i) 0).set i (Ae a b i) = jR a b (i + 1) ++ List.replicate (16 - (i + 1)) 0 := by
   rw [MX _ _ (by omega), hOl, Oi, show 16 - i = (16 - (i + 1)) + 1 by omega, Ny, NW, hO, KR]
   rfl
  have hold : (dIs (jR a b i ++ List.replicate (16 - i) 0))[i]? = some (.v (i64 0)) := by
   rw [jm (by rw [Lu, MF]; omega)]
   congr 3
   rw [NQ (by omega), List.getElem_replicate]
  have hrl : (jR a b i ++ List.replicate (16 - i) 0).length = 16 := by rw [Lu, MF, hOl]; omega
  generalize hO' : jR a b (i + 1) ++ List.replicate (16 - (i + 1)) 0 = O' at hst
  generalize hC' : kQ a b (i + 1) = C' at hC
  generalize Ae a b i = d at hst hD
  generalize kQ a b i = c at hc hD hC
  generalize jR a b i ++ List.replicate (16 - i) 0 = O at hst hold hrl
  generalize a.getD i 0 = x at hx g1 hD hC
  generalize b.getD i 0 = y at hy g2 hD hC
  clear hO hOl
  by_cases hb : x < c + y
  ·
   rw [if_pos hb] at hD hC
   have hd : ((x : Int) - (c : Int) - (y : Int) + 65536) = (d : Int) := by omega
   repeat
    (first
     | (apply aB; iterate 3 rfl) | (apply ak; iterate 3 rfl) | (apply bP; iterate 5 rfl)
     | (apply aC (b := true); (iterate 2 rfl); exact aN; iterate 2 rfl) | (apply dQ; (iterate 3 rfl); (focus omega); (focus omega); iterate 2 rfl)
     | (apply aU; iterate 4 rfl)
     | (apply dh; (iterate 4 rfl); exact ixA; iterate 2 rfl)
     | (apply bY; rfl; exact I.a; (iterate 2 rfl); (focus (first | assumption | omega | (constructor <;> (first | (simp; done) | (simp; omega))))); iterate 2 rfl) | apply EL.nil
     | (apply EC.t0; rfl)
     | (with_reducible first | apply EK.nc | apply EC.seq | apply EC.r0 | apply EC.k0 | apply EC.label | apply EC.b0 | apply EC.x0 | apply EC.ret | apply EK.n0 | apply EK.s0 | apply EK.aA | apply EK.aj | apply EK.ah))
   rw [hd]
   repeat
    (first
     | (apply dw (k := i) (off := 0) (d := .v (i64 0)) (d'' := .v (i64 d)); rfl; exact .z; exact ⟨by omega, hold⟩; iterate 4 rfl) | (apply aB; iterate 3 rfl)
     | (apply ak; iterate 3 rfl) | (apply dQ; (iterate 3 rfl); (focus omega); (focus omega); iterate 2 rfl) | apply EL.nil
     | (with_reducible first | apply EK.nc | apply EC.seq | apply EC.r0 | apply EC.k0 | apply EC.label | apply EC.b0 | apply EC.x0 | apply EC.ret | apply EK.n0 | apply EK.s0 | apply EK.aA | apply EK.aj | apply EK.ah))
   refine EK.again ⟨i + 1, by omega⟩ (by dsimp only; omega) ?_
   dsimp only
   rw [xG, hst, hO', hC', hC]
   simp only [Ls]
   exact Le.kp
  ·
   rw [if_neg hb] at hD hC
   have hd : ((x : Int) - (c : Int) - (y : Int)) = (d : Int) := by omega
   repeat
    (first
     | (apply aB; iterate 3 rfl) | (apply ak; iterate 3 rfl) | (apply bP; iterate 5 rfl)
     | (apply aC (b := true); (iterate 2 rfl); exact aN; iterate 2 rfl) | (apply aC (b := false); (iterate 2 rfl); exact aN; iterate 2 rfl)
     | (apply dQ; (iterate 3 rfl); (focus omega); (focus omega); iterate 2 rfl) | (apply aU; iterate 4 rfl)
     | (apply dh; (iterate 4 rfl); exact ixA; iterate 2 rfl)
     | (apply bY; rfl; exact I.a; (iterate 2 rfl); (focus (first | assumption | omega | (constructor <;> (first | (simp; done) | (simp; omega))))); iterate 2 rfl) | apply EL.nil
     | (apply EC.t0; rfl) | (apply EC.f0; rfl)
     | (with_reducible first | apply EK.nc | apply EC.seq | apply EC.r0 | apply EC.k0 | apply EC.label | apply EC.b0 | apply EC.x0 | apply EC.ret | apply EK.n0 | apply EK.s0 | apply EK.aA | apply EK.aj | apply EK.ah))
   rw [hd]
   repeat
    (first
     | (apply dw (k := i) (off := 0) (d := .v (i64 0)) (d'' := .v (i64 d)); rfl; exact .z; exact ⟨by omega, hold⟩; iterate 4 rfl) | (apply aB; iterate 3 rfl)
     | (apply ak; iterate 3 rfl) | (apply dQ; (iterate 3 rfl); (focus omega); (focus omega); iterate 2 rfl) | apply EL.nil
     | (with_reducible first | apply EK.nc | apply EC.seq | apply EC.r0 | apply EC.k0 | apply EC.label | apply EC.b0 | apply EC.x0 | apply EC.ret | apply EK.n0 | apply EK.s0 | apply EK.aA | apply EK.aj | apply EK.ah))
   refine EK.again ⟨i + 1, by omega⟩ (by dsimp only; omega) ?_
   dsimp only
   rw [xG, hst, hO', hC', hC]
   simp only [Ls]
   exact Le.kp
 ·
  have : i = 16 := by omega
  subst this
  rw [Oi, Nz, KU]
  repeat
   (first
    | (apply aB; iterate 3 rfl) | (apply ak; iterate 3 rfl) | (apply aC (b := false); (iterate 2 rfl); exact aN; iterate 2 rfl)
    | (apply aU; iterate 4 rfl) | apply EL.nil | (apply EC.f0; rfl)
    | (with_reducible first | apply EK.nc | apply EC.seq | apply EC.r0 | apply EC.k0 | apply EC.label | apply EC.b0 | apply EC.x0 | apply EC.ret | apply EK.n0 | apply EK.s0 | apply EK.aA | apply EK.aj | apply EK.ah))
  refine EK.le (Le.freeze (pre := []) rfl) ?_
  refine EK.Ej rfl rfl ?_ rfl
  (exact RL.a)
theorem Jp (ls ms : List Nat) (hl : ls.length = 16) (hm : ms.length = 16) (h1 : ∀ x ∈ ls, x < 65536) (h2 : ∀ x ∈ ms, x < 65536) :
  Fn 72 [.sl 1 (dIs ls), .sl 1 (dIs ms)] (· = .val (.v (.int .i64 (mW (Wd.le 65536 ls) (Wd.le 65536 ms))))) := by
 have hla : (dIs ls).length = 16 := (fH ls).trans hl
 have hlb : (dIs ms).length = 16 := (fH ms).trans hm
 refine Fn.walk 45 Tryz.func72 rfl Tryz.ntmps72 (by simp) fun X => ?_
 repeat
  (first
   | (apply aB; iterate 3 rfl) | (apply ak; iterate 3 rfl) | (apply aC (b := false); (iterate 2 rfl); exact aN; iterate 2 rfl)
   | (apply dQ; (iterate 3 rfl); (focus omega); (focus omega); iterate 2 rfl) | (apply aU; iterate 4 rfl) | apply EL.nil
   | (apply EC.f0; rfl)
   | (with_reducible first | apply EK.nc | apply EC.seq | apply EC.r0 | apply EC.k0 | apply EC.label | apply EC.b0 | apply EC.x0 | apply EC.ret | apply EK.n0 | apply EK.s0 | apply EK.aA | apply EK.aj | apply EK.ah))
 refine EC.loop (ι := {p : Nat // p ≤ 16 ∧ ls.drop p = ms.drop p})
  (fun p => ⟨[(6, .val (.v (.int .i64 ((p.1 : Int) - 1)))), (1, .val (.sl 1 (dIs ms))), (0, .val (.sl 1 (dIs ls)))], [], []⟩)
  (fun p => p.1) ⟨16, by omega, by rw [LZ (by omega), LZ (by omega)]⟩ ?_ ?_
 ·
  rw [hla]
  exact Le.kp
 rintro ⟨p, hp, hd⟩
 dsimp only at hp ⊢
 rcases Nat.eq_zero_or_pos p with h0 | hpos
 ·
  subst h0
  have : ls = ms := by simpa using hd
  subst this
  repeat
   (first
    | (apply aB; iterate 3 rfl) | (apply ak; iterate 3 rfl) | (apply aC (b := false); (iterate 2 rfl); exact aN; iterate 2 rfl) | apply EL.nil
    | (apply EC.f0; rfl)
    | (with_reducible first | apply EK.nc | apply EC.seq | apply EC.r0 | apply EC.k0 | apply EC.label | apply EC.b0 | apply EC.x0 | apply EC.ret | apply EK.n0 | apply EK.s0 | apply EK.aA | apply EK.aj | apply EK.ah))
  refine EK.kC rfl rfl ?_
  unfold mW
  rw [if_neg (by omega), if_neg (by omega)]
 ·
  obtain ⟨q, rfl⟩ : ∃ q, p = q + 1 := ⟨p - 1, by omega⟩
  have hpl : q < ls.length := by omega
  have hpm : q < ms.length := by omega
  have hx : (dIs ls)[q]? = some (.v (i64 ls[q])) := jm hpl
  have hy : (dIs ms)[q]? = some (.v (i64 ms[q])) := jm hpm
  have eq1 : (((q + 1 : Nat) : Int) - 1) = (q : Int) := by omega
  rw [eq1]
  rcases MW ls[q] ms[q] with hc | hc | hc
  ·
   have hlt := pO ls ms (by omega) h1 h2 q hpl hd hc
   generalize ls[q] = x at hx hc
   generalize ms[q] = y at hy hc
   repeat
    (first
     | (apply aB; iterate 3 rfl) | (apply ak; iterate 3 rfl) | (apply bP; iterate 5 rfl)
     | (apply aC (b := true); (iterate 2 rfl); exact aN; iterate 2 rfl) | (apply aU; iterate 4 rfl)
     | (apply dh; (iterate 4 rfl); exact ixA; iterate 2 rfl) | apply EL.nil
     | (apply EC.t0; rfl)
     | (with_reducible first | apply EK.nc | apply EC.seq | apply EC.r0 | apply EC.k0 | apply EC.label | apply EC.b0 | apply EC.x0 | apply EC.ret | apply EK.n0 | apply EK.s0 | apply EK.aA | apply EK.aj | apply EK.ah))
   refine EK.kC rfl rfl ?_
   unfold mW
   rw [if_pos hlt]
  ·
   have hd' : ls.drop q = ms.drop q := by rw [LV hpl, LV hpm, hc, hd]
   generalize ls[q] = x at hx hc
   generalize ms[q] = y at hy hc
   repeat
    (first
     | (apply aB; iterate 3 rfl) | (apply ak; iterate 3 rfl) | (apply bP; iterate 5 rfl)
     | (apply aC (b := true); (iterate 2 rfl); exact aN; iterate 2 rfl) | (apply aC (b := false); (iterate 2 rfl); exact aN; iterate 2 rfl)
     | (apply dQ; (iterate 3 rfl); (focus omega); (focus omega); iterate 2 rfl) | (apply aU; iterate 4 rfl)
     | (apply dh; (iterate 4 rfl); exact ixA; iterate 2 rfl) | apply EL.nil
     | (apply EC.t0; rfl) | (apply EC.f0; rfl)
     | (with_reducible first | apply EK.nc | apply EC.seq | apply EC.r0 | apply EC.k0 | apply EC.label | apply EC.b0 | apply EC.x0 | apply EC.ret | apply EK.n0 | apply EK.s0 | apply EK.aA | apply EK.aj | apply EK.ah))
   refine EK.again ⟨q, by omega, hd'⟩ (by dsimp only; omega) ?_
   exact Le.kp
  ·
   have hlt := pO ms ls (by omega) h2 h1 q hpm (by simpa using hd.symm) hc
   generalize ls[q] = x at hx hc
   generalize ms[q] = y at hy hc
   repeat
    (first
     | (apply aB; iterate 3 rfl) | (apply ak; iterate 3 rfl) | (apply bP; iterate 5 rfl)
     | (apply aC (b := true); (iterate 2 rfl); exact aN; iterate 2 rfl) | (apply aC (b := false); (iterate 2 rfl); exact aN; iterate 2 rfl)
     | (apply aU; iterate 4 rfl)
     | (apply dh; (iterate 4 rfl); exact ixA; iterate 2 rfl) | apply EL.nil
     | (apply EC.t0; rfl) | (apply EC.f0; rfl)
     | (with_reducible first | apply EK.nc | apply EC.seq | apply EC.r0 | apply EC.k0 | apply EC.label | apply EC.b0 | apply EC.x0 | apply EC.ret | apply EK.n0 | apply EK.s0 | apply EK.aA | apply EK.aj | apply EK.ah))
   refine EK.kC rfl rfl ?_
   unfold mW
   rw [if_neg (by omega), if_pos hlt]
theorem nP (v : List UInt8) (hv : v.length = 32) : (bZ 2 16 v).length = 16 ∧ (∀ x ∈ bZ 2 16 v, x < 65536) ∧ Wd.le 65536 (bZ 2 16 v) = val v := ⟨jT 2 16 v, uY 2 16 v, vg (c := 2) (k := 16) (by rw [hv])⟩
theorem Gi (B o v u c : Nat) (hv : v < B) (hs : o + v = u + B * c) (hc : c ≤ 1) : o % B = (u + B - v) % B := by
 have : c = 0 ∨ c = 1 := by omega
 rcases this with rfl | rfl
 · rw [show u + B - v = o + B by omega, Nat.add_mod_right]
 · rw [show u + B - v = o by omega]
theorem getD_lt (ls : List Nat) (h : ∀ x ∈ ls, x < 65536) (j : Nat) : ls.getD j 0 < 65536 := by
 rw [Lr]
 cases e : ls[j]? with
 | none => decide
 | some x => exact h x (La e)
theorem FC (u v : List UInt8) (hu : u.length = 32) (hv : v.length = 32) : Fn 57 [.arr 32 u, .arr 32 v] (· = .val (.v (.int .i64 (mW (val u) (val v))))) := by
 have h1 := nR u hu
 have h2 := nR v hv
 obtain ⟨a1, a2, a3⟩ := nP u hu
 obtain ⟨b1, b2, b3⟩ := nP v hv
 have h3 := Jp _ _ a1 b1 a2 b2
 rw [a3, b3] at h3
 refine Fn.walk 10 Tryz.func57 rfl Tryz.ntmps57 (by simp) fun X => ?_
 repeat
  (first
   | (apply ak; iterate 3 rfl) | (apply aV; rfl; rfl; rfl; intro _) | apply EL.nil
   | (with_reducible first | apply EK.nc | apply EC.seq | apply EC.r0 | apply EC.k0 | apply EC.label | apply EC.b0 | apply EC.x0 | apply EC.ret | apply EK.n0 | apply EK.s0 | apply EK.aA | apply EK.aj | apply EK.ah))
 refine EC.draw 5 (by kernel_rfl) ?_
 simp only [Kv, Kz, Ku, Kw]
 repeat
  (first
   | (apply bV (h1); rfl; exact RL.a; exact enA; iterate 2 rfl) | (apply bV (h2); rfl; exact RL.a; exact enA; iterate 2 rfl)
   | (apply bV (h3); rfl; exact RL.a; exact enA; iterate 2 rfl) | (apply aG; rfl; exact I.a; iterate 4 rfl) | ((with_reducible apply EH.nil); rfl))
 repeat
  (first
   | (apply ak; iterate 3 rfl) | apply EL.nil
   | (with_reducible first | apply EK.nc | apply EC.seq | apply EC.r0 | apply EC.k0 | apply EC.label | apply EC.b0 | apply EC.x0 | apply EC.ret | apply EK.n0 | apply EK.s0 | apply EK.aA | apply EK.aj | apply EK.ah))
 refine EK.kC rfl rfl rfl
theorem Js (u v : List UInt8) (hu : u.length = 32) (hv : v.length = 32) : Fn 58 [.arr 32 u, .arr 32 v] (· = .val (.arr 32 (bJ (val u + val v)))) := by
 have h1 := nR u hu
 have h2 := nR v hv
 obtain ⟨a1, a2, a3⟩ := nP u hu
 obtain ⟨b1, b2, b3⟩ := nP v hv
 have h3 := Jq _ _ a1 b1 a2 b2
 have hs := CP _ _ a1 b1 16 (by omega)
 rw [ML (by omega), ML (by omega), a3, b3] at hs
 have hc := rO _ _ a2 b2 a1 b1 16 (by omega)
 have h4 := Cm (lK (bZ 2 16 u) (bZ 2 16 v) 16 ++ [kK (bZ 2 16 u) (bZ 2 16 v) 16]) (by rw [Lu, jd]; simp) (fun x hx => by
  rcases Lm.1 hx with hx | hx
  · exact H8 _ _ _ x hx
  · rw [List.mem_singleton.1 hx]; omega)
 rw [fK, jd] at h4
 simp only [Wd.le, Nat.mul_zero, Oh] at h4
 rw [hs] at h4
 clear hs hc
 generalize lK (bZ 2 16 u) (bZ 2 16 v) 16 ++ [kK (bZ 2 16 u) (bZ 2 16 v) 16] = os at h3 h4
 refine Fn.walk 11 Tryz.func58 rfl Tryz.ntmps58 (by simp) fun X => ?_
 repeat
  (first
   | (apply bW; rfl; rfl; rfl; intro _) | (apply aV; rfl; rfl; rfl; intro _) | apply EL.nil
   | (with_reducible first | apply EK.nc | apply EC.seq | apply EC.r0 | apply EC.k0 | apply EC.label | apply EC.b0 | apply EC.x0 | apply EC.ret | apply EK.n0 | apply EK.s0 | apply EK.aA | apply EK.aj | apply EK.ah))
 refine EC.draw 6 (by kernel_rfl) ?_
 simp only [Kv, Kz, Ku, Kw]
 repeat
  (first
   | (apply bV (h1); rfl; exact RL.a; exact enA; iterate 2 rfl) | (apply bV (h2); rfl; exact RL.a; exact enA; iterate 2 rfl)
   | (apply bV (h3); rfl; exact RL.a; exact enA; iterate 2 rfl) | (apply bV (h4); rfl; exact RL.a; exact enA; iterate 2 rfl)
   | (apply aG; rfl; exact I.a; iterate 4 rfl) | ((with_reducible apply EH.nil); rfl))
 repeat
  (first
   | (apply aO; rfl; exact saA; iterate 4 rfl) | apply EL.nil
   | (with_reducible first | apply EK.nc | apply EC.seq | apply EC.r0 | apply EC.k0 | apply EC.label | apply EC.b0 | apply EC.x0 | apply EC.ret | apply EK.n0 | apply EK.s0 | apply EK.aA | apply EK.aj | apply EK.ah))
 refine EK.l7 0 rfl rfl rfl rfl ?_ rfl
 (exact RL.a)
theorem Jr (u v : List UInt8) (hu : u.length = 32) (hv : v.length = 32) : Fn 59 [.arr 32 u, .arr 32 v] (· = .val (.arr 32 (bJ (val u + 256 ^ 32 - val v)))) := by
 have h1 := nR u hu
 have h2 := nR v hv
 obtain ⟨a1, a2, a3⟩ := nP u hu
 obtain ⟨b1, b2, b3⟩ := nP v hv
 have h3 := Jo _ _ a1 b1 (getD_lt _ a2) (getD_lt _ b2)
 have hs := Bq _ _ (getD_lt _ a2) (getD_lt _ b2) a1 b1 16 (by omega)
 rw [ML (by omega), ML (by omega), a3, b3, show (65536 : Nat) ^ 16 = 256 ^ 32 from rfl] at hs
 have hc := rG (bZ 2 16 u) (bZ 2 16 v) 16
 have hlt := Gj _ _ (getD_lt _ a2) (getD_lt _ b2) 16
 have h4 := Cm (jR (bZ 2 16 u) (bZ 2 16 v) 16) (by rw [lU]; omega) hlt
 have e : bJ (Wd.le 65536 (jR (bZ 2 16 u) (bZ 2 16 v) 16)) = bJ (val u + 256 ^ 32 - val v) := by
  have hvl := wz v
  rw [hv] at hvl
  exact rV _ _ (Gi _ _ _ _ _ hvl hs hc)
 rw [e] at h4
 clear e hs hc hlt
 generalize jR (bZ 2 16 u) (bZ 2 16 v) 16 = os at h3 h4
 refine Fn.walk 11 Tryz.func59 rfl Tryz.ntmps59 (by simp) fun X => ?_
 repeat
  (first
   | (apply bW; rfl; rfl; rfl; intro _) | (apply aV; rfl; rfl; rfl; intro _) | apply EL.nil
   | (with_reducible first | apply EK.nc | apply EC.seq | apply EC.r0 | apply EC.k0 | apply EC.label | apply EC.b0 | apply EC.x0 | apply EC.ret | apply EK.n0 | apply EK.s0 | apply EK.aA | apply EK.aj | apply EK.ah))
 refine EC.draw 6 (by kernel_rfl) ?_
 simp only [Kv, Kz, Ku, Kw]
 repeat
  (first
   | (apply bV (h1); rfl; exact RL.a; exact enA; iterate 2 rfl) | (apply bV (h2); rfl; exact RL.a; exact enA; iterate 2 rfl)
   | (apply bV (h3); rfl; exact RL.a; exact enA; iterate 2 rfl) | (apply bV (h4); rfl; exact RL.a; exact enA; iterate 2 rfl)
   | (apply aG; rfl; exact I.a; iterate 4 rfl) | ((with_reducible apply EH.nil); rfl))
 repeat
  (first
   | (apply aO; rfl; exact saA; iterate 4 rfl) | apply EL.nil
   | (with_reducible first | apply EK.nc | apply EC.seq | apply EC.r0 | apply EC.k0 | apply EC.label | apply EC.b0 | apply EC.x0 | apply EC.ret | apply EK.n0 | apply EK.s0 | apply EK.aA | apply EK.aj | apply EK.ah))
 refine EK.l7 0 rfl rfl rfl rfl ?_ rfl
 (exact RL.a)
theorem Dh (B u v : Nat) (hu : u < B) (hv : v < B) : (u + v) % B < v ↔ (u + v) % B < u := by
 by_cases h : u + v < B
 ·
  rw [Nc h]
  omega
 ·
  rw [Nat.mod_eq_sub_mod (by omega), Nc (by omega)]
  omega
theorem Au (y w : List UInt8) (hy : y.length = 32) (hw : w.length = 32) : val (bJ (val y + val w)) < val w ↔ val (bJ (val y + val w)) < val y := by
 rw [fV]
 exact Dh _ _ _ (by have := wz y; rw [hy] at this; exact this) (by have := wz w; rw [hw] at this; exact this)
section
variable {g N : Nat} {A : As} {os : List Obj} {a a2 w : List UInt8}
theorem Eh (h : RSt g A N os) (hN : N ≤ 1000000) (a : List UInt8) : FnM 56 [.v (ptr g), .arr 20 a] os (fun r os' => (∃ d1 d2 d3 d4, r = .val (.tup [.arr 20 d1, .v (.int .i64 d2), .arr 32 (A a).w, .bs d3, d4])) ∧ os' = os) :=
 FnM.mono (IQ h hN a) fun r os' ⟨⟨x, _, hi, _, hr⟩, ho⟩ => ⟨⟨x.a, x.n, x.cd, .sl 64 (x.sl.map aZ), by rw [hr]; unfold aI; rw [hi.w]⟩, ho⟩
theorem JH (h : RSt g A N os) (hN : N + 2 ≤ 1000000) (hx : (A a).w.length = 32) (hy : (A a2).w.length = 32) (hw : w.length = 32) : FnM 29 [.v (ptr g), .arr 20 a, .arr 20 a2, .arr 32 w] os (fun r os' => r = .val (.v (.bool (jK A a a2 w))) ∧ RSt g (mvA A a a2 w) (N + 2) os') := by
 have h1 := Eh h (by omega) a
 have h1b := Eh h (by omega) a2
 have h2 := FC (A a).w w hx hw
 have h3 := Js (A a2).w w hy hw
 have h4 := (kJ a a2).1
 have h5 := FC (bJ (val (A a2).w + val w)) (A a2).w (cu _) hy
 have hov2 := Au (A a2).w w hy hw
 have h6 := Jr (A a).w w hx hw
 refine FnM.walk 44 Tryz.func29 rfl Tryz.ntmps29 (by simp) fun X => ?_
 repeat
  (first
   | (apply aB; iterate 3 rfl) | (apply ak; iterate 3 rfl) | (apply aF; rfl; exact I.a; iterate 4 rfl) | (apply aV; rfl; rfl; rfl; intro _)
   | apply EL.nil | (with_reducible first | apply EK.nc | apply EC.seq | apply EC.r0))
 rename_i g5 g6 g7
 refine bD h1 [_, _, _] [] (KU _).symm rfl (au.refl _ _) (by intro _ _; simp [go_sem]) rfl rfl ?_
 rintro _ _ ⟨⟨d1, d2, d3, d4, rfl⟩, ho⟩
 rw [ho, KU]
 clear ho
 simp only [Kr, Kt]
 repeat
  (first
   | (apply ni; iterate 8 rfl) | (apply aB; iterate 3 rfl) | (apply aF; rfl; exact I.a; iterate 4 rfl)
   | (apply bW; rfl; rfl; rfl; intro _) | (apply aO; rfl; exact saA; iterate 4 rfl) | apply EL.nil
   | (with_reducible first | apply EK.nc | apply EC.seq | apply EC.r0))
 rename_i g9
 refine bD h1b [_, _, _, _] [] (KU _).symm rfl (au.refl _ _) (by intro _ _; simp [go_sem]) rfl rfl ?_
 rintro _ _ ⟨⟨d5, d6, d7, d8, rfl⟩, ho⟩
 rw [ho, KU]
 clear ho
 simp only [Kr, Kt]
 by_cases hlt : val (A a).w < val w
 ·
  have e1 : jK A a a2 w = false := by simp [jK, hlt]
  have e2 : mvA A a a2 w = A := by simp [mvA, e1]
  rw [e1, e2]
  rw [xJ hlt] at h2
  repeat
   (first
    | (apply fJ (h2); rfl; exact au.refl _ _; exact enA; iterate 2 rfl) | (apply ni; iterate 8 rfl) | (apply ak; iterate 3 rfl)
    | (apply aF; rfl; exact I.a; iterate 4 rfl) | (apply aC (b := true); (iterate 2 rfl); exact aN; iterate 2 rfl)
    | (apply bW; rfl; rfl; rfl; intro _) | (apply aO; rfl; exact saA; iterate 4 rfl) | apply EL.nil
    | (apply EC.t0; rfl) | (with_reducible first | apply EK.nc | apply EC.seq | apply EC.r0 | apply EC.ret | apply EK.aj))
  exact EK.bn os rfl rfl (by (repeat first | exact KQ _ | apply List.Sublist.cons_cons | apply List.Sublist.cons)) ⟨rfl, h.mono (by omega)⟩
 ·
  have hz := xK hlt
  generalize mW (val (A a).w) (val w) = z at h2 hz
  by_cases heq : a = a2
  ·
   subst heq
   have e1 : jK A a a w = true := by simp [jK, hlt]
   have e2 : mvA A a a w = A := by simp [mvA]
   rw [e1, e2]
   rw [beq_self_eq_true] at h4
   repeat
    (first
     | (apply fJ (h2); rfl; exact au.refl _ _; exact enA; iterate 2 rfl) | (apply dO; (iterate 2 rfl); exact h4; iterate 2 rfl)
     | (apply ni; iterate 8 rfl) | (apply ak; iterate 3 rfl) | (apply aF; rfl; exact I.a; iterate 4 rfl)
     | (apply aC (b := false); (iterate 2 rfl); exact aN; iterate 2 rfl) | (apply bW; rfl; rfl; rfl; intro _)
     | (apply aO; rfl; exact saA; iterate 4 rfl) | apply EL.nil
     | (apply EC.t0; rfl) | (apply EC.f0; rfl) | (with_reducible first | apply EK.nc | apply EC.seq | apply EC.r0 | apply EC.k0 | apply EC.ret | apply EK.aj))
   exact EK.bn os rfl rfl (by (repeat first | exact KQ _ | apply List.Sublist.cons_cons | apply List.Sublist.cons)) ⟨rfl, h.mono (by omega)⟩
  ·
   rw [show (a == a2) = false by simpa using heq] at h4
   by_cases hov : val (bJ (val (A a2).w + val w)) < val w
   ·
    have e1 : jK A a a2 w = false := by simp [jK, heq, hov]
    have e2 : mvA A a a2 w = A := by simp [mvA, e1]
    rw [e1, e2]
    rw [xJ (hov2.1 hov)] at h5
    generalize bJ (val (A a2).w + val w) = s at h3 h5
    repeat
     (first
      | (apply fJ (h2); rfl; exact au.refl _ _; exact enA; iterate 2 rfl) | (apply dO; (iterate 2 rfl); exact h4; iterate 2 rfl)
      | (apply fJ (h3); rfl; exact au.refl _ _; exact enA; iterate 2 rfl) | (apply fJ (h5); rfl; exact au.refl _ _; exact enA; iterate 2 rfl)
      | (apply ni; iterate 8 rfl) | (apply ak; iterate 3 rfl) | (apply aF; rfl; exact I.a; iterate 4 rfl)
      | (apply aC (b := true); (iterate 2 rfl); exact aN; iterate 2 rfl) | (apply aC (b := false); (iterate 2 rfl); exact aN; iterate 2 rfl)
      | (apply bW; rfl; rfl; rfl; intro _) | (apply aO; rfl; exact saA; iterate 4 rfl) | apply EL.nil
      | (apply EC.t0; rfl) | (apply EC.f0; rfl)
      | (with_reducible first | apply EK.nc | apply EC.seq | apply EC.r0 | apply EC.k0 | apply EC.ret | apply EK.aj))
    exact EK.bn os rfl rfl (by (repeat first | exact KQ _ | apply List.Sublist.cons_cons | apply List.Sublist.cons)) ⟨rfl, h.mono (by omega)⟩
   ·
    have e1 : jK A a a2 w = true := by simp [jK, hlt, hov]
    have e2 : mvA A a a2 w = (A.upd a {A a with w := bJ (val (A a).w + 256 ^ 32 - val w)}).upd a2 {A a2 with w := bJ (val (A a2).w + val w)} := by simp [mvA, e1, heq]
    rw [e1, e2]
    have hz2 := xK fun h => hov (hov2.2 h)
    generalize mW (val (bJ (val (A a2).w + val w))) (val (A a2).w) = z2 at h5 hz2
    generalize bJ (val (A a).w + 256 ^ 32 - val w) = df at h6
    generalize bJ (val (A a2).w + val w) = s at h3 h5
    have h7 := iT (a := a) h (by omega) df
    repeat
     (first
      | (apply fJ (h2); rfl; exact au.refl _ _; exact enA; iterate 2 rfl) | (apply dO; (iterate 2 rfl); exact h4; iterate 2 rfl)
      | (apply fJ (h3); rfl; exact au.refl _ _; exact enA; iterate 2 rfl) | (apply fJ (h5); rfl; exact au.refl _ _; exact enA; iterate 2 rfl)
      | (apply ni; iterate 8 rfl) | (apply aF; rfl; exact I.a; iterate 4 rfl) | (apply aC (b := false); (iterate 2 rfl); exact aN; iterate 2 rfl)
      | (apply bW; rfl; rfl; rfl; intro _) | (apply aO; rfl; exact saA; iterate 4 rfl) | apply EL.nil
      | (apply EC.f0; rfl) | (with_reducible first | apply EK.nc | apply EC.seq | apply EC.r0 | apply EC.k0))
    refine EC.le (Le.perm (KY (l₁ := [_, _, _, _, _, _]))) ?_
    refine EC.dL 6 [0, 1, 2, 3, 4] [5] os _ (by kernel_rfl) (by kernel_rfl) rfl ?_
    simp only [aQ, KJ, KN, KD, KF]
    repeat
     (first
      | (apply bV (h6); rfl; exact au.refl _ _; exact enA; iterate 2 rfl) | (apply aJ; iterate 3 rfl) | (apply aG; rfl; exact I.a; iterate 4 rfl))
    refine EM.nil ?_
    repeat (first | rw [Kr] | rw [Kt])
    refine CH.dS (rest := []) h7 rfl rfl (au.refl _ _) (by intro _ _; simp [go_sem]) rfl rfl ?_
    rintro _ os2 ⟨rfl, hS2⟩
    try simp only [St.put]
    repeat (first | rw [Kr] | rw [Kt])
    refine CH.nil ?_
    try simp only [Ku, Kw]
    refine EL.le (Le.perm (KY (l₂ := [_, _, _, _, _, _]))) ?_
    simp only [Kr, Kt]
    have h8 := iT (a := a2) hS2 (by omega) s
    rw [show (A.upd a {A a with w := df}) a2 = A a2 from if_neg heq] at h8
    repeat
     (first
      | (apply aB; iterate 3 rfl) | (apply aF; rfl; exact I.a; iterate 4 rfl) | apply EL.nil
      | (with_reducible first | apply EK.nc | apply EC.seq | apply EC.r0))
    refine bD h8 [_, _, _, _, _, _] [] (KU _).symm rfl (au.refl _ _) (by intro _ _; simp [go_sem]) rfl rfl ?_
    rintro _ os3 ⟨rfl, hS3⟩
    rw [KU]
    simp only [Kr, Kt]
    repeat
     (first
      | (apply ak; iterate 3 rfl) | apply EL.nil | (with_reducible first | apply EK.nc | apply EC.seq | apply EC.r0 | apply EC.ret))
    exact EK.bn os3 rfl rfl (by (repeat first | exact KQ _ | apply List.Sublist.cons_cons | apply List.Sublist.cons)) ⟨rfl, hS3⟩
end
end E
end Go.Proofs.YtkhjanjlcdhdcaaGreat
