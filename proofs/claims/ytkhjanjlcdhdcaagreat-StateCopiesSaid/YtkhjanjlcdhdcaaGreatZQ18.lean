/-
 Merged: lemmas of this claim.
 Conditions: none.
-/
import Derived.Test.YtkhjanjlcdhdcaaGreatZQ11
import Derived.Test.YtkhjanjlcdhdcaaGreatZQ17
import Derived.Laws.BitsAllLaws
import Derived.Test.YtkhjanjlcdhdcaaGreatZQ13
import Derived.Test.YtkhjanjlcdhdcaaGreatZQ16
import Derived.Test.YtkhjanjlcdhdcaaGreatZQ0
namespace Go.Proofs.YtkhjanjlcdhdcaaGreat
set_option linter.unusedVariables false
set_option maxRecDepth 20000
set_option maxHeartbeats 8000000
open Go.RowKit Mono Rlp Wd
namespace E
theorem vV (n : Nat) (h : n < 18446744073709551616) : IntKind.u64.wrap (n : Int) = (n : Int) := by
 rw [IntKind.wrap_u64]
 exact Int.emod_eq_of_lt (by omega) (by omega)
theorem FT (T : TypeId) (b s : Nat) (hs : s < 64) (hb : b * 2 ^ s < 18446744073709551616) : ∀ w, (binOp .shl T (u64 b) (.int .i64 (s : Int))).run Tryz.prog w = .ok (u64 (b * 2 ^ s)) w := fun w => by
 have h1 : ¬ ((s : Int) < 0) := by omega
 have h2 : min ((s : Int)).toNat IntKind.u64.bits = s := by
  rw [L6]
  exact MN (Nr hs)
 have h3 : IntKind.u64.wrap ((b : Int) * 2 ^ s) = ((b * 2 ^ s : Nat) : Int) := by
  have : ((b : Int) * 2 ^ s) = ((b * 2 ^ s : Nat) : Int) := by simp
  rw [this]
  exact vV _ hb
 show (Op.shift .shl .u64 (b : Int) .i64 (s : Int)).run Tryz.prog w = _
 unfold Op.shift
 rw [if_neg h1]
 simp only [h2, h3, KX]
theorem FQ (T : TypeId) (b s : Nat) (hs : s < 64) : ∀ w, (binOp .shr T (u64 b) (.int .i64 (s : Int))).run Tryz.prog w = .ok (u64 (b / 2 ^ s)) w := fun w => by
 have h1 : ¬ ((s : Int) < 0) := by omega
 have h2 : min ((s : Int)).toNat IntKind.u64.bits = s := by
  rw [L6]
  exact MN (Nr hs)
 have h3 : (b : Int).fdiv (2 ^ s) = ((b / 2 ^ s : Nat) : Int) := by
  rw [Int.fdiv_eq_ediv_of_nonneg _ (Int.le_of_lt (Int.pow_pos (by decide)))]
  simp
 show (Op.shift .shr .u64 (b : Int) .i64 (s : Int)).run Tryz.prog w = _
 unfold Op.shift
 rw [if_neg h1]
 simp only [h2, h3, KX]
theorem Iz (T : TypeId) (x y : Nat) (hx : x < 18446744073709551616) (hy : y < 18446744073709551616) : ∀ w, (binOp .or T (u64 x) (u64 y)).run Tryz.prog w = .ok (u64 (x ||| y)) w := fun w => by
 show Result.ok (Value.int .u64 (bits .or .u64 (x : Int) (y : Int))) w = _
 rw [u64_or_nat x y hx hy]
theorem wL (T : TypeId) (k : Nat) (hk : k < 256) : ∀ w, (binOp .quo T (.int .i64 (k : Int)) (.int .i64 8)).run Tryz.prog w = .ok (.int .i64 ((k / 8 : Nat) : Int)) w := fun w => by
 show (Op.intDiv .quo .i64 (k : Int) 8).run Tryz.prog w = _
 unfold Op.intDiv
 rw [if_neg (by decide)]
 have : IntKind.i64.wrap ((k : Int).tdiv 8) = ((k / 8 : Nat) : Int) := by
  have e : (k : Int).tdiv 8 = ((k / 8 : Nat) : Int) := by
   rw [Int.tdiv_eq_ediv_of_nonneg (by omega)]
   simp
  rw [e]
  exact IntWalk.i64_in _ ⟨by omega, by omega⟩
 simp only [this, KX]
theorem wK (T : TypeId) (k : Nat) : ∀ w, (binOp .rem T (.int .i64 (k : Int)) (.int .i64 8)).run Tryz.prog w = .ok (.int .i64 ((k % 8 : Nat) : Int)) w := fun w => by
 show (Op.intDiv .rem .i64 (k : Int) 8).run Tryz.prog w = _
 unfold Op.intDiv
 rw [if_neg (by decide)]
 have e : (k : Int).tmod 8 = ((k % 8 : Nat) : Int) := by
  rw [Int.tmod_eq_emod_of_nonneg (by omega)]
  simp
 simp only [e, KX]
theorem Ez (n : Nat) : bv (UInt8.ofNat n) = .int .u8 ((n % 256 : Nat) : Int) := by
 unfold bv
 rw [show (UInt8.ofNat n).toNat = n % 256 from rfl]
theorem nV (v : List UInt8) (hv : v.length = 32) : Fn 67 [.arr 32 v] (· = .val (dLs (aX 8 4 v))) := by
 refine Fn.walk 28 Tryz.func67 rfl Tryz.ntmps67 (by simp) fun X => ?_
 repeat (refine stp ?_; intros)
 rename_i g1 g2 g3
 refine EC.loop (ι := {i : Nat // i ≤ 32})
  (fun i => ⟨[(8, .val (.v (.int .i64 (i.1 : Int)))), (7, .val (.arr 32 v)), (3, .val (.v (.pointer (some ⟨g3, 0, none⟩)))), (2, .val (.v (.pointer (some ⟨g2, 0, none⟩))))], [.var g3 125 (dLs (chunks 8 (msk v i.1) 4)), .var g2 125 (dLs [0, 0, 0, 0]), .var g1 34 (.arr 32 v)], []⟩)
  (fun i => 32 - i.1) ⟨0, by omega⟩ ?_ ?_
 ·
  rw [JQ v hv]
  exact Le.kp
 rintro ⟨i, hi⟩
 dsimp only at hi ⊢
 by_cases hlt : i < 32
 ·
  have hb : v[((i : Int)).toNat]? = some (v[i]'(by omega)) := by rw [L6]; exact KJ _
  have hs := DC v hv i hlt
  have hz := Dz v i hlt
  have hcs := zx 8 4 (by decide) (msk v i) (31 - i) (v[i]'(by omega)).toNat hz (by omega)
  rw [← hs] at hcs
  obtain ⟨q, hq⟩ := DF v i hlt
  have hlim : ∀ x ∈ chunks 8 (msk v i) 4, x < 256 ^ 8 := nY 8 _ 4 fun d hd => by
   unfold msk at hd
   rcases LH.1 hd with hd | hd
   · rw [(List.mem_replicate.1 hd).2]; decide
   · exact wX _ d (List.mem_of_mem_drop hd)
  have hlen := iM 8 (msk v i) 4
  have hlim' : ∀ x ∈ chunks 8 (msk v (i + 1)) 4, x < 256 ^ 8 := nY 8 _ 4 fun d hd => by
   unfold msk at hd
   rcases LH.1 hd with hd | hd
   · rw [(List.mem_replicate.1 hd).2]; decide
   · exact wX _ d (List.mem_of_mem_drop hd)
  generalize hM : chunks 8 (msk v (i + 1)) 4 = M' at hcs hlim'
  generalize chunks 8 (msk v i) 4 = M at hcs hq hlim hlen
  have hk8 : (31 - i) / 8 < M.length := by omega
  have hbb : (v[i]'(by omega)).toNat < 256 := (v[i]'(by omega)).toNat_lt
  generalize (v[i]'(by omega)) = b at hb hcs hbb
  have hgd : M.getD ((31 - i) / 8) 0 = M[(31 - i) / 8] := by simp [List.getD, hk8]
  have hget := uh (pz hk8)
  have hpow : 256 ^ ((31 - i) % 8) = 2 ^ (8 * ((31 - i) % 8)) := by rw [Nat.pow_mul]
  have hpow' : 256 ^ ((31 - i) % 8 + 1) = 2 ^ (8 * ((31 - i) % 8) + 8) := by rw [show 8 * ((31 - i) % 8) + 8 = 8 * ((31 - i) % 8 + 1) by omega, Nat.pow_mul]
  have hbs : b.toNat * 2 ^ (8 * ((31 - i) % 8)) < 2 ^ (8 * ((31 - i) % 8) + 8) := by
   rw [Nat.pow_add, Nz]
   exact Nat.mul_lt_mul_of_pos_left hbb (Nat.two_pow_pos _)
  have hle : 2 ^ (8 * ((31 - i) % 8) + 8) ≤ 18446744073709551616 := by
   rw [show (18446744073709551616 : Nat) = 2 ^ 64 from rfl]
   exact Nat.pow_le_pow_right (by decide) (by omega)
  have hMk := hlim _ (LW hk8)
  have hor := Dw (8 * ((31 - i) % 8) + 8) (M[(31 - i) / 8]) (b.toNat * 2 ^ (8 * ((31 - i) % 8))) q (by rw [← hgd, hq, hpow']) hbs
  have ek : ((31 : Int) - (i : Int)) = ((31 - i : Nat) : Int) := by omega
  have hm8 : (31 - i) % 8 < 8 := Nat.mod_lt _ (by decide)
  have hoff : 0 + ((((31 - i) / 8 : Nat) : Int)).toNat * 1 = (31 - i) / 8 := by omega
  have hk : (0 : Int) ≤ (((31 - i) / 8 : Nat) : Int) ∧ ((((31 - i) / 8 : Nat) : Int)).toNat < 4 := ⟨by omega, by omega⟩
  have r1 := gB rfl (wL 3 (31 - i) (by omega))
  have r2 := gB rfl (wK 3 (31 - i))
  have r3 := gB rfl (FT 123 b.toNat (8 * ((31 - i) % 8)) (by omega) (by omega))
  have r4 := gB rfl (Iz 123 (M[(31 - i) / 8]) (b.toNat * 2 ^ (8 * ((31 - i) % 8))) (by exact hMk) (by omega))
  have c1 := kF (T := 5) (U := 123) (k := .u8) (k' := .u64) Tryz.underlying5 Tryz.underlying123 (b.toNat : Int) (b.toNat : Int) (vV _ (by omega))
  have e8 : ((8 * ((31 - i) % 8) : Nat) : Int) = 8 * (((31 - i) % 8 : Nat) : Int) := by omega
  rw [e8] at r3
  repeat
   (first
    | (apply zG; exact ⟨Tryz.underlying5, rfl⟩; exact ⟨by omega, hb⟩; iterate 5 rfl) | (refine stp ?_; intros))
  rw [ek]
  have hset := Io (u64 (M[(31 - i) / 8] ||| b.toNat * 2 ^ (8 * ((31 - i) % 8)))) (xs := M.map u64) (k := (31 - i) / 8) (by rw [KR]; exact hk8)
  have hM' : (M.map u64).set ((31 - i) / 8) (u64 (M[(31 - i) / 8] ||| b.toNat * 2 ^ (8 * ((31 - i) % 8)))) = M'.map u64 := by
   rw [hcs, hor, ← hgd, hpow, Nz (2 ^ _), List.map_set]
  rw [hM'] at hset
  refine EC.draw 11 (by kernel_rfl) ?_
  simp only [KG, KI, KF, KH]
  repeat
   (first
    | (refine dP (hrun := r1) (kk := ?_)) | (refine dP (hrun := r2) (kk := ?_))
    | (refine dP (hrun := r3) (kk := ?_)) | (refine dP (hrun := r4) (kk := ?_))
    | (apply aO; (iterate 3 rfl); exact hk; iterate 2 rfl) | (apply mJ; rfl; exact I0; rfl; (rw [hoff]; exact hget); iterate 2 rfl)
    | (apply Fz; rfl; exact c1; iterate 3 rfl) | (refine sth ?_; intros))
  repeat
   (first
    | (apply mG; (iterate 3 rfl); exact hk; iterate 2 rfl) | (apply AP; rfl; exact .z; rfl; rfl; (rw [hoff]; exact hset); rfl) | (refine stp ?_; intros))
  refine EK.again ⟨i + 1, by omega⟩ (by dsimp only; omega) ?_
  rw [hM]
  simp only [LM]
  exact Le.kp
 ·
  have : i = 32 := by omega
  subst this
  rw [IV]
  repeat (refine stp ?_; intros)
  refine EK.jT 1 rfl rfl rfl rfl ?_ rfl
  (exact RL.a)
theorem AV (ls : List Nat) (hl : ls.length = 4) (i : Nat) (hi : i < 32) : ((bZ 8 ls).map UInt8.ofNat).reverse[i]? = some (UInt8.ofNat (ls.getD ((31 - i) / 8) 0 / 256 ^ ((31 - i) % 8))) := by
 have hlen : (bZ 8 ls).length = 32 := by rw [dw, hl]
 rw [List.getElem?_reverse (by rw [KR]; omega), KR, hlen, List.getElem?_map, jK 8 (by decide) ls _ (by omega), show 32 - 1 - i = 31 - i by omega]
 simp only [Og]
 congr 1
 apply UInt8.toNat_inj.1
 show _ % 256 % 256 = _ % 256
 rw [Nat.mod_mod]
theorem lM {α : Type} (l : List α) (z : α) (i n : Nat) (hl : l.length = n) (hi : i < n) : (l.take i ++ List.replicate (n - i) z).set i l[i] = l.take (i + 1) ++ List.replicate (n - (i + 1)) z := by
 rw [Nl _ _ (by rw [LV]; omega), LV, MN (by omega), Ov, show n - i = (n - (i + 1)) + 1 by omega, NK, Oe, LU (by omega), Lc]
 rfl
theorem lT (ls : List Nat) (hl : ls.length = 4) (h1 : ∀ x ∈ ls, x < 18446744073709551616) : Fn 70 [dLs ls] (· = .val (.arr 32 (aQ (Wd.le 18446744073709551616 ls)))) := by
 have hW := mM 8 ls (by rw [hl]) h1
 rw [show (18446744073709551616 : Nat) = 256 ^ 8 from rfl, ← hW]
 have hWl : (((bZ 8 ls).map UInt8.ofNat).reverse).length = 32 := by rw [MZ, KR, dw, hl]
 have hget := AV ls hl
 generalize ((bZ 8 ls).map UInt8.ofNat).reverse = W at hWl hget
 clear hW
 refine Fn.walk 24 Tryz.func70 rfl Tryz.ntmps70 (by simp) fun X => ?_
 repeat (refine stp ?_; intros)
 rename_i g1 g2 g3
 refine EC.loop (ι := {i : Nat // i ≤ 32})
  (fun i => ⟨[(6, .val (.v (.int .i64 (i.1 : Int)))), (3, .val (.v (.pointer (some ⟨g3, 0, none⟩)))), (2, .val (.v (.pointer (some ⟨g2, 0, none⟩)))), (1, .val (.v (.pointer (some ⟨g1, 0, none⟩))))], [.var g3 34 (.arr 32 (W.take i.1 ++ List.replicate (32 - i.1) 0)), .var g2 34 (.arr 32 zero32), .var g1 125 (dLs ls)], []⟩)
  (fun i => 32 - i.1) ⟨0, by omega⟩ ?_ ?_
 · exact Le.kp
 rintro ⟨i, hi⟩
 dsimp only at hi ⊢
 by_cases hlt : i < 32
 ·
  have hk8 : (31 - i) / 8 < ls.length := by omega
  have hgd : ls.getD ((31 - i) / 8) 0 = ls[(31 - i) / 8] := by simp [List.getD, hk8]
  have hWi := hget i hlt
  rw [hgd] at hWi
  obtain ⟨hWlt, hWi⟩ := KZ.1 hWi
  have hlv := uh (pz hk8)
  have hx := h1 _ (LW hk8)
  have hpow : 256 ^ ((31 - i) % 8) = 2 ^ (8 * ((31 - i) % 8)) := by rw [Nat.pow_mul]
  have hm8 : (31 - i) % 8 < 8 := Nat.mod_lt _ (by decide)
  have ek : ((31 : Int) - (i : Int)) = ((31 - i : Nat) : Int) := by omega
  have hoff : 0 + ((((31 - i) / 8 : Nat) : Int)).toNat * 1 = (31 - i) / 8 := by omega
  have hoffi : 0 + ((i : Int)).toNat * 1 = i := by omega
  have hk : (0 : Int) ≤ (((31 - i) / 8 : Nat) : Int) ∧ ((((31 - i) / 8 : Nat) : Int)).toNat < 4 := ⟨by omega, by omega⟩
  have hki : (0 : Int) ≤ (i : Int) ∧ ((i : Int)).toNat < 32 := ⟨by omega, by omega⟩
  have r1 := gB rfl (wL 3 (31 - i) (by omega))
  have r2 := gB rfl (wK 3 (31 - i))
  have r3 := gB rfl (FQ 123 (ls[(31 - i) / 8]) (8 * ((31 - i) % 8)) (by omega))
  have c1 : ∀ w, (Go.convert 123 5 (u64 (ls[(31 - i) / 8] / 2 ^ (8 * ((31 - i) % 8))))).run Tryz.prog w = .ok (bv W[i]) w := by
   have := kF (T := 123) (U := 5) (k := .u64) (k' := .u8) Tryz.underlying123 Tryz.underlying5 ((ls[(31 - i) / 8] / 2 ^ (8 * ((31 - i) % 8)) : Nat) : Int) (((ls[(31 - i) / 8] / 2 ^ (8 * ((31 - i) % 8)) : Nat) % 256 : Nat) : Int) (by rw [IntKind.wrap_u8]; simp)
   rw [hWi, Ez, hpow]
   exact this
  have e8 : ((8 * ((31 - i) % 8) : Nat) : Int) = 8 * (((31 - i) % 8 : Nat) : Int) := by omega
  rw [e8] at r3
  have hst := lM W 0 i 32 hWl hlt
  repeat (refine stp ?_; intros)
  rw [ek]
  repeat
   (first
    | (refine bM (hrun := r1) (kk := ?_)) | (refine bM (hrun := r2) (kk := ?_))
    | (refine bM (hrun := r3) (kk := ?_)) | (apply mG; (iterate 3 rfl); (first | exact hk | exact hki); iterate 2 rfl)
    | (apply EX; rfl; (first | exact I0 | exact I1 | exact I2); rfl; (rw [hoff]; exact hlv); iterate 2 rfl) | (apply E8; rfl; exact c1; iterate 3 rfl)
    | (apply yD; rfl; exact .z; rfl; rfl; (omega); rfl) | (refine stp ?_; intros))
  refine EK.again ⟨i + 1, by omega⟩ (by dsimp only; omega) ?_
  rw [hoffi, hst]
  simp only [LM]
  exact Le.kp
 ·
  have : i = 32 := by omega
  subst this
  rw [MW (by omega), Ov, NM, Lh]
  repeat (refine stp ?_; intros)
  refine EK.jT 1 rfl rfl rfl rfl ?_ rfl
  (exact RL.a)
theorem nP (v : List UInt8) (hv : v.length = 32) : (aX 8 4 v).length = 4 ∧ (∀ x ∈ aX 8 4 v, x < 18446744073709551616) ∧ Wd.le 18446744073709551616 (aX 8 4 v) = val v := ⟨iK 8 4 v, sF 8 4 v, sH (c := 8) (k := 4) (by rw [hv])⟩
theorem Ij (u v : List UInt8) (hu : u.length = 32) (hv : v.length = 32) : Fn 53 [.arr 32 u, .arr 32 v] (· = .val (.v (.int .i64 (kG (val u) (val v))))) := by
 have h1 := nV u hu
 have h2 := nV v hv
 obtain ⟨a1, a2, a3⟩ := nP u hu
 obtain ⟨b1, b2, b3⟩ := nP v hv
 have h3 := uZ _ _ a1 b1 a2 b2
 rw [a3, b3] at h3
 refine Fn.walk 10 Tryz.func53 rfl Tryz.ntmps53 (by simp) fun X => ?_
 repeat (refine stp ?_; intros)
 refine EC.draw 5 (by kernel_rfl) ?_
 simp only [KG, KI, KF, KH]
 repeat
  (first
   | (refine aW (h1) (kk := ?_)) | (refine aW (h2) (kk := ?_))
   | (refine aW (h3) (kk := ?_)) | (refine sth ?_; intros))
 repeat (refine stp ?_; intros)
 exact EK.iU rfl rfl rfl
theorem JX (u v : List UInt8) (hu : u.length = 32) (hv : v.length = 32) : Fn 55 [.arr 32 u, .arr 32 v] (· = .val (.arr 32 (aQ (val u + 256 ^ 32 - val v)))) := by
 have h1 := nV u hu
 have h2 := nV v hv
 obtain ⟨a1, a2, a3⟩ := nP u hu
 obtain ⟨b1, b2, b3⟩ := nP v hv
 obtain ⟨os, c, h3, o1, o2, o3, o4⟩ := uY _ _ a1 b1 a2 b2
 have h4 := lT os o1 o2
 have hb := uf v
 rw [hv] at hb
 have e : aQ (Wd.le 18446744073709551616 os) = aQ (val u + 256 ^ 32 - val v) := by
  refine val_inj _ _ (by rw [aY, aY]) ?_
  rw [dQ, dQ]
  rw [a3, b3] at o4
  have : c = 0 ∨ c = 1 := by omega
  rcases this with rfl | rfl <;> omega
 rw [e] at h4
 refine Fn.walk 11 Tryz.func55 rfl Tryz.ntmps55 (by simp) fun X => ?_
 repeat (refine stp ?_; intros)
 refine EC.draw 6 (by kernel_rfl) ?_
 simp only [KG, KI, KF, KH]
 repeat
  (first
   | (refine aW (h1) (kk := ?_)) | (refine aW (h2) (kk := ?_))
   | (refine aW (h3) (kk := ?_)) | (refine aW (h4) (kk := ?_)) | (refine sth ?_; intros))
 repeat (refine stp ?_; intros)
 refine EK.jT 0 rfl rfl rfl rfl ?_ rfl
 (exact RL.a)
theorem JY (u v : List UInt8) (hu : u.length = 32) (hv : v.length = 32) : Fn 54 [.arr 32 u, .arr 32 v] (· = .val (.arr 32 (aQ (val u + val v)))) := by
 have h1 := nV u hu
 have h2 := nV v hv
 obtain ⟨a1, a2, a3⟩ := nP u hu
 obtain ⟨b1, b2, b3⟩ := nP v hv
 obtain ⟨os, c, h3, o1, o2, o4⟩ := vg _ _ a1 b1 a2 b2
 have h4 := lT os o1 o2
 have e : aQ (Wd.le 18446744073709551616 os) = aQ (val u + val v) := by
  refine val_inj _ _ (by rw [aY, aY]) ?_
  rw [dQ, dQ]
  rw [a3, b3] at o4
  rw [← o4, show (18446744073709551616 : Nat) ^ 4 = 256 ^ 32 from rfl, OJ]
 rw [e] at h4
 clear e o4 o2
 obtain ⟨s0, s1, s2, s3, rfl⟩ : ∃ a0 a1 a2 a3, os = [a0, a1, a2, a3] := by
  match os, o1 with
  | [a, b, c, d], _ => exact ⟨a, b, c, d, rfl⟩
 refine Fn.walk 17 Tryz.func54 rfl Tryz.ntmps54 (by simp) fun X => ?_
 repeat (refine stp ?_; intros)
 refine EC.bI 10 [0, 1, 2, 3, 4, 5, 6, 7] [8, 9] [] _ (by kernel_rfl) (by kernel_rfl) rfl ?_
 simp only [aA, KU, KY, KN, KP]
 repeat
  (first
   | (refine aW (h1) (kk := ?_)) | (refine aW (h2) (kk := ?_))
   | (refine aW (h3) (kk := ?_)) | (refine sth ?_; intros))
 refine EM.nil ?_
 repeat (first | rw [KD] | rw [KE])
 refine CH.mut (os := []) (rest := []) rfl rfl (Gi rfl rfl) ?_
 rintro _ _ ⟨_, rfl, rfl⟩
 try simp only [St.put]
 repeat (first | rw [KD] | rw [KE])
 refine CH.mut (os := [_]) (rest := []) rfl rfl (ng (dW rfl rfl rfl rfl rfl)) ?_
 rintro _ _ ⟨rfl, rfl⟩
 try simp only [St.put]
 repeat (first | rw [KD] | rw [KE])
 refine CH.nil ?_
 try simp only [KF, KH]
 repeat
  (first
   | (refine dJ (h4) (kk := ?_)) | (refine stp ?_; intros))
 refine EK.jT 1 rfl rfl rfl rfl ?_ rfl
 (exact RL.a)
section
variable {g N : Nat} {A : As} {os : List Obj} {a a2 w : List UInt8}
theorem sZ (h : GSt g A N os) (a : List UInt8) : FnM 51 [.v (ptr g), .arr 20 a] os (fun r os' => r = .val (.arr 32 (A a).w) ∧ os' = os) := by
 obtain ⟨m, c, es, u, k, n, us, ks, ps, js, rfl, hi, hl⟩ := h
 have pm : (([stO g m u k n, smO m c es] ++ ps.flatMap PA.os) ++ ([unO u us, mkO k ks] ++ js)).Perm ([stO g m u k n, smO m c es, unO u us, mkO k ks] ++ (ps.flatMap PA.os ++ js)) := by
  simp only [KD, KE]
  exact .cons _ (.cons _ (Kv _ _ _ _).symm)
 refine FnM.perm ?_ pm
 cases hE : aJ es a with
 | some d =>
  obtain ⟨p, hp, rfl, his⟩ := hi.inn a d hE
  obtain ⟨ps1, ps2, rfl⟩ := List.append_of_mem hp
  refine FnM.out ((FnM.lift (Ψ := fun r hdr p' => r = .val (.arr 32 p.w) ∧ hdr = [stO g m u k n, smO m c es] ∧ p' = p) ps1 ps2 (FnM.mono ((qV (g := g) (m := m) (c := c) (u := u) (k := k) (n := n) (b := p.n) (w := p.w) (cd := p.cd) (sv := .map (some p.gs)) hE).frame [.map p.gs 32 p.sc p.ss]) fun r os' ⟨_, ⟨h1, h2⟩, h3⟩ => ⟨_, p, ⟨h1, rfl, rfl⟩, by rw [h3, h2]; rfl⟩)).frame ([unO u us, mkO k ks] ++ js)) ?_
  rintro r _ ⟨_, ⟨_, _, ⟨rfl, rfl, rfl⟩, rfl⟩, rfl⟩
  exact ⟨_, pm, by rw [his.w], rfl⟩
 | none =>
  refine FnM.out (((o7 (g := g) (m := m) (c := c) (u := u) (k := k) (n := n) hE).frame (ps.flatMap PA.os)).frame ([unO u us, mkO k ks] ++ js)) ?_
  rintro r _ ⟨_, ⟨_, ⟨rfl, rfl⟩, rfl⟩, rfl⟩
  exact ⟨_, pm, by rw [hi.out a hE]; rfl, rfl⟩
theorem vG {x y : Nat} (h : x < y) : kG x y = -1 := if_pos h
theorem vH {x y : Nat} (h : ¬ x < y) : 0 ≤ kG x y := by
 unfold kG
 rw [if_neg h]
 split <;> decide
theorem GSt.mono {M : Nat} (h : GSt g A N os) (hm : N ≤ M) : GSt g A M os := by
 obtain ⟨m, c, es, u, k, n, us, ks, ps, js, e, hi, hl⟩ := h
 exact ⟨m, c, es, u, k, n, us, ks, ps, js, e, ⟨hi.out, fun a d hd => (by
  obtain ⟨q, hq, e, hi⟩ := hi.inn a d hd
  exact ⟨q, hq, e, hi.n, hi.w, hi.cd, hi.sl, hi.ent, hi.nod, LG hi.len hm, hi.cl⟩), hi.inj, hi.nod, LG hi.len hm⟩, LG hl hm⟩
def iy (A : As) (a a2 w : List UInt8) : Bool := decide (¬ val (A a).w < val w) && (decide (a = a2) || decide (¬ val (aQ (val (A a2).w + val w)) < val w))
def mvA (A : As) (a a2 w : List UInt8) : As := if iy A a a2 w = true ∧ a ≠ a2 then (A.upd a {A a with w := aQ (val (A a).w + 256 ^ 32 - val w)}).upd a2 {A a2 with w := aQ (val (A a2).w + val w)} else A
theorem Kw (h : GSt g A N os) (hN : N + 2 < 1099511627776) (hx : (A a).w.length = 32) (hy : (A a2).w.length = 32) (hw : w.length = 32) : FnM 28 [.v (ptr g), .arr 20 a, .arr 20 a2, .arr 32 w] os (fun r os' => r = .val (.v (.bool (iy A a a2 w))) ∧ GSt g (mvA A a a2 w) (N + 2) os') := by
 have h1 := sZ h a
 have h1b := sZ h a2
 have h2 := Ij (A a).w w hx hw
 by_cases hlt : val (A a).w < val w
 ·
  have e1 : iy A a a2 w = false := by simp [iy, hlt]
  have e2 : mvA A a a2 w = A := by simp [mvA, e1]
  rw [e1, e2]
  rw [vG hlt] at h2
  refine FnM.walk 42 Tryz.func28 rfl Tryz.ntmps28 (by simp) fun X => ?_
  repeat (refine stp ?_; intros)
  rename_i g5 g6 g7
  refine EC.qO 6 (by kernel_rfl) ?_
  simp only [KG, KI, KF, KH]
  refine EV.cut 2 ?_
  simp only [KG, KI, KF, KH]
  repeat (refine sth ?_; intros)
  refine EM.nil ?_
  refine EV.visit os [_, _, _] rfl rfl (Lm (l₁ := [_, _, _])) (ji h1 rfl rfl (aj.refl _ _) (by intro _ _; simp [go_sem])) ?_
  try simp only [St.put]
  refine EV.cut 3 ?_
  simp only [KG, KI, KF, KH]
  repeat
   (first
    | (refine aW (h2) (kk := ?_)) | (refine sth ?_; intros))
  refine EM.nil ?_
  refine EV.nil0 ?_
  repeat (refine stp ?_; intros)
  exact EK.aI os rfl rfl (by (repeat first | exact La _ | apply List.Sublist.cons_cons | apply List.Sublist.cons)) ⟨rfl, h.mono (by omega)⟩
 ·
  have hz := vH hlt
  generalize kG (val (A a).w) (val w) = z at h2 hz
  have h3 := JY (A a2).w w hy hw
  have h4 := (jc a a2).1
  by_cases heq : a = a2
  ·
   subst heq
   have e1 : iy A a a w = true := by simp [iy, hlt]
   have e2 : mvA A a a w = A := by simp [mvA]
   rw [e1, e2]
   rw [beq_self_eq_true] at h4
   refine FnM.walk 42 Tryz.func28 rfl Tryz.ntmps28 (by simp) fun X => ?_
   repeat (refine stp ?_; intros)
   rename_i g5 g6 g7
   refine EC.qO 6 (by kernel_rfl) ?_
   simp only [KG, KI, KF, KH]
   refine EV.cut 2 ?_
   simp only [KG, KI, KF, KH]
   repeat (refine sth ?_; intros)
   refine EM.nil ?_
   refine EV.visit os [_, _, _] rfl rfl (Lm (l₁ := [_, _, _])) (ji h1 rfl rfl (aj.refl _ _) (by intro _ _; simp [go_sem])) ?_
   try simp only [St.put]
   refine EV.cut 3 ?_
   simp only [KG, KI, KF, KH]
   repeat
    (first
     | (refine aW (h2) (kk := ?_)) | (refine sth ?_; intros))
   refine EM.nil ?_
   refine EV.nil0 ?_
   repeat (refine stp ?_; intros)
   refine EC.qO 6 (by kernel_rfl) ?_
   simp only [KG, KI, KF, KH]
   refine EV.cut 2 ?_
   simp only [KG, KI, KF, KH]
   repeat (refine sth ?_; intros)
   refine EM.nil ?_
   refine EV.visit os [_, _, _] rfl rfl (Lm (l₁ := [_, _, _])) (ji h1 rfl rfl (aj.refl _ _) (by intro _ _; simp [go_sem])) ?_
   try simp only [St.put]
   refine EV.cut 3 ?_
   simp only [KG, KI, KF, KH]
   repeat
    (first
     | (refine aW (h3) (kk := ?_)) | (refine sth ?_; intros))
   refine EM.nil ?_
   refine EV.Dx fun g9 => ?_
   repeat
    (first
     | (refine bM (hrun := h4) (kk := ?_)) | (refine stp ?_; intros))
   exact EK.aI os rfl rfl (by (repeat first | exact La _ | apply List.Sublist.cons_cons | apply List.Sublist.cons)) ⟨rfl, h.mono (by omega)⟩
  ·
   rw [show (a == a2) = false by simpa using heq] at h4
   have h5 := Ij (aQ (val (A a2).w + val w)) w (aY _) hw
   by_cases hov : val (aQ (val (A a2).w + val w)) < val w
   ·
    have e1 : iy A a a2 w = false := by simp [iy, heq, hov]
    have e2 : mvA A a a2 w = A := by simp [mvA, e1]
    rw [e1, e2]
    rw [vG hov] at h5
    generalize aQ (val (A a2).w + val w) = s at h3 h5
    refine FnM.walk 42 Tryz.func28 rfl Tryz.ntmps28 (by simp) fun X => ?_
    repeat (refine stp ?_; intros)
    rename_i g5 g6 g7
    refine EC.qO 6 (by kernel_rfl) ?_
    simp only [KG, KI, KF, KH]
    refine EV.cut 2 ?_
    simp only [KG, KI, KF, KH]
    repeat (refine sth ?_; intros)
    refine EM.nil ?_
    refine EV.visit os [_, _, _] rfl rfl (Lm (l₁ := [_, _, _])) (ji h1 rfl rfl (aj.refl _ _) (by intro _ _; simp [go_sem])) ?_
    try simp only [St.put]
    refine EV.cut 3 ?_
    simp only [KG, KI, KF, KH]
    repeat
     (first
      | (refine aW (h2) (kk := ?_)) | (refine sth ?_; intros))
    refine EM.nil ?_
    refine EV.nil0 ?_
    repeat (refine stp ?_; intros)
    refine EC.qO 6 (by kernel_rfl) ?_
    simp only [KG, KI, KF, KH]
    refine EV.cut 2 ?_
    simp only [KG, KI, KF, KH]
    repeat (refine sth ?_; intros)
    refine EM.nil ?_
    refine EV.visit os [_, _, _] rfl rfl (Lm (l₁ := [_, _, _])) (ji h1b rfl rfl (aj.refl _ _) (by intro _ _; simp [go_sem])) ?_
    try simp only [St.put]
    refine EV.cut 3 ?_
    simp only [KG, KI, KF, KH]
    repeat
     (first
      | (refine aW (h3) (kk := ?_)) | (refine sth ?_; intros))
    refine EM.nil ?_
    refine EV.Dx fun g9 => ?_
    repeat
     (first
      | (refine bM (hrun := h4) (kk := ?_)) | (refine dJ (h5) (kk := ?_)) | (refine stp ?_; intros))
    exact EK.aI os rfl rfl (by (repeat first | exact La _ | apply List.Sublist.cons_cons | apply List.Sublist.cons)) ⟨rfl, h.mono (by omega)⟩
   ·
    have e1 : iy A a a2 w = true := by simp [iy, hlt, hov]
    have e2 : mvA A a a2 w = (A.upd a {A a with w := aQ (val (A a).w + 256 ^ 32 - val w)}).upd a2 {A a2 with w := aQ (val (A a2).w + val w)} := by simp [mvA, e1, heq]
    rw [e1, e2]
    have hz2 := vH hov
    generalize kG (val (aQ (val (A a2).w + val w))) (val w) = z2 at h5 hz2
    have h6 := JX (A a).w w hx hw
    generalize aQ (val (A a).w + 256 ^ 32 - val w) = df at h6
    generalize aQ (val (A a2).w + val w) = s at h3 h5
    have h7 := jl (a := a) h (by omega) df
    refine FnM.walk 42 Tryz.func28 rfl Tryz.ntmps28 (by simp) fun X => ?_
    repeat (refine stp ?_; intros)
    rename_i g5 g6 g7
    refine EC.qO 6 (by kernel_rfl) ?_
    simp only [KG, KI, KF, KH]
    refine EV.cut 2 ?_
    simp only [KG, KI, KF, KH]
    repeat (refine sth ?_; intros)
    refine EM.nil ?_
    refine EV.visit os [_, _, _] rfl rfl (Lm (l₁ := [_, _, _])) (ji h1 rfl rfl (aj.refl _ _) (by intro _ _; simp [go_sem])) ?_
    try simp only [St.put]
    refine EV.cut 3 ?_
    simp only [KG, KI, KF, KH]
    repeat
     (first
      | (refine aW (h2) (kk := ?_)) | (refine sth ?_; intros))
    refine EM.nil ?_
    refine EV.nil0 ?_
    repeat (refine stp ?_; intros)
    refine EC.qO 6 (by kernel_rfl) ?_
    simp only [KG, KI, KF, KH]
    refine EV.cut 2 ?_
    simp only [KG, KI, KF, KH]
    repeat (refine sth ?_; intros)
    refine EM.nil ?_
    refine EV.visit os [_, _, _] rfl rfl (Lm (l₁ := [_, _, _])) (ji h1b rfl rfl (aj.refl _ _) (by intro _ _; simp [go_sem])) ?_
    try simp only [St.put]
    refine EV.cut 3 ?_
    simp only [KG, KI, KF, KH]
    repeat
     (first
      | (refine aW (h3) (kk := ?_)) | (refine sth ?_; intros))
    refine EM.nil ?_
    refine EV.Dx fun g9 => ?_
    repeat
     (first
      | (refine bM (hrun := h4) (kk := ?_)) | (refine dJ (h5) (kk := ?_)) | (refine stp ?_; intros))
    refine EC.le (Le.perm (Lm (l₁ := [_, _, _, _]))) ?_
    refine EC.bI 8 [0, 1, 2, 3, 5] [4, 6, 7] os _ (by kernel_rfl) (by kernel_rfl) rfl ?_
    simp only [aA, KU, KY, KN, KP]
    repeat (refine sth ?_; intros)
    refine EM.nil ?_
    repeat (first | rw [KD] | rw [KE])
    refine CH.bP (rest := []) h1 (k := ?_)
    rintro _ _ ⟨rfl, rfl⟩
    try simp only [St.put]
    repeat (first | rw [KD] | rw [KE])
    refine CH.cut 1 ?_
    simp only [KG, KI, KF, KH]
    repeat
     (first
      | (refine aW (h6) (kk := ?_)))
    refine EM.nil ?_
    repeat (first | rw [KD] | rw [KE])
    refine CH.bP (rest := []) h7 (k := ?_)
    rintro _ os2 ⟨rfl, hS2⟩
    try simp only [St.put]
    repeat (first | rw [KD] | rw [KE])
    refine CH.nil ?_
    try simp only [KF, KH]
    refine EL.le (Le.perm (Lm (l₂ := [_, _, _, _]))) ?_
    simp only [KD, KE]
    have h8 := jl (a := a2) hS2 (by omega) s
    rw [show (A.upd a {A a with w := df}) a2 = A a2 from if_neg heq] at h8
    repeat (refine stp ?_; intros)
    refine aK h8 [_, _, _, _] [] (Lh _).symm rfl (aj.refl _ _) (by intro _ _; simp [go_sem]) rfl rfl ?_
    rintro _ os3 ⟨rfl, hS3⟩
    rw [Lh]
    simp only [KD, KE]
    repeat (refine stp ?_; intros)
    exact EK.aI os3 rfl rfl (by (repeat first | exact La _ | apply List.Sublist.cons_cons | apply List.Sublist.cons)) ⟨rfl, hS3⟩
end
def wF (p : List UInt8 × List UInt8) : List Value := bvs p.1 ++ bvs p.2
def CW (p : List UInt8 × List UInt8) : Prop := p.1.length = 32 ∧ p.2.length = 32
theorem wE {ok : Nat → Prop} {w : World} {s : List UInt8 × List UInt8} {v : Value} (h : bf ok w (aG s) v) : v = .agg (wF s).toArray ∧ CW s := by
 obtain ⟨cs, h', rfl⟩ := (iV rfl).1 h
 unfold aG at h'
 rw [Reads, aP] at h'
 obtain ⟨c1, c2, rfl, h1, h2⟩ := h'
 rw [aP] at h2
 obtain ⟨c3, c4, rfl, h3, h4⟩ := h2
 rw [aP] at h4
 rw [Reads] at h1 h3
 rw [h1.2, h3.2, h4, Lh]
 exact ⟨rfl, h1.1, h3.1⟩
theorem En (w : World) (s : List UInt8 × List UInt8) (hs : CW s) : (Op.equalIn 10000 63 (.agg (wF s).toArray) (.agg (wF s).toArray)).run Tryz.prog w = .ok true w := by
 rw [show (10000 : Nat) = 9999 + 1 from rfl, run_equalIn_struct w 9999 63 _ _ (by kernel_rfl) (by kernel_rfl)]
 simp only [Program.fieldsOf, Tryz.underlying63]
 have hp : ∀ (x : List UInt8 × List UInt8) (o : Nat) (l : List UInt8), CW x → (o = 0 ∧ l = x.1 ∨ o = 32 ∧ l = x.2) → ∀ w, (part 34 (wF x).toArray o).run Tryz.prog w = .ok (aV l) w := by
  intro x o l hx ho w
  have h1 : (part 34 (wF x).toArray o).run Tryz.prog w = .ok (.agg ((wF x).toArray.extract o (o + 32))) w := by
   kernel_rfl
  rw [h1]
  have hk : (wF x).toArray.extract o (o + 32) = (bvs l).toArray := by
   apply NY
   rw [Array.toList_extract]
   unfold wF
   rcases ho with ⟨rfl, rfl⟩ | ⟨rfl, rfl⟩
   · rw [List.extract_eq_take_drop, KH, List.take_left' (by rw [aS, hx.1])]
   · rw [List.extract_eq_take_drop, List.drop_left' (by rw [aS, hx.1]), MW (by rw [aS, hx.2]; decide)]
  rw [hk]
  rfl
 have hW := fun w l hl => GK (T := 34) (n := 32) 9997 Tryz.underlying34 Tryz.underlying5 (fun w => by kernel_rfl) w l l hl hl
 simp only [Op.eqFields, ne_eq, String.reduceEq, not_false_eq_true, if_true, KW, hp s 0 s.1 hs (.inl ⟨rfl, rfl⟩), KL, hW _ _ hs.1, beq_self_eq_true]
 simp [hW _ _ hs.2, Sem.run_bind, hp s 32 s.2 hs (.inr ⟨rfl, rfl⟩)]
theorem BN (s : List UInt8 × List UInt8) : Bin .neq 63 (aG s) (aG s) (.bool false) := by
 refine ⟨rfl, fun ok w p q hp hq => ?_⟩
 obtain ⟨rfl, h1⟩ := wE hp
 obtain ⟨rfl, h2⟩ := wE hq
 refine ⟨fun x y => run_eqGuard_agg w _ _ _ _ _ _ (by kernel_rfl), ?_⟩
 rw [run_neq_struct, En w s h1]
 rfl
theorem rM (x : AcL) (hx : x.sl.length ≤ 1099511627776) : Fn 37 [ak x, ak x] (· = .val (.v (.bool true))) := by
 obtain ⟨a1, a2, a3, a4, a5⟩ := x
 unfold ak
 dsimp only at hx ⊢
 have h1 := (jc a1 a1).2
 have h3 := (dA a3 a3).2
 have h4 := (zD a4 a4).2
 rw [bne_self_eq_false] at h1 h3 h4
 have hl : (a5.map aG).length = a5.length := KR _
 refine Fn.walk 61 Tryz.func37 rfl Tryz.ntmps37 (by simp) fun X => ?_
 repeat
  (first
   | (refine bM (hrun := h1) (kk := ?_)) | (refine bM (hrun := h3) (kk := ?_))
   | (refine bM (hrun := h4) (kk := ?_)) | (refine stp ?_; intros))
 rename_i g2 g3
 refine EC.loop (ι := {k : Nat // k ≤ a5.length})
  (fun k => ⟨[(5, .val (.v (.int .i64 (k.1 : Int)))), (2, .val (.v (.pointer (some ⟨g2, 0, none⟩)))), (3, .val (.v (.pointer (some ⟨g3, 0, none⟩))))],
   [.var g3 51 (.tup [.arr 20 a1, .v (.int .i64 a2), .arr 32 a3, .bs a4, .sl 64 (a5.map aG)]), .var g2 51 (.tup [.arr 20 a1, .v (.int .i64 a2), .arr 32 a3, .bs a4, .sl 64 (a5.map aG)])], []⟩)
  (fun k => a5.length - k.1) ⟨0, by omega⟩ ?_ ?_
 · exact Le.kp
 rintro ⟨k, hk⟩
 dsimp only at hk ⊢
 by_cases hlt : k < a5.length
 ·
  have hy : (a5.map aG)[k]? = some (aG a5[k]) := by rw [List.getElem?_map, KJ hlt]; rfl
  generalize a5[k] = s at hy
  have hb := BN s
  repeat (refine stp ?_; intros)
  refine EC.draw 11 (by kernel_rfl) ?_
  simp only [KG, KI, KF, KH]
  repeat
   (first
    | (refine dP (hrun := hb) (kk := ?_)) | (refine sth ?_; intros))
  repeat (refine stp ?_; intros)
  refine EK.again ⟨k + 1, hlt⟩ (by dsimp only; omega) ?_
  simp only [LM]
  exact Le.kp
 ·
  skip
  repeat (refine stp ?_; intros)
  exact EK.iU rfl rfl rfl
theorem kC (l : List AcL) (hl : l.length ≤ 1099511627776) (hx : ∀ x ∈ l, x.sl.length ≤ 1099511627776) : Fn 13 [.sl 55 (l.map ak), .sl 55 (l.map ak)] (· = .val (.v (.bool true))) := by
 have hml : (l.map ak).length = l.length := KR _
 refine Fn.walk 27 Tryz.func13 rfl Tryz.ntmps13 (by simp) fun X => ?_
 repeat (refine stp ?_; intros)
 refine EC.loop (ι := {k : Nat // k ≤ l.length})
  (fun k => ⟨[(5, .val (.v (.int .i64 (k.1 : Int)))), (0, .val (.sl 55 (l.map ak))), (1, .val (.sl 55 (l.map ak)))], [], []⟩)
  (fun k => l.length - k.1) ⟨0, by omega⟩ ?_ ?_
 · exact Le.kp
 rintro ⟨k, hk⟩
 dsimp only at hk ⊢
 by_cases hlt : k < l.length
 ·
  have hy : (l.map ak)[k]? = some (ak l[k]) := by rw [List.getElem?_map, KJ hlt]; rfl
  have hc := rM l[k] (hx _ (LW hlt))
  generalize l[k] = s at hy hc
  repeat (refine stp ?_; intros)
  refine EC.draw 10 (by kernel_rfl) ?_
  simp only [KG, KI, KF, KH]
  repeat
   (first
    | (refine aW (hc) (kk := ?_)) | (refine sth ?_; intros))
  repeat (refine stp ?_; intros)
  refine EK.again ⟨k + 1, hlt⟩ (by dsimp only; omega) ?_
  simp only [LM]
  exact Le.kp
 ·
  skip
  repeat (refine stp ?_; intros)
  exact EK.iU rfl rfl rfl
mutual
theorem aj.rows {ok : Nat → Prop} {w : World} {F : List (Value × D)} (hF : ∀ f ∈ F, Reads ok w f.2 [f.1]) {z : Nat} : ∀ (ds ds' : List D) (rows : List (List Value)), aj F ds ds' → ah ok w z ds rows → ah ok w z ds' rows
 | [], l, rows, h, hr => by rw [aj] at h; subst h; exact hr
 | d :: ds, l, rows, h, hr => by
  rw [aj] at h
  obtain ⟨d', ds', rfl, h1, h2⟩ := h
  rw [ah] at hr ⊢
  obtain ⟨r, rest, rfl, h3, h4, h5⟩ := hr
  exact ⟨r, rest, rfl, h3, (Refine.reads hF d d' r h1 h4).1, aj.rows hF ds ds' rest h2 h5⟩
end
theorem aj.length {F : List (Value × D)} : ∀ {ds ds' : List D}, aj F ds ds' → ds'.length = ds.length
 | [], l, h => by rw [aj] at h; subst h; rfl
 | d :: ds, l, h => by
  rw [aj] at h
  obtain ⟨d', ds', rfl, h1, h2⟩ := h
  rw [LX, LX, aj.length h2]
theorem RL.append {F : List (Value × D)} : ∀ {ds ds' es es' : List D}, aj F ds ds' → aj F es es' → aj F (ds ++ es) (ds' ++ es')
 | [], l, es, es', h, k => by rw [aj] at h; subst h; exact k
 | d :: ds, l, es, es', h, k => by
  rw [aj] at h
  obtain ⟨d', ds', rfl, h1, h2⟩ := h
  exact RL.cons h1 (RL.append h2 k)
theorem Le.Dj {N : Nat} {X : Cx N} {rs : List (Tmp × R)} {os : List Obj} {fs : List (Value × D)} {v : Value} {e z : Nat} {ds ds' : List D} (h : aj fs ds ds') : Le X ⟨rs, .row v e z ds :: os, fs⟩ ⟨rs, .row v e z ds' :: os, fs⟩ := fun a w ha => by
 have hok : ∀ b, X.ok (.row v e z ds :: os) w b ↔ X.ok (.row v e z ds' :: os) w b := fun b => ⟨fun hb => ⟨hb.1, hb.2.1, fun o ho => by
   rcases KT.1 ho with rfl | ho
   · exact hb.2.2 (.row v e z ds) KQ
   · exact hb.2.2 o (Ld _ ho)⟩, fun hb => ⟨hb.1, hb.2.1, fun o ho => by
   rcases KT.1 ho with rfl | ho
   · exact hb.2.2 (.row v e z ds') KQ
   · exact hb.2.2 o (Ld _ ho)⟩⟩
 have hap := LY.1 ha.mem.apart
 have hf : ∀ f ∈ fs, Reads (X.ok (.row v e z ds' :: os) w) w f.2 [f.1] := fun f hf => Reads.mono (fun b hb => (hok b).1 hb) (fun _ _ => rfl) _ _ (ha.mem.fact f hf)
 refine ⟨⟨ha.mem.gr, LY.2 ⟨fun p hp b e => hap.1 p hp b e, hap.2⟩, fun o ho => ?_, hf⟩, fun t' r hr => (ha.regs t' r hr).mono (fun b hb => (hok b).1 hb) fun _ _ => rfl, ha.size, ha.defers⟩
 rcases KT.1 ho with rfl | ho
 ·
  obtain ⟨rows, h1, h2⟩ := ha.mem.at_ (.row v e z ds) KQ
  refine ⟨rows, by rw [aj.length h]; exact h1, aj.rows hf _ _ _ h (ah.mono (fun b hb => (hok b).1 hb) (fun _ _ => rfl) _ _ _ h2)⟩
 · exact (ha.mem.at_ o (Ld _ ho)).move (fun b hb => (hok b).1 hb) (fun _ _ => rfl) fun _ _ => rfl
abbrev raA (L : Value) (l : List AcL) : Obj := .row L 51 55 (l.map ak)
def AcL.none (a : List UInt8) : AcL := ⟨a, 0, zero32, [], []⟩
theorem IK {g : Nat} {L k : Value} {n : Int} (l : List AcL) (a : List UInt8) (hll : l.length < 1099511627776) (kk : Nat) (hkk : kk < l.length) (hlo : ∀ j (hj : j < l.length), j < kk → Op.bytesLess l[j].a a = true) (he : l[kk].a = a) : FnM 49 [.v (ptr g), .arr 20 a] [rsO g L k n, raA L l] (fun r os' => r = .val (.v (aH L ((kk : Int).toNat * 55))) ∧ os' = [rsO g L k n, raA L l]) := by
 have hml : (l.map ak).length = l.length := KR _
 refine FnM.walk 78 Tryz.func49 rfl Tryz.ntmps49 (by simp) fun X => ?_
 repeat (refine stp ?_; intros)
 rename_i g3
 refine EC.loop (ι := {i : Nat // i ≤ kk})
  (fun i => ⟨[(5, .val (.v (.int .i64 (i.1 : Int)))), (3, .val (.v (.pointer (some ⟨g3, 0, none⟩)))), (0, .val (.v (ptr g)))], [.var g3 32 (.arr 20 a), rsO g L k n, raA L l], []⟩)
  (fun i => kk - i.1) ⟨0, by omega⟩ ?_ ?_
 · exact Le.kp
 rintro ⟨i, hi⟩
 dsimp only at hi ⊢
 have hil : i < l.length := by omega
 have hd : (l.map ak)[i]? = some (ak l[i]) := by rw [List.getElem?_map, KJ hil]; rfl
 have hb := lF l[i].a a
 by_cases hlt : i < kk
 ·
  rw [hlo i hil hlt] at hb
  repeat (refine stp ?_; intros)
  refine EC.draw 21 (by kernel_rfl) ?_
  simp only [KG, KI, KF, KH]
  repeat
   (first
    | (apply pO; exact iC; rfl; exact I2; (rw [hml]; omega); iterate 2 rfl)
    | (apply nK (k := i) (off := 0) (d := ak l[i]); rfl; exact I2; exact ⟨by simp, hd⟩; iterate 4 rfl) | (apply nM; exact iC; iterate 3 rfl)
    | (apply je; rfl; exact I0; iterate 4 rfl) | (refine dP (hrun := hb) (kk := ?_)) | (refine sth ?_; intros))
  repeat (refine stp ?_; intros)
  refine EK.again ⟨i + 1, by omega⟩ (by dsimp only; omega) ?_
  simp only [LM]
  exact Le.kp
 ·
  obtain rfl : i = kk := by omega
  rw [show Op.bytesLess l[i].a a = false by rw [he]; exact zB _] at hb
  have hne := (jc l[i].a a).2
  rw [show (l[i].a != a) = false by rw [he]; simp] at hne
  repeat (refine stp ?_; intros)
  refine EC.draw 21 (by kernel_rfl) ?_
  simp only [KG, KI, KF, KH]
  repeat
   (first
    | (apply pO; exact iC; rfl; exact I2; (rw [hml]; omega); iterate 2 rfl)
    | (apply nK (k := i) (off := 0) (d := ak l[i]); rfl; exact I2; exact ⟨by simp, hd⟩; iterate 4 rfl) | (apply nM; exact iC; iterate 3 rfl)
    | (apply je; rfl; exact I0; iterate 4 rfl) | (refine dP (hrun := hb) (kk := ?_)) | (refine sth ?_; intros))
  repeat (refine stp ?_; intros)
  refine EC.draw 19 (by kernel_rfl) ?_
  simp only [KG, KI, KF, KH]
  repeat
   (first
    | (apply dB (k := i) (off := 0) (d := ak l[i]); rfl; exact I2; exact ⟨by simp, hd⟩; iterate 4 rfl) | (refine dP (hrun := hne) (kk := ?_))
    | (refine sth ?_; intros))
  repeat (refine stp ?_; intros)
  exact EK.aI [rsO g L k n, raA L l] rfl rfl (by (repeat first | exact KO _ | apply List.Sublist.cons_cons | apply List.Sublist.cons)) ⟨rfl, rfl⟩
theorem FX {g : Nat} {L k : Value} {n : Int} (l : List AcL) (a : List UInt8) (hll : l.length < 1099511627) (kk : Nat) (hkk : kk ≤ l.length) (hlo : ∀ j (hj : j < l.length), j < kk → Op.bytesLess l[j].a a = true) (hhi : ∀ hj : kk < l.length, Op.bytesLess l[kk].a a = false ∧ (l[kk].a != a) = true) : FnM 49 [.v (ptr g), .arr 20 a] [rsO g L k n, raA L l] (fun r os' => ∃ L', r = .val (.v (aH L' ((kk : Int).toNat * 55))) ∧ os' = [rsO g L' k n, raA L' (l.take kk ++ AcL.none a :: l.drop kk)]) := by
 have hml : (l.map ak).length = l.length := KR _
 refine FnM.walk 78 Tryz.func49 rfl Tryz.ntmps49 (by simp) fun X => ?_
 repeat (refine stp ?_; intros)
 rename_i g3
 refine EC.loop (ι := {i : Nat // i ≤ kk})
  (fun i => ⟨[(5, .val (.v (.int .i64 (i.1 : Int)))), (3, .val (.v (.pointer (some ⟨g3, 0, none⟩)))), (0, .val (.v (ptr g)))], [.var g3 32 (.arr 20 a), rsO g L k n, raA L l], []⟩)
  (fun i => kk - i.1) ⟨0, by omega⟩ ?_ ?_
 · exact Le.kp
 rintro ⟨i, hi⟩
 dsimp only at hi ⊢
 by_cases hlt : i < kk
 ·
  have hil : i < l.length := by omega
  have hd : (l.map ak)[i]? = some (ak l[i]) := by rw [List.getElem?_map, KJ hil]; rfl
  have hb := lF l[i].a a
  rw [hlo i hil hlt] at hb
  repeat (refine stp ?_; intros)
  refine EC.draw 21 (by kernel_rfl) ?_
  simp only [KG, KI, KF, KH]
  repeat
   (first
    | (apply pO; exact iC; rfl; exact I2; (rw [hml]; omega); iterate 2 rfl)
    | (apply nK (k := i) (off := 0) (d := ak l[i]); rfl; exact I2; exact ⟨by simp, hd⟩; iterate 4 rfl) | (apply nM; exact iC; iterate 3 rfl)
    | (apply je; rfl; exact I0; iterate 4 rfl) | (refine dP (hrun := hb) (kk := ?_)) | (refine sth ?_; intros))
  repeat (refine stp ?_; intros)
  refine EK.again ⟨i + 1, by omega⟩ (by dsimp only; omega) ?_
  simp only [LM]
  exact Le.kp
 ·
  obtain rfl : i = kk := by omega
  have hFr : ∀ F : List (Value × D), (L, D.sl 55 (l.map ak)) ∈ F → Refine F (.v L) (.sl 55 (l.map ak)) := fun F h => Rf.fact h rfl
  have hlen1 : ((l.map ak).drop i).length ≤ l.length := by rw [OB, hml]; omega
  have hlen2 : ((l.map ak).take i).length ≤ l.length := by rw [LV, hml]; omega
  have hres : [] ++ (l.map ak).take i ++ [ak (AcL.none a)] ++ (l.map ak).drop i = (l.take i ++ AcL.none a :: l.drop i).map ak := by simp
  have hilen : i < ([] ++ (l.map ak).take i ++ [ak (AcL.none a)] ++ (l.map ak).drop i).length := by simp; omega
  by_cases hil : i < l.length
  ·
   have hd : (l.map ak)[i]? = some (ak l[i]) := by rw [List.getElem?_map, KJ hil]; rfl
   have hb := lF l[i].a a
   rw [(hhi hil).1] at hb
   have hne := (jc l[i].a a).2
   rw [(hhi hil).2] at hne
   repeat (refine stp ?_; intros)
   refine EC.draw 21 (by kernel_rfl) ?_
   simp only [KG, KI, KF, KH]
   repeat
    (first
     | (apply pO; exact iC; rfl; exact I2; (rw [hml]; omega); iterate 2 rfl)
     | (apply nK (k := i) (off := 0) (d := ak l[i]); rfl; exact I2; exact ⟨by simp, hd⟩; iterate 4 rfl) | (apply nM; exact iC; iterate 3 rfl)
     | (apply je; rfl; exact I0; iterate 4 rfl) | (refine dP (hrun := hb) (kk := ?_)) | (refine sth ?_; intros))
   repeat (refine stp ?_; intros)
   refine EC.draw 19 (by kernel_rfl) ?_
   simp only [KG, KI, KF, KH]
   repeat
    (first
     | (apply dB (k := i) (off := 0) (d := ak l[i]); rfl; exact I2; exact ⟨by simp, hd⟩; iterate 4 rfl) | (refine dP (hrun := hne) (kk := ?_))
     | (refine sth ?_; intros))
   repeat (refine stp ?_; intros)
   refine EL.le (Le.freeze (pre := [_, _]) rfl) ?_
   refine EL.le (Le.pick [1, 0] [_, _] rfl (by decide) rfl) ?_
   refine EL.le (Le.yL (d' := .tup [.sl 55 (l.map ak), .v k, .v (.int .i64 n)]) (Rf.tup (RL.cons (hFr _ KQ) RL.a))) ?_
   refine EL.le (Le.refine (t := 52) rfl (hFr _ KQ)) ?_
   refine EL.le (Le.row 51 55) ?_
   repeat
    (first
     | (apply fZ; (iterate 3 rfl); exact ⟨by omega, by rw [hml, L6]; omega⟩; iterate 2 rfl) | (refine stp ?_; intros))
   rename_i v1
   dsimp only
   refine EC.le (Le.freeze (pre := []) rfl) ?_
   refine EC.le (Le.refine (t := 6) rfl (Rf.fact KQ rfl)) ?_
   refine EC.le (Le.row 51 55) ?_
   dsimp only
   refine EC.bI 14 [0, 1, 2, 3, 4, 5, 6, 8, 9, 10, 12] [7, 11, 13] [_] _ (by kernel_rfl) (by kernel_rfl) rfl ?_
   simp only [aA, KU, KY, KN, KP]
   repeat
    (first
     | (apply Fh; (iterate 3 rfl); exact ⟨by omega, by rw [hml, L6]; omega⟩; iterate 2 rfl) | (refine sth ?_; intros))
   refine EM.nil ?_
   repeat (first | rw [KD] | rw [KE])
   refine CH.mut (os := [_]) (rest := []) rfl rfl (fU rfl rfl rfl rfl rfl ⟨by simp; omega, by simp; omega⟩) ?_
   rintro _ _ ⟨v2, rfl, rfl⟩
   try simp only [St.put]
   repeat (first | rw [KD] | rw [KE])
   refine CH.mut (os := [_]) (rest := []) rfl rfl (fU rfl rfl rfl rfl rfl ⟨by simp; omega, by simp; omega⟩) ?_
   rintro _ _ ⟨v3, rfl, rfl⟩
   try simp only [St.put]
   repeat (first | rw [KD] | rw [KE])
   refine CH.mut (os := [_]) (rest := []) rfl rfl (fU rfl rfl rfl rfl rfl ⟨by simp; omega, by simp; omega⟩) ?_
   rintro _ _ ⟨v4, rfl, rfl⟩
   try simp only [St.put]
   repeat (first | rw [KD] | rw [KE])
   refine CH.nil ?_
   try simp only [KF, KH]
   repeat (refine stp ?_; intros)
   refine EK.le (Le.Dj (ds' := [] ++ (l.map ak).take i ++ [ak (AcL.none a)] ++ (l.map ak).drop i) (RL.append (RL.append (aj.refl _ _) (RL.cons (Rf.tup (RL.cons Rf.same (RL.cons Rf.same (RL.cons Rf.same (RL.cons Rf.bs0 (RL.cons Rf.sl0 RL.nil)))))) RL.nil)) (aj.refl _ _))) ?_
   refine EK.le (Le.pick [1, 0, 2] [_, _, _] rfl (by decide) rfl) ?_
   exact EK.aI [rsO g v4 k n, .row v4 51 55 ([] ++ (l.map ak).take i ++ [ak (AcL.none a)] ++ (l.map ak).drop i)] rfl rfl (by (repeat first | exact KO _ | apply List.Sublist.cons_cons | apply List.Sublist.cons)) ⟨v4, rfl, by rw [hres]⟩
  ·
   skip
   repeat (refine stp ?_; intros)
   refine EC.draw 21 (by kernel_rfl) ?_
   simp only [KG, KI, KF, KH]
   repeat (refine sth ?_; intros)
   repeat (refine stp ?_; intros)
   refine EC.draw 19 (by kernel_rfl) ?_
   simp only [KG, KI, KF, KH]
   repeat (refine sth ?_; intros)
   repeat (refine stp ?_; intros)
   refine EL.le (Le.freeze (pre := [_, _]) rfl) ?_
   refine EL.le (Le.pick [1, 0] [_, _] rfl (by decide) rfl) ?_
   refine EL.le (Le.yL (d' := .tup [.sl 55 (l.map ak), .v k, .v (.int .i64 n)]) (Rf.tup (RL.cons (hFr _ KQ) RL.a))) ?_
   refine EL.le (Le.refine (t := 52) rfl (hFr _ KQ)) ?_
   refine EL.le (Le.row 51 55) ?_
   repeat
    (first
     | (apply fZ; (iterate 3 rfl); exact ⟨by omega, by rw [hml, L6]; omega⟩; iterate 2 rfl) | (refine stp ?_; intros))
   rename_i v1
   dsimp only
   refine EC.le (Le.freeze (pre := []) rfl) ?_
   refine EC.le (Le.refine (t := 6) rfl (Rf.fact KQ rfl)) ?_
   refine EC.le (Le.row 51 55) ?_
   dsimp only
   refine EC.bI 14 [0, 1, 2, 3, 4, 5, 6, 8, 9, 10, 12] [7, 11, 13] [_] _ (by kernel_rfl) (by kernel_rfl) rfl ?_
   simp only [aA, KU, KY, KN, KP]
   repeat
    (first
     | (apply Fh; (iterate 3 rfl); exact ⟨by omega, by rw [hml, L6]; omega⟩; iterate 2 rfl) | (refine sth ?_; intros))
   refine EM.nil ?_
   repeat (first | rw [KD] | rw [KE])
   refine CH.mut (os := [_]) (rest := []) rfl rfl (fU rfl rfl rfl rfl rfl ⟨by simp; omega, by simp; omega⟩) ?_
   rintro _ _ ⟨v2, rfl, rfl⟩
   try simp only [St.put]
   repeat (first | rw [KD] | rw [KE])
   refine CH.mut (os := [_]) (rest := []) rfl rfl (fU rfl rfl rfl rfl rfl ⟨by simp; omega, by simp; omega⟩) ?_
   rintro _ _ ⟨v3, rfl, rfl⟩
   try simp only [St.put]
   repeat (first | rw [KD] | rw [KE])
   refine CH.mut (os := [_]) (rest := []) rfl rfl (fU rfl rfl rfl rfl rfl ⟨by simp; omega, by simp; omega⟩) ?_
   rintro _ _ ⟨v4, rfl, rfl⟩
   try simp only [St.put]
   repeat (first | rw [KD] | rw [KE])
   refine CH.nil ?_
   try simp only [KF, KH]
   repeat (refine stp ?_; intros)
   refine EK.le (Le.Dj (ds' := [] ++ (l.map ak).take i ++ [ak (AcL.none a)] ++ (l.map ak).drop i) (RL.append (RL.append (aj.refl _ _) (RL.cons (Rf.tup (RL.cons Rf.same (RL.cons Rf.same (RL.cons Rf.same (RL.cons Rf.bs0 (RL.cons Rf.sl0 RL.nil)))))) RL.nil)) (aj.refl _ _))) ?_
   refine EK.le (Le.pick [1, 0, 2] [_, _, _] rfl (by decide) rfl) ?_
   exact EK.aI [rsO g v4 k n, .row v4 51 55 ([] ++ (l.map ak).take i ++ [ak (AcL.none a)] ++ (l.map ak).drop i)] rfl rfl (by (repeat first | exact KO _ | apply List.Sublist.cons_cons | apply List.Sublist.cons)) ⟨v4, rfl, by rw [hres]⟩
end E
end Go.Proofs.YtkhjanjlcdhdcaaGreat
namespace Go.Proofs.YtkhjanjlcdhdcaaGreat
set_option linter.unusedVariables false
open Go.RowKit Mono Rlp Wd Go.Sort
namespace E
section
variable {N : Nat} {X : Cx N} {ops : Array Oper} {Q : Exit → Act → World → Prop}
theorem lH {l' : List Oper} {t ty f : Nat} {pos : String} {af : Array Edge} {gd : Option (Nat × Bool)} {args : Array Operand} {tys : Array TypeId} {ds ds' : List D} {Φ : R → List Obj → Prop} {rs : List (Tmp × R)} {os os0 : List Obj} {fs : List (Value × D)} (hF : FnM f ds' os Φ) (l1 : List Obj) (hos : os0 = l1 ++ os)
  (hx : evs (⟨rs, l1, fs⟩ : St) args.toList = some ds) (hR : aj fs ds ds') (hf : Enters f) (hg : guardOf ops ⟨rs, os ++ l1, fs⟩ ⟨some t, .call { callee := .value (.func f), args := args, argTypes := tys }, ty, pos, af, gd⟩ = some true) (hN : Nat.blt t N = true) (k : ∀ r os', Φ r os' → EL X ops Q l' ⟨(t, r) :: rs, l1 ++ os', fs⟩) : EL X ops Q (⟨some t, .call { callee := .value (.func f), args := args, argTypes := tys }, ty, pos, af, gd⟩ :: l') ⟨rs, os0, fs⟩ := by
 subst hos
 exact EL.le (Le.perm Lm) (bJ hF rfl hx hR hf hg hN fun r os' h => EL.le (Le.perm Lm) (k r os' h))
end
theorem PA.Is.mono {p : PA} {x : Ac} {N M : Nat} (h : p.Is x N) (hm : N ≤ M) : p.Is x M := ⟨h.n, h.w, h.cd, h.sl, h.ent, h.nod, LG h.len hm, h.cl⟩
theorem PSt.mono {g N M : Nat} {A : As} {os : List Obj} (h : PSt g A N os) (hm : N ≤ M) : PSt g A M os := by
 obtain ⟨m, c, es, u, k, n, us, ps, h1, hi, hu⟩ := h
 exact ⟨m, c, es, u, k, n, us, ps, h1, ⟨hi.out, fun a d h => by obtain ⟨p, h1, h2, h3⟩ := hi.inn a d h; exact ⟨p, h1, h2, h3.mono hm⟩, hi.inj, hi.nod, LG hi.len hm⟩, hu⟩
structure ChL where
 a : List UInt8
 gone : Bool
 n : Int
 w : List UInt8
 cd : List UInt8
 sl : List (List UInt8 × List UInt8)
def ChL.base (c : ChL) (A : As) : As :=
 let A1 := if c.gone = true then A.upd c.a Ac.zero else A
 let A2 := A1.upd c.a {A1 c.a with n := if c.n > 0 then c.n else 0}
 let A3 := A2.upd c.a {A2 c.a with w := c.w}
 A3.upd c.a {A3 c.a with cd := c.cd}
def gW (a : List UInt8) (sl : List (List UInt8 × List UInt8)) (A : As) : As := sl.foldl (fun A p => A.upd a ((A a).slot p.1 p.2)) A
def ChL.of (c : ChL) (A : As) : As := gW c.a c.sl (c.base A)
theorem wC (a : List UInt8) (sl : List (List UInt8 × List UInt8)) (p : List UInt8 × List UInt8) (A : As) : gW a (sl ++ [p]) A = (gW a sl A).upd a ((gW a sl A a).slot p.1 p.2) := by unfold gW; rw [List.foldl_append]; rfl
end E
end Go.Proofs.YtkhjanjlcdhdcaaGreat
