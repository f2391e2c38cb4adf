/-
  Merged (wip/tools/merge.py): STA, EZ, EW3, EW4.
  Conditions: none.
-/
import Derived.Test.YtdhicdnmgmkpkaaZM16
import Derived.Test.YtdhicdnmgmkpkaaZM13
/-
  The reference's state: SetBalance.
  Conditions: none.
-/
namespace Go.Proofs.Ytdhicdnmgmkpkaa
set_option linter.unusedVariables false
open Go.RowKit Mono Rlp Wd
namespace E
set_option maxRecDepth 20000 in
set_option maxHeartbeats 8000000 in
theorem rsetBalance_in {g : Nat} {L k : Value} {n : Int} (l : List (List UInt8 × List UInt8)) (a w : List UInt8) (hll : l.length < 1099511627776) (kk : Nat) (hkk : kk < l.length) (hlo : ∀ j (hj : j < l.length), j < kk → Op.bytesLess l[j].1 a = true) (he : l[kk].1 = a) : FnM 10 [.v (ptr g), .arr 20 a, .arr 32 w] [rsO g L k n, raO L l] (fun r os' => r = .tpl [] ∧ os' = [rsO g L k n, raO L (l.set kk (a, w))]) := by
  have h1 := at_in (g := g) (L := L) (k := k) (n := n) l a hll kk hkk hlo he
  have hml : (l.map dA).length = l.length := List.length_map _
  have hd : (l.map dA)[kk]? = some (dA (a, l[kk].2)) := by rw [List.getElem?_map, List.getElem?_eq_getElem hkk, ← he]; rfl
  have hres : (l.map dA).set kk (dA (a, w)) = (l.set kk (a, w)).map dA := by rw [List.map_set]
  refine FnM.walk 12 Try.func10 rfl Try.ntmps10 (by simp) fun X => ?_
  repeat
    (first
     | (apply P_box; exact rfl; exact rfl; exact rfl; intro _) | apply EL.nil | ((with_reducible apply EK.then_normal); apply EK.code)
     | (with_reducible first | apply EC.seq | apply EC.region | apply EC.skip | apply EC.label | apply EC.block | apply EC.exit | apply EC.ret | apply EK.in_normal | apply EK.in_same | apply EK.in_ret | apply EK.then_ret | apply EK.then_exit))
  refine EC.le (Le.pick [2, 3, 0, 1] [_, _, _, _] rfl (by decide) rfl) ?_
  refine EC.drawC 4 [0, 1, 3] [2] [_, _] _ (by kernel_rfl) (by kernel_rfl) rfl ?_
  simp only [pickL, List.filterMap_cons, List.filterMap_nil, List.getElem?_cons_zero, List.getElem?_cons_succ]
  repeat
    (first
     | (apply H_move; (iterate 3 exact rfl)) | (apply H_load; exact rfl; (first | exact I0 | exact I1 | exact I2 | exact I3 | exact I4 | exact I5 | exact I6); (iterate 4 exact rfl)))
  refine EM.nil ?_
  repeat (first | rw [List.cons_append] | rw [List.nil_append])
  refine CH.callM (rest := []) h1 rfl rfl (RefineL.refl _ _) (by intro _ _; simp [go_sem]) rfl rfl ?_
  rintro _ _ ⟨rfl, rfl⟩
  try simp only [St.put]
  repeat (first | rw [List.cons_append] | rw [List.nil_append])
  refine CH.nil ?_
  try simp only [List.drop_succ_cons, List.drop_zero]
  repeat
    (first
     | (apply P_rownil; exact rfl; exact I1; (rw [hml]; omega); (iterate 2 exact rfl)) | (apply P_rowfield; exact rfl; exact I1; (rw [hml]; omega); (iterate 5 exact rfl))
     | (apply P_rowstore (k := kk) (off := 21) (d := dA (a, l[kk].2)) (d'' := dA (a, w)); exact rfl; exact .s .z; exact ⟨by simp, hd⟩; (iterate 4 exact rfl)) | apply EL.nil)
  exact EK.retM0n [rsO g L k n, .row L 37 55 ((l.map dA).set kk (dA (a, w)))] rfl (by (repeat first | exact List.nil_sublist _ | apply List.Sublist.cons_cons | apply List.Sublist.cons)) ⟨rfl, by rw [hres]⟩
set_option maxRecDepth 20000 in
set_option maxHeartbeats 8000000 in
theorem rsetBalance_out {g : Nat} {L k : Value} {n : Int} (l : List (List UInt8 × List UInt8)) (a w : List UInt8) (hll : l.length < 1099511627) (kk : Nat) (hkk : kk ≤ l.length) (hlo : ∀ j (hj : j < l.length), j < kk → Op.bytesLess l[j].1 a = true) (hhi : ∀ hj : kk < l.length, Op.bytesLess l[kk].1 a = false ∧ (l[kk].1 != a) = true) : FnM 10 [.v (ptr g), .arr 20 a, .arr 32 w] [rsO g L k n, raO L l] (fun r os' => r = .tpl [] ∧ ∃ L', os' = [rsO g L' k n, raO L' (l.take kk ++ (a, w) :: l.drop kk)]) := by
  have h1 := at_out (g := g) (L := L) (k := k) (n := n) l a hll kk hkk hlo hhi
  have htl : (l.take kk).length = kk := by rw [List.length_take]; omega
  have hd : ((l.take kk ++ (a, zero32) :: l.drop kk).map dA)[kk]? = some (dA (a, zero32)) := by
    rw [List.getElem?_map, List.getElem?_append_right (by omega), htl, Nat.sub_self]
    rfl
  have hres : ((l.take kk ++ (a, zero32) :: l.drop kk).map dA).set kk (dA (a, w)) = (l.take kk ++ (a, w) :: l.drop kk).map dA := by
    rw [← List.map_set, List.set_append_right _ _ (by omega), htl, Nat.sub_self, List.set_cons_zero]
  have hpos : 0 < ((l.take kk ++ (a, zero32) :: l.drop kk).map dA).length := by simp; omega
  refine FnM.walk 12 Try.func10 rfl Try.ntmps10 (by simp) fun X => ?_
  repeat
    (first
     | (apply P_box; exact rfl; exact rfl; exact rfl; intro _) | apply EL.nil | ((with_reducible apply EK.then_normal); apply EK.code)
     | (with_reducible first | apply EC.seq | apply EC.region | apply EC.skip | apply EC.label | apply EC.block | apply EC.exit | apply EC.ret | apply EK.in_normal | apply EK.in_same | apply EK.in_ret | apply EK.then_ret | apply EK.then_exit))
  refine EC.le (Le.pick [2, 3, 0, 1] [_, _, _, _] rfl (by decide) rfl) ?_
  refine EC.drawC 4 [0, 1, 3] [2] [_, _] _ (by kernel_rfl) (by kernel_rfl) rfl ?_
  simp only [pickL, List.filterMap_cons, List.filterMap_nil, List.getElem?_cons_zero, List.getElem?_cons_succ]
  repeat
    (first
     | (apply H_move; (iterate 3 exact rfl)) | (apply H_load; exact rfl; (first | exact I0 | exact I1 | exact I2 | exact I3 | exact I4 | exact I5 | exact I6); (iterate 4 exact rfl)))
  refine EM.nil ?_
  repeat (first | rw [List.cons_append] | rw [List.nil_append])
  refine CH.callM (rest := []) h1 rfl rfl (RefineL.refl _ _) (by intro _ _; simp [go_sem]) rfl rfl ?_
  rintro _ _ ⟨L', rfl, rfl⟩
  try simp only [St.put]
  repeat (first | rw [List.cons_append] | rw [List.nil_append])
  refine CH.nil ?_
  try simp only [List.drop_succ_cons, List.drop_zero]
  repeat
    (first
     | (apply P_rownil; exact rfl; exact I1; exact hpos; (iterate 2 exact rfl)) | (apply P_rowfield; exact rfl; exact I1; exact hpos; (iterate 5 exact rfl))
     | (apply P_rowstore (k := kk) (off := 21) (d := dA (a, zero32)) (d'' := dA (a, w)); exact rfl; exact .s .z; exact ⟨by simp, hd⟩; (iterate 4 exact rfl)) | apply EL.nil)
  exact EK.retM0n [rsO g L' k n, .row L' 37 55 (((l.take kk ++ (a, zero32) :: l.drop kk).map dA).set kk (dA (a, w)))] rfl (by (repeat first | exact List.nil_sublist _ | apply List.Sublist.cons_cons | apply List.Sublist.cons)) ⟨rfl, L', by rw [hres]⟩
end E
end Go.Proofs.Ytdhicdnmgmkpkaa
/-
  A field of a struct's value.
  Conditions: none.
-/
namespace Go.Proofs.Ytdhicdnmgmkpkaa
set_option linter.unusedVariables false
open Go.RowKit Mono Rlp
namespace E
section
variable {N : Nat} {X : Cx N} {S : St} {ops : Array Oper} {o : Oper} {w : World} {ok : Nat → Prop} {Q : Exit → Act → World → Prop} {l' : List Oper} {TT : St → List Fr → Prop} {EE : List Fr} {rs : List (Tmp × R)} {os : List Obj} {fs : List (Value × D)}
theorem run_fieldV {T k off sz : Nat} {ag : Bool} (F : Fld Try.prog T k off sz ag) {d d' : D} {cs : List Value} (hr : Reads ok w d cs) (hs : d.sub off sz ag = some d') : ∃ mid, Reads ok w d' mid ∧ (Instr.field T (.agg cs.toArray) k).run Try.prog w = .ok (form d' mid) w := by
  obtain ⟨e1, e2, pre, mid, post, rfl, e3, e4⟩ := sub_spec d off sz ag d' cs hs hr
  obtain ⟨⟨fs, f, dd, h1, h2, h3, h4, h5, h6⟩, hpos⟩ := F
  have hml : mid.length = sz := by rw [← e1]; exact Reads.len _ _ e4
  have hA : (isAgg f.type).run Try.prog w = .ok ag w := by
    unfold isAgg
    simp only [Sem.run_bind, run_underlying h5, Result.andThen_ok]
    subst h6
    cases dd <;> rfl
  refine ⟨mid, e4, ?_⟩
  subst h3
  cases ag with
  | true =>
    have hf : form d' mid = .agg mid.toArray := by unfold form; rw [e2]; rfl
    rw [hf]
    unfold Instr.field
    cases hi : Try.prog.info? f.type with
    | none => rw [hi] at h4; cases h4
    | some i =>
      rw [hi] at h4
      have hsz : i.size = sz := by simpa using h4
      simp [run_underlying h1, h2, asAgg, part, hA, sizeOf, typeInfo, hi, hsz]
      rw [← e3, ← hml]
      simp
  | false =>
    have hf : form d' mid = mid.headD undef := by unfold form; rw [e2]; rfl
    rw [hf]
    unfold Instr.field
    obtain ⟨x, rest, rfl⟩ : ∃ x rest, mid = x :: rest := by
      cases mid with
      | nil => simp at hml; omega
      | cons x rest => exact ⟨x, rest, rfl⟩
    simp [run_underlying h1, h2, asAgg, part, hA, ← e3]
theorem g_fieldv {x : Operand} {T k off sz : Nat} {ag : Bool} {d d' : D} {lf : List (Nat × Nat × Bool)} (ho : o.op = .field T x k) (hx : ev S x = some (.val d)) (ha : d.agg = true) (h : assoc stL T = some lf) (hk : lf[k]? = some (off, sz, ag)) (h0 : Nat.blt 0 sz = true) (hs : d.sub off sz ag = some d') : Still ops S o (.val d') := fun base ok a w hkn => by
  obtain ⟨cs, h1, h2⟩ := (readV_agg ha).1 (hkn.ev hx (looks_op (by rw [ho]; simp [Op.operands])))
  obtain ⟨mid, h3, h4⟩ := run_fieldV (fldI h hk h0) h1 hs
  refine ⟨form d' mid, ?_, mid, h3, rfl⟩
  unfold execOp
  simp only [ho, h2, Sem.run_bind, h4, Result.andThen_ok, Sem.run_pure]
theorem P_fieldv {t ty : Nat} {pos : String} {af : Array Edge} {gd : Option (Nat × Bool)} {x : Operand} {T k off sz : Nat} {ag : Bool} {d d' : D} {lf : List (Nat × Nat × Bool)} (hx : ev (⟨rs, os, fs⟩ : St) x = some (.val d)) (ha : d.agg = true) (h : assoc stL T = some lf) (hk : lf[k]? = some (off, sz, ag)) (h0 : Nat.blt 0 sz = true) (hs : d.sub off sz ag = some d') (hg : guardOf ops ⟨rs, os, fs⟩ ⟨some t, .field T x k, ty, pos, af, gd⟩ = some true) (hN : Nat.blt t N = true) (kk : EL X ops Q l' ⟨(t, .val d') :: rs, os, fs⟩) : EL X ops Q (⟨some t, .field T x k, ty, pos, af, gd⟩ :: l') ⟨rs, os, fs⟩ := ES.still (g_fieldv rfl hx ha h hk h0 hs) hg rfl hN kk
theorem H_fieldv {t ty : Nat} {pos : String} {af : Array Edge} {gd : Option (Nat × Bool)} {x : Operand} {T k off sz : Nat} {ag : Bool} {d d' : D} {lf : List (Nat × Nat × Bool)} (hx : ev (⟨rs, os, fs⟩ : St) x = some (.val d)) (ha : d.agg = true) (h : assoc stL T = some lf) (hk : lf[k]? = some (off, sz, ag)) (h0 : Nat.blt 0 sz = true) (hs : d.sub off sz ag = some d') (hg : guardOf ops ⟨rs, os, fs⟩ ⟨some t, .field T x k, ty, pos, af, gd⟩ = some true) (hoff : offB N (some t) EE = true) (kk : EM N ops TT l' ⟨(t, .val d') :: rs, os, fs⟩ EE) : EM N ops TT (⟨some t, .field T x k, ty, pos, af, gd⟩ :: l') ⟨rs, os, fs⟩ EE := EH.still (g_fieldv rfl hx ha h hk h0 hs) hg rfl hoff kk
end
end E
end Go.Proofs.Ytdhicdnmgmkpkaa
/-
  The reference's words: digits of two bytes; limbs, word, add, sub, cmp; Cmp, Add, Sub.
  Conditions: none.
-/
namespace Go.Proofs.Ytdhicdnmgmkpkaa
set_option linter.unusedVariables false
open Go.RowKit Mono Rlp Wd
namespace E
abbrev i64 (n : Nat) : Value := .int .i64 (n : Int)
def dIs (ds : List Nat) : List D := (ds.map i64).map .v
@[simp] theorem dIs_length (ds : List Nat) : (dIs ds).length = ds.length := by simp [dIs]
theorem dIs_get {ds : List Nat} {k : Nat} (hk : k < ds.length) : (dIs ds)[k]? = some (.v (i64 ds[k])) := by
  unfold dIs
  rw [List.getElem?_map, List.getElem?_map, List.getElem?_eq_getElem hk]
  rfl
theorem dIs_set (ds : List Nat) (k x : Nat) : (dIs ds).set k (.v (i64 x)) = dIs (ds.set k x) := by
  unfold dIs
  rw [List.map_set, List.map_set]
theorem dIs_append (ds es : List Nat) : dIs ds ++ dIs es = dIs (ds ++ es) := by simp [dIs]
theorem dIs_rep (n : Nat) : List.replicate n (D.v (.int .i64 0)) = dIs (List.replicate n 0) := by simp [dIs, i64]
theorem i64_wrap (n : Nat) (h : n < 9223372036854775808) : IntKind.i64.wrap (n : Int) = (n : Int) := IntWalk.i64_in _ ⟨by omega, by omega⟩
theorem ofInt_nat (a : Nat) (h : a < 18446744073709551616) : (BitVec.ofInt 64 (a : Int)).toNat = a := by
  rw [BitVec.toNat_ofInt]
  omega
theorem i64_or_nat (a b : Nat) (ha : a < 9223372036854775808) (hb : b < 9223372036854775808) : bits .or .i64 (a : Int) (b : Int) = ((a ||| b : Nat) : Int) := by
  have h := Nat.or_lt_two_pow (n := 63) ha hb
  show IntKind.i64.wrap (((BitVec.ofInt 64 (a : Int) ||| BitVec.ofInt 64 (b : Int)).toNat : Nat) : Int) = _
  rw [BitVec.toNat_or, ofInt_nat a (by omega), ofInt_nat b (by omega)]
  exact i64_wrap _ h
theorem i64_and_nat (a b : Nat) (ha : a < 9223372036854775808) (hb : b < 9223372036854775808) : bits .and .i64 (a : Int) (b : Int) = ((a &&& b : Nat) : Int) := by
  have h : a &&& b ≤ a := Nat.and_le_left
  show IntKind.i64.wrap (((BitVec.ofInt 64 (a : Int) &&& BitVec.ofInt 64 (b : Int)).toNat : Nat) : Int) = _
  rw [BitVec.toNat_and, ofInt_nat a (by omega), ofInt_nat b (by omega)]
  exact i64_wrap _ (by omega)
theorem bin_or64 (T : TypeId) (x y : Nat) (hx : x < 9223372036854775808) (hy : y < 9223372036854775808) : Bin .or T (.v (i64 x)) (.v (i64 y)) (i64 (x ||| y)) := bin_of rfl fun w => by
  show Result.ok (Value.int .i64 (bits .or .i64 (x : Int) (y : Int))) w = _
  rw [i64_or_nat x y hx hy]
theorem bin_mask (T : TypeId) (x k : Nat) (hx : x < 9223372036854775808) (hk : k < 63) (m : Int) (hm : m = ((2 ^ k - 1 : Nat) : Int)) : Bin .and T (.v (i64 x)) (.v (.int .i64 m)) (i64 (x % 2 ^ k)) := bin_of rfl fun w => by
  subst hm
  have hp : 2 ^ k - 1 < 9223372036854775808 := by
    have : 2 ^ k < 2 ^ 63 := Nat.pow_lt_pow_right (by decide) hk
    omega
  show Result.ok (Value.int .i64 (bits .and .i64 (x : Int) ((2 ^ k - 1 : Nat) : Int))) w = _
  rw [i64_and_nat x _ hx hp, Nat.and_two_pow_sub_one_eq_mod]
theorem bin_shl64 (T : TypeId) (x k : Nat) (hk : k < 64) (hx : x * 2 ^ k < 9223372036854775808) : Bin .shl T (.v (i64 x)) (.v (.int .u64 (k : Int))) (i64 (x * 2 ^ k)) := bin_of rfl fun w => by
  have h1 : ¬ ((k : Int) < 0) := by omega
  have h2 : min ((k : Int)).toNat IntKind.i64.bits = k := by
    rw [Int.toNat_natCast]
    exact Nat.min_eq_left (Nat.le_of_lt hk)
  have h3 : IntKind.i64.wrap ((x : Int) * 2 ^ k) = ((x * 2 ^ k : Nat) : Int) := by
    have : ((x : Int) * 2 ^ k) = ((x * 2 ^ k : Nat) : Int) := by simp
    rw [this]
    exact i64_wrap _ hx
  show (Op.shift .shl .i64 (x : Int) .u64 (k : Int)).run Try.prog w = _
  unfold Op.shift
  rw [if_neg h1]
  simp only [h2, h3, Sem.run_pure]
theorem bin_shr64 (T : TypeId) (x k : Nat) (hk : k < 64) : Bin .shr T (.v (i64 x)) (.v (.int .u64 (k : Int))) (i64 (x / 2 ^ k)) := bin_of rfl fun w => by
  have h1 : ¬ ((k : Int) < 0) := by omega
  have h2 : min ((k : Int)).toNat IntKind.i64.bits = k := by
    rw [Int.toNat_natCast]
    exact Nat.min_eq_left (Nat.le_of_lt hk)
  have h3 : (x : Int).fdiv (2 ^ k) = ((x / 2 ^ k : Nat) : Int) := by
    rw [Int.fdiv_eq_ediv_of_nonneg _ (Int.le_of_lt (Int.pow_pos (by decide)))]
    simp
  show (Op.shift .shr .i64 (x : Int) .u64 (k : Int)).run Try.prog w = _
  unfold Op.shift
  rw [if_neg h1]
  simp only [h2, h3, Sem.run_pure]
section
variable {N : Nat} {ops : Array Oper} {l : List Oper} {TT : St → List Fr → Prop} {EE : List Fr} {rs : List (Tmp × R)} {os : List Obj} {fs : List (Value × D)}
theorem H_load8 {t ty : Nat} {pos : String} {af : Array Edge} {gd : Option (Nat × Bool)} {x : Operand} {T g n k i : Nat} {t0 : TypeId} {m : List UInt8} {b : UInt8} (hb : m[k]? = some b) (hx : ev (⟨rs, os, fs⟩ : St) x = some (.val (.v (.pointer (some ⟨g, k, none⟩))))) (hi : os[i]? = some (.var g t0 (.arr n m))) (hT : assoc tyL T = some (1, false)) (hg : guardOf ops ⟨rs, os, fs⟩ ⟨some t, .load T x, ty, pos, af, gd⟩ = some true) (hoff : offB N (some t) EE = true) (kk : EM N ops TT l ⟨(t, .val (.v (bv b))) :: rs, os, fs⟩ EE) : EM N ops TT (⟨some t, .load T x, ty, pos, af, gd⟩ :: l) ⟨rs, os, fs⟩ EE := EH.still (g_load8 i rfl hx hi hT hb) hg rfl hoff kk
end
theorem dig_get (v : List UInt8) (hv : v.length = 32) (i : Nat) (hi : i < 16) : (limbsW 2 16 v).getD i 0 = (v[31 - 2 * i]'(by omega)).toNat + (v[30 - 2 * i]'(by omega)).toNat * 256 := by
  have h1 : (limbsW 2 16 v).getD i 0 = Wd.le 256 (((nb v.reverse).drop (2 * i)).take 2) := by
    simp [limbsW, chunks, hi]
  have g : ∀ p, p < 32 → (nb v.reverse)[p]? = some (v[31 - p]'(by omega)).toNat := fun p hp => by
    have := rev_get v hv (31 - p) (by omega)
    rwa [show 31 - (31 - p) = p by omega] at this
  have h2 : ((nb v.reverse).drop (2 * i)).take 2 = [(v[31 - 2 * i]'(by omega)).toNat, (v[30 - 2 * i]'(by omega)).toNat] := by
    apply List.ext_getElem?
    intro p
    rw [List.getElem?_take, List.getElem?_drop]
    match p with
    | 0 => rw [if_pos (by omega), g _ (by omega)]; rfl
    | 1 =>
      rw [if_pos (by omega), g _ (by omega)]
      simp only [List.getElem?_cons_succ, List.getElem?_cons_zero, Option.some.injEq]
      congr 2
      omega
    | p + 2 => rw [if_neg (by omega)]; rfl
  rw [h1, h2]
  simp only [Wd.le]
  omega
set_option maxRecDepth 20000 in
set_option maxHeartbeats 8000000 in
theorem f_limbs (v : List UInt8) (hv : v.length = 32) : Fn 72 [.arr 32 v] (· = .val (.sl 1 (dIs (limbsW 2 16 v)))) := by
  have hWl : (limbsW 2 16 v).length = 16 := limbsW_length 2 16 v
  have hget := dig_get v hv
  generalize limbsW 2 16 v = W at hWl hget
  refine Fn.walk 28 Try.func72 rfl Try.ntmps72 (by simp) fun X => ?_
  repeat
    (first
     | (apply P_assign; (iterate 3 exact rfl)) | (apply P_box; exact rfl; exact rfl; exact rfl; intro _) | apply EL.nil | ((with_reducible apply EK.then_normal); apply EK.code)
     | (with_reducible first | apply EC.seq | apply EC.region | apply EC.skip | apply EC.label | apply EC.block | apply EC.exit | apply EC.ret | apply EK.in_normal | apply EK.in_same | apply EK.in_ret | apply EK.then_ret | apply EK.then_exit))
  apply P_make (n := 16) (y' := 8)
  · exact ⟨by decide, by decide⟩
  iterate 5 exact rfl
  intro sv
  rename_i g1
  rw [dIs_rep 16]
  repeat
    (first
     | (apply P_assign; (iterate 3 exact rfl)) | apply EL.nil | ((with_reducible apply EK.then_normal); apply EK.code)
     | (with_reducible first | apply EC.seq | apply EC.region | apply EC.skip | apply EC.label | apply EC.block | apply EC.exit | apply EC.ret | apply EK.in_normal | apply EK.in_same | apply EK.in_ret | apply EK.then_ret | apply EK.then_exit))
  refine EC.loop (ι := {i : Nat // i ≤ 16})
    (fun i => ⟨[(4, .val (.v (.int .i64 (i.1 : Int)))), (3, .val (.v sv)), (1, .val (.v (.pointer (some ⟨g1, 0, none⟩))))], [.row sv 3 1 (dIs (W.take i.1 ++ List.replicate (16 - i.1) 0)), .var g1 25 (.arr 32 v)], []⟩)
    (fun i => 16 - i.1) ⟨0, by omega⟩ ?_ ?_
  · exact (Le.keep (by repeat first | exact trivial | refine ⟨rfl, ?_⟩) (by repeat first | exact List.nil_sublist _ | apply List.Sublist.cons_cons | apply List.Sublist.cons) (by simp))
  rintro ⟨i, hi⟩
  dsimp only at hi ⊢
  by_cases hlt : i < 16
  · have hWi := hget i hlt
    have hst := take_set_step W 0 i 16 hWl hlt
    rw [List.getD_eq_getElem?_getD, List.getElem?_eq_getElem (by omega), Option.getD_some] at hWi
    rw [hWi] at hst
    have hb1 : v[31 - 2 * i]? = some (v[31 - 2 * i]'(by omega)) := List.getElem?_eq_getElem _
    have hb2 : v[30 - 2 * i]? = some (v[30 - 2 * i]'(by omega)) := List.getElem?_eq_getElem _
    have l1 : (v[31 - 2 * i]'(by omega)).toNat < 256 := UInt8.toNat_lt _
    have l2 : (v[30 - 2 * i]'(by omega)).toNat < 256 := UInt8.toNat_lt _
    generalize (v[31 - 2 * i]'(by omega)) = b1 at hb1 hst l1
    generalize (v[30 - 2 * i]'(by omega)) = b2 at hb2 hst l2
    have c1 := fun b : UInt8 => conv_int (T := 5) (U := 3) (k := .u8) (k' := .i64) Try.underlying5 Try.underlying3 (b.toNat : Int) (b.toNat : Int) (i64_wrap _ (by have := b.toNat_lt; omega))
    have r1 := bin_shl64 3 b2.toNat 8 (by decide) (by omega)
    have r2 := bin_or64 3 b1.toNat (b2.toNat * 2 ^ 8) (by omega) (by omega)
    have hor : b1.toNat ||| b2.toNat * 2 ^ 8 = b1.toNat + b2.toNat * 256 := by
      rw [Nat.or_comm, or_add 8 (b2.toNat * 2 ^ 8) b1.toNat b2.toNat (Nat.mul_comm _ _) l1]
      omega
    rw [hor] at r2
    have o1 : 0 + ((31 : Int) - 2 * (i : Int)).toNat * 1 = 31 - 2 * i := by omega
    have o2 : 0 + ((30 : Int) - 2 * (i : Int)).toNat * 1 = 30 - 2 * i := by omega
    have hrl : (dIs (W.take i ++ List.replicate (16 - i) 0)).length = 16 := by rw [dIs_length, List.length_append, List.length_take, List.length_replicate]; omega
    have hold : (dIs (W.take i ++ List.replicate (16 - i) 0))[i]? = some (.v (i64 0)) := by
      rw [dIs_get (by rw [← dIs_length, hrl]; exact hlt)]
      congr 3
      rw [List.getElem_append_right (by rw [List.length_take]; omega), List.getElem_replicate]
    repeat
      (first
       | (apply P_move; (iterate 3 exact rfl)) | (apply P_cmp (b := true); (iterate 2 exact rfl); (focus (first | (simp [cmpI]; done) | (simp [cmpI]; omega))); (iterate 2 exact rfl)) | apply EL.nil
       | ((with_reducible apply EK.then_normal); apply EK.code) | (apply EC.cond_true; exact rfl)
       | (with_reducible first | apply EC.seq | apply EC.region | apply EC.skip | apply EC.label | apply EC.block | apply EC.exit | apply EC.ret | apply EK.in_normal | apply EK.in_same | apply EK.in_ret | apply EK.then_ret | apply EK.then_exit))
    refine EC.draw 16 (by kernel_rfl) ?_
    simp only [List.take_succ_cons, List.take_zero, List.drop_succ_cons, List.drop_zero]
    repeat
      (first
       | (apply H_bin; (iterate 2 exact rfl); exact r1; (iterate 2 exact rfl)) | (apply H_bin; (iterate 2 exact rfl); exact r2; (iterate 2 exact rfl))
       | (apply H_indexptr; (iterate 3 exact rfl); exact ⟨by omega, by omega⟩; (iterate 2 exact rfl))
       | (first | (apply H_load8 (k := 0 + ((31 : Int) - 2 * (i : Int)).toNat * 1); (rw [o1]; exact hb1); exact rfl; exact I1; (iterate 3 exact rfl)) | (apply H_load8 (k := 0 + ((30 : Int) - 2 * (i : Int)).toNat * 1); (rw [o2]; exact hb2); exact rfl; exact I1; (iterate 3 exact rfl)))
       | (apply H_conv; exact rfl; exact c1 _; (iterate 3 exact rfl)) | (apply H_move; (iterate 3 exact rfl)) | (apply H_ar; (iterate 3 exact rfl); (focus omega); (focus omega); (iterate 2 exact rfl))
       | ((with_reducible apply EH.nil); exact rfl))
    repeat
      (first
       | (apply P_rowidx; exact rfl; exact I0; (iterate 2 exact rfl); exact ⟨by omega, by omega⟩; (iterate 2 exact rfl))
       | (apply P_rowstore (k := i) (off := 0) (d := .v (i64 0)) (d'' := .v (i64 (b1.toNat + b2.toNat * 256))); exact rfl; exact .z; exact ⟨by omega, hold⟩; (iterate 4 exact rfl))
       | (apply P_move; (iterate 3 exact rfl)) | (apply P_assign; (iterate 3 exact rfl)) | (apply P_ar; (iterate 3 exact rfl); (focus omega); (focus omega); (iterate 2 exact rfl)) | apply EL.nil
       | ((with_reducible apply EK.then_normal); apply EK.code)
       | (with_reducible first | apply EC.seq | apply EC.region | apply EC.skip | apply EC.label | apply EC.block | apply EC.exit | apply EC.ret | apply EK.in_normal | apply EK.in_same | apply EK.in_ret | apply EK.then_ret | apply EK.then_exit))
    refine EK.again ⟨i + 1, by omega⟩ (by dsimp only; omega) ?_
    rw [dIs_set, hst]
    simp only [Int.natCast_add]
    exact (Le.keep (by repeat first | exact trivial | refine ⟨rfl, ?_⟩) (by repeat first | exact List.nil_sublist _ | apply List.Sublist.cons_cons | apply List.Sublist.cons) (by simp))
  · have : i = 16 := by omega
    subst this
    rw [List.take_of_length_le (by omega), Nat.sub_self, List.replicate_zero, List.append_nil]
    repeat
      (first
       | (apply P_move; (iterate 3 exact rfl)) | (apply P_assign; (iterate 3 exact rfl))
       | (apply P_cmp (b := false); (iterate 2 exact rfl); (focus (first | (simp [cmpI]; done) | (simp [cmpI]; omega))); (iterate 2 exact rfl)) | apply EL.nil
       | ((with_reducible apply EK.then_normal); apply EK.code) | (apply EC.cond_false; exact rfl)
       | (with_reducible first | apply EC.seq | apply EC.region | apply EC.skip | apply EC.label | apply EC.block | apply EC.exit | apply EC.ret | apply EK.in_normal | apply EK.in_same | apply EK.in_ret | apply EK.then_ret | apply EK.then_exit))
    refine EK.le (Le.freeze (pre := []) rfl) ?_
    refine EK.ret1r rfl rfl ?_ rfl
    (repeat first | exact RefineL.refl _ _ | exact RL.nil | exact Rf.same | exact Rf.bs0 | exact Rf.sl0 | (apply Rf.fact; (focus (simp; done)); exact rfl) | apply Rf.tup | apply RL.cons)
end E
end Go.Proofs.Ytdhicdnmgmkpkaa
/-
  The reference's words: word, add, sub, cmp by digits; Cmp, Add, Sub.
  Conditions: none.
-/
namespace Go.Proofs.Ytdhicdnmgmkpkaa
set_option linter.unusedVariables false
open Go.RowKit Mono Rlp Wd
namespace E
theorem wordB2_get (ls : List Nat) (hl : ls.length = 16) (i : Nat) (hi : i < 32) : ((unchunk 2 ls).map UInt8.ofNat).reverse[i]? = some (UInt8.ofNat (ls.getD ((31 - i) / 2) 0 / 256 ^ ((31 - i) % 2))) := by
  have hlen : (unchunk 2 ls).length = 32 := by rw [unchunk_length, hl]
  rw [List.getElem?_reverse (by rw [List.length_map]; omega), List.length_map, hlen, List.getElem?_map, unchunk_get 2 (by decide) ls _ (by omega), show 32 - 1 - i = 31 - i by omega]
  simp only [Option.map_some]
  congr 1
  apply UInt8.toNat_inj.1
  show _ % 256 % 256 = _ % 256
  rw [Nat.mod_mod]
theorem drop_set_step (W : List UInt8) (k : Nat) (h : k + 1 < W.length) : ((List.replicate (k + 2) 0 ++ W.drop (k + 2)).set (k + 1) W[k + 1]).set k W[k] = List.replicate k 0 ++ W.drop k := by
  rw [List.drop_eq_getElem_cons (show k < W.length by omega), List.drop_eq_getElem_cons h, List.replicate_succ', List.replicate_succ', List.append_assoc, List.append_assoc]
  rw [List.set_append_right _ _ (by simp), List.set_append_right _ _ (by simp)]
  simp
theorem wordOf_mod (n m : Nat) (h : n % 256 ^ 32 = m % 256 ^ 32) : wordOf n = wordOf m := val_inj _ _ (by rw [wordOf_length, wordOf_length]) (by rw [val_wordOf, val_wordOf, h])
theorem word_take (ls : List Nat) (hl : 16 ≤ ls.length) : wordOf (Wd.le 65536 (ls.take 16)) = wordOf (Wd.le 65536 ls) := by
  refine wordOf_mod _ _ ?_
  conv => rhs; rw [← List.take_append_drop 16 ls, le_append, List.length_take, Nat.min_eq_left hl]
  rw [show (65536 : Nat) ^ 16 = 256 ^ 32 from rfl, Nat.add_mul_mod_self_left]
set_option maxRecDepth 20000 in
set_option maxHeartbeats 8000000 in
theorem f_rword (ls : List Nat) (hl : 16 ≤ ls.length) (h1 : ∀ x ∈ ls, x < 65536) : Fn 73 [.sl 1 (dIs ls)] (· = .val (.arr 32 (wordOf (Wd.le 65536 ls)))) := by
  have hW := word_unchunk 2 (ls.take 16) (by rw [List.length_take]; omega) (fun x hx => h1 x (List.mem_of_mem_take hx))
  rw [show (256 : Nat) ^ 2 = 65536 from rfl, word_take ls hl] at hW
  rw [← hW]
  have hWl : (((unchunk 2 (ls.take 16)).map UInt8.ofNat).reverse).length = 32 := by rw [List.length_reverse, List.length_map, unchunk_length, List.length_take]; omega
  have hget := wordB2_get (ls.take 16) (by rw [List.length_take]; omega)
  generalize ((unchunk 2 (ls.take 16)).map UInt8.ofNat).reverse = W at hWl hget
  clear hW
  have hll := dIs_length ls
  refine Fn.walk 36 Try.func73 rfl Try.ntmps73 (by simp) fun X => ?_
  repeat
    (first
     | (apply P_assign; (iterate 3 exact rfl)) | (apply P_alloc; exact rfl; exact rfl; exact rfl; intro _) | apply EL.nil | ((with_reducible apply EK.then_normal); apply EK.code)
     | (with_reducible first | apply EC.seq | apply EC.region | apply EC.skip | apply EC.label | apply EC.block | apply EC.exit | apply EC.ret | apply EK.in_normal | apply EK.in_same | apply EK.in_ret | apply EK.then_ret | apply EK.then_exit))
  rename_i g1 g2
  refine EC.loop (ι := {i : Nat // i ≤ 16})
    (fun i => ⟨[(4, .val (.v (.int .i64 (i.1 : Int)))), (3, .val (.v (.pointer (some ⟨g2, 0, none⟩)))), (2, .val (.v (.pointer (some ⟨g1, 0, none⟩)))), (0, .val (.sl 1 (dIs ls)))], [.var g2 25 (.arr 32 (List.replicate (32 - 2 * i.1) 0 ++ W.drop (32 - 2 * i.1))), .var g1 25 (.arr 32 zero32)], []⟩)
    (fun i => 16 - i.1) ⟨0, by omega⟩ ?_ ?_
  · dsimp only
    rw [List.drop_eq_nil_of_le (by omega)]
    exact (Le.keep (by repeat first | exact trivial | refine ⟨rfl, ?_⟩) (by repeat first | exact List.nil_sublist _ | apply List.Sublist.cons_cons | apply List.Sublist.cons) (by simp))
  rintro ⟨i, hi⟩
  dsimp only at hi ⊢
  by_cases hlt : i < 16
  · have hil : i < ls.length := by omega
    have hx : (dIs ls)[i]? = some (.v (i64 ls[i])) := dIs_get hil
    have b1 := hget (31 - 2 * i) (by omega)
    have b2 := hget (30 - 2 * i) (by omega)
    have gd : ∀ p, p = i → (ls.take 16).getD p 0 = ls[i] := by
      rintro p rfl
      rw [List.getD_eq_getElem?_getD, List.getElem?_take, if_pos hlt, List.getElem?_eq_getElem hil]
      rfl
    rw [gd _ (by omega), show (31 - (31 - 2 * i)) % 2 = 0 by omega, Nat.pow_zero, Nat.div_one] at b1
    rw [gd _ (by omega), show (31 - (30 - 2 * i)) % 2 = 1 by omega, Nat.pow_one] at b2
    have hxl := h1 _ (List.getElem_mem hil)
    generalize ls[i] = x at hx b1 b2 hxl
    have hst := drop_set_step W (30 - 2 * i) (by omega)
    rw [show 30 - 2 * i + 2 = 32 - 2 * i by omega] at hst
    have hst1 : W[30 - 2 * i + 1]'(by omega) = UInt8.ofNat x := by
      have : W[30 - 2 * i + 1]? = some (UInt8.ofNat x) := by rw [show 30 - 2 * i + 1 = 31 - 2 * i by omega]; exact b1
      exact (List.getElem?_eq_some_iff.1 this).2
    have hst2 : W[30 - 2 * i]'(by omega) = UInt8.ofNat (x / 256) := (List.getElem?_eq_some_iff.1 b2).2
    rw [hst1, hst2, show 30 - 2 * i + 1 = 31 - 2 * i by omega] at hst
    have r1 := bin_mask 3 x 8 (by omega) (by decide) 255 (by decide)
    have r2 := bin_shr64 3 x 8 (by decide)
    have c1 : ∀ w, (Go.convert 3 5 (i64 (x % 2 ^ 8))).run Try.prog w = .ok (bv (UInt8.ofNat x)) w := by
      rw [bv_u8]
      exact conv_int (T := 3) (U := 5) (k := .i64) (k' := .u8) Try.underlying3 Try.underlying5 ((x % 2 ^ 8 : Nat) : Int) ((x % 256 : Nat) : Int) (by rw [IntKind.wrap_u8]; omega)
    have c2 : ∀ w, (Go.convert 3 5 (i64 (x / 2 ^ 8))).run Try.prog w = .ok (bv (UInt8.ofNat (x / 256))) w := by
      rw [bv_u8]
      exact conv_int (T := 3) (U := 5) (k := .i64) (k' := .u8) Try.underlying3 Try.underlying5 ((x / 2 ^ 8 : Nat) : Int) ((x / 256 % 256 : Nat) : Int) (by rw [IntKind.wrap_u8]; omega)
    have o1 : 0 + ((31 : Int) - 2 * (i : Int)).toNat * 1 = 31 - 2 * i := by omega
    have o2 : 0 + ((30 : Int) - 2 * (i : Int)).toNat * 1 = 30 - 2 * i := by omega
    have hk1 : (0 : Int) ≤ (31 : Int) - 2 * (i : Int) ∧ ((31 : Int) - 2 * (i : Int)).toNat < 32 := ⟨by omega, by omega⟩
    have hk2 : (0 : Int) ≤ (30 : Int) - 2 * (i : Int) ∧ ((30 : Int) - 2 * (i : Int)).toNat < 32 := ⟨by omega, by omega⟩
    have s1 : (List.replicate (32 - 2 * i) 0 ++ W.drop (32 - 2 * i)).length = 32 := by rw [List.length_append, List.length_replicate, List.length_drop]; omega
    generalize List.replicate (32 - 2 * i) 0 ++ W.drop (32 - 2 * i) = Z at hst s1
    repeat
      (first
       | (apply P_bin; (iterate 2 exact rfl); exact r1; (iterate 2 exact rfl)) | (apply P_bin; (iterate 2 exact rfl); exact r2; (iterate 2 exact rfl))
       | (apply P_conv; exact rfl; (first | exact c1 | exact c2); (iterate 3 exact rfl)) | (apply P_indexptr; (iterate 3 exact rfl); (first | exact hk1 | exact hk2); (iterate 2 exact rfl))
       | (apply P_store8; exact rfl; exact .z; exact rfl; exact rfl; (omega); exact rfl) | (apply P_move; (iterate 3 exact rfl)) | (apply P_assign; (iterate 3 exact rfl))
       | (apply P_loadpd; (iterate 5 exact rfl)) | (apply P_pick; (iterate 4 exact rfl))
       | (apply P_cmp (b := true); (iterate 2 exact rfl); (focus (first | (simp [cmpI]; done) | (simp [cmpI]; omega))); (iterate 2 exact rfl))
       | (apply P_ar; (iterate 3 exact rfl); (focus omega); (focus omega); (iterate 2 exact rfl)) | (apply P_lensl; (iterate 4 exact rfl))
       | (apply P_index; (iterate 4 exact rfl); (focus (first | exact ⟨by decide, rfl⟩ | (refine ⟨by omega, ?_⟩; rw [Int.toNat_natCast]; assumption))); (iterate 2 exact rfl)) | apply EL.nil
       | ((with_reducible apply EK.then_normal); apply EK.code) | (apply EC.cond_true; exact rfl)
       | (with_reducible first | apply EC.seq | apply EC.region | apply EC.skip | apply EC.label | apply EC.block | apply EC.exit | apply EC.ret | apply EK.in_normal | apply EK.in_same | apply EK.in_ret | apply EK.then_ret | apply EK.then_exit))
    refine EK.again ⟨i + 1, by omega⟩ (by dsimp only; omega) ?_
    rw [o1, o2, hst, show 30 - 2 * i = 32 - 2 * (i + 1) by omega]
    simp only [Int.natCast_add]
    exact (Le.keep (by repeat first | exact trivial | refine ⟨rfl, ?_⟩) (by repeat first | exact List.nil_sublist _ | apply List.Sublist.cons_cons | apply List.Sublist.cons) (by simp))
  · have : i = 16 := by omega
    subst this
    rw [Nat.sub_self, List.replicate_zero, List.nil_append, List.drop_zero]
    repeat
      (first
       | (apply P_skip; exact rfl) | (apply P_move; (iterate 3 exact rfl)) | (apply P_pick; (iterate 4 exact rfl))
       | (apply P_load; exact rfl; (first | exact I0 | exact I1 | exact I2 | exact I3 | exact I4 | exact I5 | exact I6); (iterate 4 exact rfl))
       | (apply P_cmp (b := false); (iterate 2 exact rfl); (focus (first | (simp [cmpI]; done) | (simp [cmpI]; omega))); (iterate 2 exact rfl))
       | (apply P_store; exact rfl; (focus (repeat first | exact .z | apply SetAt.s | apply SetAtF.s)); (iterate 4 exact rfl)) | apply EL.nil | ((with_reducible apply EK.then_normal); apply EK.code)
       | (apply EC.cond_false; exact rfl)
       | (with_reducible first | apply EC.seq | apply EC.region | apply EC.skip | apply EC.label | apply EC.block | apply EC.exit | apply EC.ret | apply EK.in_normal | apply EK.in_same | apply EK.in_ret | apply EK.then_ret | apply EK.then_exit))
    refine EK.retc1r 1 rfl rfl rfl rfl ?_ rfl
    (repeat first | exact RefineL.refl _ _ | exact RL.nil | exact Rf.same | exact Rf.bs0 | exact Rf.sl0 | (apply Rf.fact; (focus (simp; done)); exact rfl) | apply Rf.tup | apply RL.cons)
/-! ### add -/
def addC (a b : List Nat) : Nat → Nat
  | 0 => 0
  | i + 1 => (addC a b i + a.getD i 0 + b.getD i 0) / 65536
def addO (a b : List Nat) (i : Nat) : List Nat := (List.range i).map fun j => (addC a b j + a.getD j 0 + b.getD j 0) % 65536
theorem addO_succ (a b : List Nat) (i : Nat) : addO a b (i + 1) = addO a b i ++ [(addC a b i + a.getD i 0 + b.getD i 0) % 65536] := by simp [addO, List.range_succ]
theorem addO_length (a b : List Nat) (i : Nat) : (addO a b i).length = i := by simp [addO]
theorem addO_lt (a b : List Nat) (i : Nat) : ∀ x ∈ addO a b i, x < 65536 := fun x hx => by
  obtain ⟨j, _, rfl⟩ := List.mem_map.1 hx
  exact Nat.mod_lt _ (by decide)
theorem take_succ_le (B : Nat) (a : List Nat) (i : Nat) (h : i < a.length) : Wd.le B (a.take (i + 1)) = Wd.le B (a.take i) + B ^ i * a.getD i 0 := by
  rw [List.take_succ_eq_append_getElem h, le_append, List.length_take, Nat.min_eq_left (Nat.le_of_lt h), List.getD_eq_getElem?_getD, List.getElem?_eq_getElem h]
  simp [Wd.le]
theorem addC_le (a b : List Nat) (h1 : ∀ x ∈ a, x < 65536) (h2 : ∀ x ∈ b, x < 65536) (ha : a.length = 16) (hb : b.length = 16) : ∀ i, i ≤ 16 → addC a b i ≤ 1
  | 0, _ => by simp [addC]
  | i + 1, h => by
    have := addC_le a b h1 h2 ha hb i (by omega)
    have g1 : a.getD i 0 < 65536 := by rw [List.getD_eq_getElem?_getD, List.getElem?_eq_getElem (by omega)]; exact h1 _ (List.getElem_mem _)
    have g2 : b.getD i 0 < 65536 := by rw [List.getD_eq_getElem?_getD, List.getElem?_eq_getElem (by omega)]; exact h2 _ (List.getElem_mem _)
    rw [addC]
    omega
theorem add_sum (a b : List Nat) (ha : a.length = 16) (hb : b.length = 16) : ∀ i, i ≤ 16 → Wd.le 65536 (addO a b i) + 65536 ^ i * addC a b i = Wd.le 65536 (a.take i) + Wd.le 65536 (b.take i)
  | 0, _ => by simp [addO, addC, Wd.le]
  | i + 1, h => by
    have ih := add_sum a b ha hb i (by omega)
    rw [addO_succ, le_append, addO_length, take_succ_le _ a i (by omega), take_succ_le _ b i (by omega), addC, Nat.pow_succ]
    simp only [Wd.le, Nat.mul_zero, Nat.add_zero]
    generalize a.getD i 0 = x
    generalize b.getD i 0 = y
    generalize addC a b i = c at ih
    have hdm := Nat.mod_add_div (c + x + y) 65536
    have : 65536 ^ i * ((c + x + y) % 65536) + 65536 ^ i * 65536 * ((c + x + y) / 65536) = 65536 ^ i * (c + x + y) := by
      rw [Nat.mul_assoc, ← Nat.mul_add, hdm]
    rw [Nat.mul_add, Nat.mul_add] at this
    omega
set_option maxRecDepth 20000 in
set_option maxHeartbeats 8000000 in
theorem f_radd (a b : List Nat) (ha : a.length = 16) (hb : b.length = 16) (h1 : ∀ x ∈ a, x < 65536) (h2 : ∀ x ∈ b, x < 65536) : Fn 74 [.sl 1 (dIs a), .sl 1 (dIs b)] (· = .val (.sl 1 (dIs (addO a b 16 ++ [addC a b 16])))) := by
  have hla : (dIs a).length = 16 := (dIs_length a).trans ha
  have hlb : (dIs b).length = 16 := (dIs_length b).trans hb
  refine Fn.walk 51 Try.func74 rfl Try.ntmps74 (by simp) fun X => ?_
  repeat
    (first
     | (apply P_assign; (iterate 3 exact rfl)) | apply EL.nil | ((with_reducible apply EK.then_normal); apply EK.code)
     | (with_reducible first | apply EC.seq | apply EC.region | apply EC.skip | apply EC.label | apply EC.block | apply EC.exit | apply EC.ret | apply EK.in_normal | apply EK.in_same | apply EK.in_ret | apply EK.then_ret | apply EK.then_exit))
  refine EC.le (Le.row 3 1) ?_
  refine EC.loop (ι := {p : Value × Nat // p.2 ≤ 16})
    (fun p => ⟨[(7, .val (.v (.int .i64 (p.1.2 : Int)))), (6, .val (.v (.int .i64 (addC a b p.1.2 : Int)))), (5, .val (.v p.1.1)), (1, .val (.sl 1 (dIs b))), (0, .val (.sl 1 (dIs a)))], [.row p.1.1 3 1 (dIs (addO a b p.1.2))], []⟩)
    (fun p => 16 - p.1.2) ⟨(.slice none 0 0, 0), by simp⟩ ?_ ?_
  · exact (Le.keep (by repeat first | exact trivial | refine ⟨rfl, ?_⟩) (by repeat first | exact List.nil_sublist _ | apply List.Sublist.cons_cons | apply List.Sublist.cons) (by simp))
  rintro ⟨⟨sv, i⟩, hi⟩
  dsimp only at hi ⊢
  by_cases hlt : i < 16
  · have hx : (dIs a)[i]? = some (.v (i64 (a.getD i 0))) := by rw [dIs_get (by omega), List.getD_eq_getElem?_getD, List.getElem?_eq_getElem (by omega)]; rfl
    have hy : (dIs b)[i]? = some (.v (i64 (b.getD i 0))) := by rw [dIs_get (by omega), List.getD_eq_getElem?_getD, List.getElem?_eq_getElem (by omega)]; rfl
    have g1 : a.getD i 0 < 65536 := by rw [List.getD_eq_getElem?_getD, List.getElem?_eq_getElem (by omega)]; exact h1 _ (List.getElem_mem _)
    have g2 : b.getD i 0 < 65536 := by rw [List.getD_eq_getElem?_getD, List.getElem?_eq_getElem (by omega)]; exact h2 _ (List.getElem_mem _)
    have hc := addC_le a b h1 h2 ha hb i hi
    have hO := addO_succ a b i
    have hC : addC a b (i + 1) = (addC a b i + a.getD i 0 + b.getD i 0) / 65536 := rfl
    have hOl : (addO a b i).length = i := addO_length a b i
    generalize hO' : addO a b (i + 1) = O' at hO
    generalize hC' : addC a b (i + 1) = C' at hC
    generalize addC a b i = c at hc hO hC
    generalize addO a b i = O at hO hOl
    generalize a.getD i 0 = x at hx g1 hO hC
    generalize b.getD i 0 = y at hy g2 hO hC
    have r1 := bin_mask 3 (c + x + y) 16 (by omega) (by decide) 65535 (by decide)
    have r2 := bin_shr64 3 (c + x + y) 16 (by decide)
    simp only [i64, Int.natCast_add] at r1 r2
    subst hC
    have hO2 : dIs O ++ [.v (.int .i64 (((c + x + y) % 2 ^ 16 : Nat) : Int))] = dIs O' := by rw [hO, ← dIs_append]; rfl
    repeat
      (first
       | (apply P_skip; exact rfl) | (apply P_bin; (iterate 2 exact rfl); exact r1; (iterate 2 exact rfl)) | (apply P_bin; (iterate 2 exact rfl); exact r2; (iterate 2 exact rfl))
       | (apply P_move; (iterate 3 exact rfl)) | (apply P_assign; (iterate 3 exact rfl)) | (apply P_loadpd; (iterate 5 exact rfl)) | (apply P_pick; (iterate 4 exact rfl))
       | (apply P_cmp (b := true); (iterate 2 exact rfl); (focus (first | (simp [cmpI]; done) | (simp [cmpI]; omega))); (iterate 2 exact rfl))
       | (apply P_ar; (iterate 3 exact rfl); (focus omega); (focus omega); (iterate 2 exact rfl)) | (apply P_lensl; (iterate 4 exact rfl))
       | (apply P_index; (iterate 4 exact rfl); (focus (first | exact ⟨by decide, rfl⟩ | (refine ⟨by omega, ?_⟩; rw [Int.toNat_natCast]; assumption))); (iterate 2 exact rfl))
       | (apply P_lit; (iterate 9 exact rfl))
       | ((apply P_append; exact rfl; (focus (repeat first | exact .z | apply SetAt.s | apply SetAtF.s)); (iterate 5 exact rfl); (focus (constructor <;> (first | (simp; done) | (simp; omega))))); intro _)
       | apply EL.nil | ((with_reducible apply EK.then_normal); apply EK.code) | (apply EC.cond_true; exact rfl)
       | (with_reducible first | apply EC.seq | apply EC.region | apply EC.skip | apply EC.label | apply EC.block | apply EC.exit | apply EC.ret | apply EK.in_normal | apply EK.in_same | apply EK.in_ret | apply EK.then_ret | apply EK.then_exit))
    rename_i sv'
    refine EK.again ⟨(sv', i + 1), by omega⟩ (by dsimp only; omega) ?_
    dsimp only
    rw [hO2, hO', hC']
    simp only [Int.natCast_add]
    exact (Le.keep (by repeat first | exact trivial | refine ⟨rfl, ?_⟩) (by repeat first | exact List.nil_sublist _ | apply List.Sublist.cons_cons | apply List.Sublist.cons) (by simp))
  · have : i = 16 := by omega
    subst this
    have hc := addC_le a b h1 h2 ha hb 16 (by omega)
    have hOl : (addO a b 16).length = 16 := addO_length a b 16
    repeat
      (first
       | (apply P_move; (iterate 3 exact rfl)) | (apply P_assign; (iterate 3 exact rfl)) | (apply P_pick; (iterate 4 exact rfl))
       | (apply P_cmp (b := false); (iterate 2 exact rfl); (focus (first | (simp [cmpI]; done) | (simp [cmpI]; omega))); (iterate 2 exact rfl)) | (apply P_lensl; (iterate 4 exact rfl))
       | (apply P_lit; (iterate 9 exact rfl))
       | ((apply P_append; exact rfl; (focus (repeat first | exact .z | apply SetAt.s | apply SetAtF.s)); (iterate 5 exact rfl); (focus (constructor <;> (first | (simp; done) | (simp; omega))))); intro _)
       | apply EL.nil | ((with_reducible apply EK.then_normal); apply EK.code) | (apply EC.cond_false; exact rfl)
       | (with_reducible first | apply EC.seq | apply EC.region | apply EC.skip | apply EC.label | apply EC.block | apply EC.exit | apply EC.ret | apply EK.in_normal | apply EK.in_same | apply EK.in_ret | apply EK.then_ret | apply EK.then_exit))
    refine EK.le (Le.freeze (pre := []) rfl) ?_
    refine EK.ret1r rfl rfl ?_ rfl
    rw [show dIs (addO a b 16) ++ [.v (.int .i64 (addC a b 16 : Int))] = dIs (addO a b 16 ++ [addC a b 16]) by rw [← dIs_append]; rfl]
    (repeat first | exact RefineL.refl _ _ | exact RL.nil | exact Rf.same | exact Rf.bs0 | exact Rf.sl0 | (apply Rf.fact; (focus (simp; done)); exact rfl) | apply Rf.tup | apply RL.cons)
/-! ### sub -/
def subC (a b : List Nat) : Nat → Nat
  | 0 => 0
  | i + 1 => if a.getD i 0 < subC a b i + b.getD i 0 then 1 else 0
def subD (a b : List Nat) (i : Nat) : Nat := if a.getD i 0 < subC a b i + b.getD i 0 then a.getD i 0 + 65536 - subC a b i - b.getD i 0 else a.getD i 0 - subC a b i - b.getD i 0
def subO (a b : List Nat) (i : Nat) : List Nat := (List.range i).map (subD a b)
theorem subO_succ (a b : List Nat) (i : Nat) : subO a b (i + 1) = subO a b i ++ [subD a b i] := by simp [subO, List.range_succ]
theorem subO_length (a b : List Nat) (i : Nat) : (subO a b i).length = i := by simp [subO]
theorem subC_le (a b : List Nat) : ∀ i, subC a b i ≤ 1
  | 0 => by simp [subC]
  | i + 1 => by rw [subC]; split <;> omega
theorem subO_lt (a b : List Nat) (ha : ∀ j, a.getD j 0 < 65536) (hb : ∀ j, b.getD j 0 < 65536) (i : Nat) : ∀ x ∈ subO a b i, x < 65536 := fun x hx => by
  obtain ⟨j, _, rfl⟩ := List.mem_map.1 hx
  have := subC_le a b j
  have := ha j
  have := hb j
  unfold subD
  split <;> omega
theorem sub_sum (a b : List Nat) (hA : ∀ j, a.getD j 0 < 65536) (hB : ∀ j, b.getD j 0 < 65536) (ha : a.length = 16) (hb : b.length = 16) : ∀ i, i ≤ 16 → Wd.le 65536 (subO a b i) + Wd.le 65536 (b.take i) = Wd.le 65536 (a.take i) + 65536 ^ i * subC a b i
  | 0, _ => by simp [subO, subC, Wd.le]
  | i + 1, h => by
    have ih := sub_sum a b hA hB ha hb i (by omega)
    have := subC_le a b i
    rw [subO_succ, le_append, subO_length, take_succ_le _ a i (by omega), take_succ_le _ b i (by omega), subC, Nat.pow_succ]
    simp only [Wd.le, Nat.mul_zero, Nat.add_zero]
    unfold subD
    have hx := hA i
    have hy := hB i
    generalize a.getD i 0 = x at *
    generalize b.getD i 0 = y at *
    generalize subC a b i = c at *
    have key : ∀ d e : Nat, d + y + c = x + 65536 * e → 65536 ^ i * d + 65536 ^ i * y + 65536 ^ i * c = 65536 ^ i * x + 65536 ^ i * 65536 * e := fun d e h => by
      rw [Nat.mul_assoc, ← Nat.mul_add, ← Nat.mul_add, ← Nat.mul_add, h]
    split
    · have := key (x + 65536 - c - y) 1 (by omega)
      omega
    · have := key (x - c - y) 0 (by omega)
      omega
set_option maxRecDepth 20000 in
set_option maxHeartbeats 8000000 in
theorem f_rsub (a b : List Nat) (ha : a.length = 16) (hb : b.length = 16) (hA : ∀ j, a.getD j 0 < 65536) (hB : ∀ j, b.getD j 0 < 65536) : Fn 75 [.sl 1 (dIs a), .sl 1 (dIs b)] (· = .val (.sl 1 (dIs (subO a b 16)))) := by
  refine Fn.walk 43 Try.func75 rfl Try.ntmps75 (by simp) fun X => ?_
  repeat
    (first
     | (apply P_move; (iterate 3 exact rfl)) | (apply P_assign; (iterate 3 exact rfl)) | (apply P_lensl; (iterate 4 exact rfl)) | apply EL.nil | ((with_reducible apply EK.then_normal); apply EK.code)
     | (with_reducible first | apply EC.seq | apply EC.region | apply EC.skip | apply EC.label | apply EC.block | apply EC.exit | apply EC.ret | apply EK.in_normal | apply EK.in_same | apply EK.in_ret | apply EK.then_ret | apply EK.then_exit))
  apply P_make (n := (dIs a).length) (y' := 8)
  · rw [dIs_length, ha]
    exact ⟨by decide, by decide⟩
  iterate 5 exact rfl
  intro sv
  rw [show List.replicate (dIs a).length (D.v (.int .i64 0)) = dIs (subO a b 0 ++ List.replicate (16 - 0) 0) by rw [dIs_length, ha]; exact dIs_rep 16]
  repeat
    (first
     | (apply P_assign; (iterate 3 exact rfl)) | apply EL.nil | ((with_reducible apply EK.then_normal); apply EK.code)
     | (with_reducible first | apply EC.seq | apply EC.region | apply EC.skip | apply EC.label | apply EC.block | apply EC.exit | apply EC.ret | apply EK.in_normal | apply EK.in_same | apply EK.in_ret | apply EK.then_ret | apply EK.then_exit))
  refine EC.loop (ι := {i : Nat // i ≤ 16})
    (fun i => ⟨[(7, .val (.v (.int .i64 (i.1 : Int)))), (6, .val (.v (.int .i64 (subC a b i.1 : Int)))), (5, .val (.v sv)), (1, .val (.sl 1 (dIs b))), (0, .val (.sl 1 (dIs a)))], [.row sv 3 1 (dIs (subO a b i.1 ++ List.replicate (16 - i.1) 0))], []⟩)
    (fun i => 16 - i.1) ⟨0, by omega⟩ ?_ ?_
  · exact (Le.keep (by repeat first | exact trivial | refine ⟨rfl, ?_⟩) (by repeat first | exact List.nil_sublist _ | apply List.Sublist.cons_cons | apply List.Sublist.cons) (by simp))
  rintro ⟨i, hi⟩
  dsimp only at hi ⊢
  by_cases hlt : i < 16
  · have hx : (dIs a)[i]? = some (.v (i64 (a.getD i 0))) := by rw [dIs_get (by omega), List.getD_eq_getElem?_getD, List.getElem?_eq_getElem (by omega)]; rfl
    have hy : (dIs b)[i]? = some (.v (i64 (b.getD i 0))) := by rw [dIs_get (by omega), List.getD_eq_getElem?_getD, List.getElem?_eq_getElem (by omega)]; rfl
    have g1 := hA i
    have g2 := hB i
    have hc := subC_le a b i
    have hO := subO_succ a b i
    have hOl : (subO a b i).length = i := subO_length a b i
    have hD : subD a b i = if a.getD i 0 < subC a b i + b.getD i 0 then a.getD i 0 + 65536 - subC a b i - b.getD i 0 else a.getD i 0 - subC a b i - b.getD i 0 := rfl
    have hC : subC a b (i + 1) = if a.getD i 0 < subC a b i + b.getD i 0 then 1 else 0 := rfl
    have hst : (subO a b i ++ List.replicate (16 - i) 0).set i (subD a b i) = subO a b (i + 1) ++ List.replicate (16 - (i + 1)) 0 := by
      rw [List.set_append_right _ _ (by omega), hOl, Nat.sub_self, show 16 - i = (16 - (i + 1)) + 1 by omega, List.replicate_succ, List.set_cons_zero, hO, List.append_assoc]
      rfl
    have hold : (dIs (subO a b i ++ List.replicate (16 - i) 0))[i]? = some (.v (i64 0)) := by
      rw [dIs_get (by rw [List.length_append, List.length_replicate]; omega)]
      congr 3
      rw [List.getElem_append_right (by omega), List.getElem_replicate]
    have hrl : (subO a b i ++ List.replicate (16 - i) 0).length = 16 := by rw [List.length_append, List.length_replicate, hOl]; omega
    generalize hO' : subO a b (i + 1) ++ List.replicate (16 - (i + 1)) 0 = O' at hst
    generalize hC' : subC a b (i + 1) = C' at hC
    generalize subD a b i = d at hst hD
    generalize subC a b i = c at hc hD hC
    generalize subO a b i ++ List.replicate (16 - i) 0 = O at hst hold hrl
    generalize a.getD i 0 = x at hx g1 hD hC
    generalize b.getD i 0 = y at hy g2 hD hC
    clear hO hOl
    by_cases hb : x < c + y
    · rw [if_pos hb] at hD hC
      have hd : ((x : Int) - (c : Int) - (y : Int) + 65536) = (d : Int) := by omega
      repeat
        (first
         | (apply P_move; (iterate 3 exact rfl)) | (apply P_assign; (iterate 3 exact rfl)) | (apply P_loadpd; (iterate 5 exact rfl))
         | (apply P_cmp (b := true); (iterate 2 exact rfl); (focus (first | (simp [cmpI]; done) | (simp [cmpI]; omega))); (iterate 2 exact rfl))
         | (apply P_ar; (iterate 3 exact rfl); (focus omega); (focus omega); (iterate 2 exact rfl)) | (apply P_lensl; (iterate 4 exact rfl))
         | (apply P_index; (iterate 4 exact rfl); (focus (first | exact ⟨by decide, rfl⟩ | (refine ⟨by omega, ?_⟩; rw [Int.toNat_natCast]; assumption))); (iterate 2 exact rfl))
         | (apply P_rowidx; exact rfl; (first | exact I0 | exact I1 | exact I2 | exact I3 | exact I4 | exact I5 | exact I6); (iterate 2 exact rfl); (focus (first | assumption | omega | (constructor <;> (first | (simp; done) | (simp; omega))))); (iterate 2 exact rfl))
         | apply EL.nil | ((with_reducible apply EK.then_normal); apply EK.code) | (apply EC.cond_true; exact rfl)
         | (with_reducible first | apply EC.seq | apply EC.region | apply EC.skip | apply EC.label | apply EC.block | apply EC.exit | apply EC.ret | apply EK.in_normal | apply EK.in_same | apply EK.in_ret | apply EK.then_ret | apply EK.then_exit))
      rw [hd]
      repeat
        (first
         | (apply P_rowstore (k := i) (off := 0) (d := .v (i64 0)) (d'' := .v (i64 d)); exact rfl; exact .z; exact ⟨by omega, hold⟩; (iterate 4 exact rfl)) | (apply P_move; (iterate 3 exact rfl))
         | (apply P_assign; (iterate 3 exact rfl)) | (apply P_ar; (iterate 3 exact rfl); (focus omega); (focus omega); (iterate 2 exact rfl)) | apply EL.nil
         | ((with_reducible apply EK.then_normal); apply EK.code)
         | (with_reducible first | apply EC.seq | apply EC.region | apply EC.skip | apply EC.label | apply EC.block | apply EC.exit | apply EC.ret | apply EK.in_normal | apply EK.in_same | apply EK.in_ret | apply EK.then_ret | apply EK.then_exit))
      refine EK.again ⟨i + 1, by omega⟩ (by dsimp only; omega) ?_
      dsimp only
      rw [dIs_set, hst, hO', hC', hC]
      simp only [Int.natCast_add]
      exact (Le.keep (by repeat first | exact trivial | refine ⟨rfl, ?_⟩) (by repeat first | exact List.nil_sublist _ | apply List.Sublist.cons_cons | apply List.Sublist.cons) (by simp))
    · rw [if_neg hb] at hD hC
      have hd : ((x : Int) - (c : Int) - (y : Int)) = (d : Int) := by omega
      repeat
        (first
         | (apply P_move; (iterate 3 exact rfl)) | (apply P_assign; (iterate 3 exact rfl)) | (apply P_loadpd; (iterate 5 exact rfl))
         | (apply P_cmp (b := true); (iterate 2 exact rfl); (focus (first | (simp [cmpI]; done) | (simp [cmpI]; omega))); (iterate 2 exact rfl))
         | (apply P_cmp (b := false); (iterate 2 exact rfl); (focus (first | (simp [cmpI]; done) | (simp [cmpI]; omega))); (iterate 2 exact rfl))
         | (apply P_ar; (iterate 3 exact rfl); (focus omega); (focus omega); (iterate 2 exact rfl)) | (apply P_lensl; (iterate 4 exact rfl))
         | (apply P_index; (iterate 4 exact rfl); (focus (first | exact ⟨by decide, rfl⟩ | (refine ⟨by omega, ?_⟩; rw [Int.toNat_natCast]; assumption))); (iterate 2 exact rfl))
         | (apply P_rowidx; exact rfl; (first | exact I0 | exact I1 | exact I2 | exact I3 | exact I4 | exact I5 | exact I6); (iterate 2 exact rfl); (focus (first | assumption | omega | (constructor <;> (first | (simp; done) | (simp; omega))))); (iterate 2 exact rfl))
         | apply EL.nil | ((with_reducible apply EK.then_normal); apply EK.code) | (apply EC.cond_true; exact rfl) | (apply EC.cond_false; exact rfl)
         | (with_reducible first | apply EC.seq | apply EC.region | apply EC.skip | apply EC.label | apply EC.block | apply EC.exit | apply EC.ret | apply EK.in_normal | apply EK.in_same | apply EK.in_ret | apply EK.then_ret | apply EK.then_exit))
      rw [hd]
      repeat
        (first
         | (apply P_rowstore (k := i) (off := 0) (d := .v (i64 0)) (d'' := .v (i64 d)); exact rfl; exact .z; exact ⟨by omega, hold⟩; (iterate 4 exact rfl)) | (apply P_move; (iterate 3 exact rfl))
         | (apply P_assign; (iterate 3 exact rfl)) | (apply P_ar; (iterate 3 exact rfl); (focus omega); (focus omega); (iterate 2 exact rfl)) | apply EL.nil
         | ((with_reducible apply EK.then_normal); apply EK.code)
         | (with_reducible first | apply EC.seq | apply EC.region | apply EC.skip | apply EC.label | apply EC.block | apply EC.exit | apply EC.ret | apply EK.in_normal | apply EK.in_same | apply EK.in_ret | apply EK.then_ret | apply EK.then_exit))
      refine EK.again ⟨i + 1, by omega⟩ (by dsimp only; omega) ?_
      dsimp only
      rw [dIs_set, hst, hO', hC', hC]
      simp only [Int.natCast_add]
      exact (Le.keep (by repeat first | exact trivial | refine ⟨rfl, ?_⟩) (by repeat first | exact List.nil_sublist _ | apply List.Sublist.cons_cons | apply List.Sublist.cons) (by simp))
  · have : i = 16 := by omega
    subst this
    rw [Nat.sub_self, List.replicate_zero, List.append_nil]
    repeat
      (first
       | (apply P_move; (iterate 3 exact rfl)) | (apply P_assign; (iterate 3 exact rfl))
       | (apply P_cmp (b := false); (iterate 2 exact rfl); (focus (first | (simp [cmpI]; done) | (simp [cmpI]; omega))); (iterate 2 exact rfl)) | (apply P_lensl; (iterate 4 exact rfl)) | apply EL.nil
       | ((with_reducible apply EK.then_normal); apply EK.code) | (apply EC.cond_false; exact rfl)
       | (with_reducible first | apply EC.seq | apply EC.region | apply EC.skip | apply EC.label | apply EC.block | apply EC.exit | apply EC.ret | apply EK.in_normal | apply EK.in_same | apply EK.in_ret | apply EK.then_ret | apply EK.then_exit))
    refine EK.le (Le.freeze (pre := []) rfl) ?_
    refine EK.ret1r rfl rfl ?_ rfl
    (repeat first | exact RefineL.refl _ _ | exact RL.nil | exact Rf.same | exact Rf.bs0 | exact Rf.sl0 | (apply Rf.fact; (focus (simp; done)); exact rfl) | apply Rf.tup | apply RL.cons)
end E
end Go.Proofs.Ytdhicdnmgmkpkaa
