/-
  Merged (wip/tools/merge.py): AL4, Open, OpenAll, LawM.
  Conditions: none.
-/
import Derived.Test.YtmlajcbabimkjaaZT20
import Derived.Test.YtmlajcbabimkjaaZT2
import Derived.OpenShut
import Derived.Deep.Slices
import Derived.ChangeSame
import Derived.Test.YtmlajcbabimkjaaZT10
import Derived.Below
/-
  TrieTwo.
  Conditions: none.
-/
namespace Go.Proofs.Ytmlajcbabimkjaa
set_option linter.unusedVariables false
open Go.RowKit Mono Rlp
namespace E
theorem packed_le {x : Raw} {b : List UInt8} (h : packed x = some b) : b.length ≤ most := by
  rw [packed_ref] at h
  split at h
  · cases h
  · split at h
    · split at h
      · cases h
      · cases h
        omega
    · cases h
theorem bin_shr4 (a : UInt8) : Bin .shr 5 (.v (bv a)) (.v (.int .u64 4)) (bv (a >>> 4)) := bin_of rfl fun w => by
  have h1 : ¬ ((4 : Int) < 0) := by decide
  have h2 : min ((4 : Int)).toNat IntKind.u8.bits = 4 := by decide
  have h3 : (a.toNat : Int).fdiv (2 ^ 4) = ((a.toNat / 16 : Nat) : Int) := by
    rw [Int.fdiv_eq_ediv_of_nonneg _ (by decide)]
    simp
  unfold bv
  rw [nib_hiT]
  show (Op.shift .shr .u8 (a.toNat : Int) .u64 4).run Try.prog w = _
  unfold Op.shift
  rw [if_neg h1]
  simp only [h2, h3, Sem.run_pure]
theorem and15 : ∀ n : Nat, n < 256 → bits .and .u8 (n : Int) 15 = (((UInt8.ofNat n) &&& 15).toNat : Int) := by decide +kernel
theorem or48 : ∀ n : Nat, n < 256 → bits .or .u8 48 (n : Int) = ((48 ||| (UInt8.ofNat n)).toNat : Int) := by decide +kernel
theorem bin_and15 (a : UInt8) : Bin .and 5 (.v (bv a)) (.v (.int .u8 15)) (bv (a &&& 15)) := bin_of rfl fun w => by
  have h := and15 a.toNat a.toNat_lt
  rw [UInt8.ofNat_toNat] at h
  show Result.ok (Value.int .u8 (bits .and .u8 (a.toNat : Int) 15)) w = _
  rw [h]
  rfl
theorem bin_or48 (a : UInt8) : Bin .or 5 (.v (.int .u8 48)) (.v (bv a)) (bv (48 ||| a)) := bin_of rfl fun w => by
  have h := or48 a.toNat a.toNat_lt
  rw [UInt8.ofNat_toNat] at h
  show Result.ok (Value.int .u8 (bits .or .u8 48 (a.toNat : Int))) w = _
  rw [h]
  rfl
theorem bin_eq8 (a b : UInt8) : Bin .eql 5 (.v (bv a)) (.v (bv b)) (.bool (a == b)) := by
  refine ⟨rfl, fun ok W p q hp hq => ?_⟩
  obtain rfl := (readV_v.1 hp).2
  obtain rfl := (readV_v.1 hq).2
  unfold bv
  refine ⟨fun x y => by simp [eqGuard], ?_⟩
  by_cases h : a = b
  · subst h
    simp [binOp, Op.intCmp]
  · have h2 : (a.toNat : Int) ≠ b.toNat := fun e => h (UInt8.toNat_inj.1 (by omega))
    have h3 : ((a.toNat : Int) == (b.toNat : Int)) = (a == b) := by rw [beq_eq_false_iff_ne.2 h, beq_eq_false_iff_ne.2 h2]
    simp [binOp, Op.intCmp, h3]
section
variable {N : Nat} {X : Cx N} {S : St} {ops : Array Oper} {o : Oper} {Q : Exit → Act → World → Prop} {l : List Oper} {rs : List (Tmp × R)} {os : List Obj} {fs : List (Value × D)}
theorem g_rowidx8 {x y : Operand} {T e z b k : Nat} {v : Value} {ds : List D} (ho : o.op = .indexAddr T x y) (hx : ev S x = some (.val (.v v))) (i : Nat) (hi : S.objs[i]? = some (.row v e z ds)) (hy : ev S y = some (.val (.v (.int .u8 (k : Int))))) (hT : assoc slL T = some (e, z, b)) (hk : k < ds.length) : Still ops S o (.val (.v (elemPtr v (k * z)))) := fun base ok a w ha => by
  have hx' := ev_v ha hx (looks_op (by rw [ho]; simp [Op.operands]))
  have hy' := ev_v ha hy (looks_op (by rw [ho]; simp [Op.operands]))
  obtain ⟨g, c, cur, rows, H⟩ := row_in (ha.objs _ (List.mem_of_getElem? hi)) (by omega)
  refine ⟨_, ?_, v_mk (elemPtr_one _ _)⟩
  have h0 : (0 : Int) ≤ (k : Int) := by omega
  unfold execOp
  simp [ho, hx', hy', H.val, Instr.indexAt, run_underlying (slI hT).und, asIntOf, h0, hk, run_size (slI hT).size, add_none, elemPtr]
theorem P_rowidx8 {t ty : Nat} {pos : String} {af : Array Edge} {gd : Option (Nat × Bool)} {x y : Operand} {T e z b i k : Nat} {v : Value} {ds : List D} (hx : ev (⟨rs, os, fs⟩ : St) x = some (.val (.v v))) (hi : os[i]? = some (.row v e z ds)) (hy : ev (⟨rs, os, fs⟩ : St) y = some (.val (.v (.int .u8 (k : Int))))) (hT : assoc slL T = some (e, z, b)) (hk : k < ds.length) (hg : guardOf ops ⟨rs, os, fs⟩ ⟨some t, .indexAddr T x y, ty, pos, af, gd⟩ = some true) (hN : Nat.blt t N = true) (kk : EL X ops Q l ⟨(t, (.val (.v (elemPtr v (k * z))))) :: rs, os, fs⟩) : EL X ops Q (⟨some t, .indexAddr T x y, ty, pos, af, gd⟩ :: l) ⟨rs, os, fs⟩ := ES.still (g_rowidx8 rfl hx i hi hy hT hk) hg rfl hN kk
end
set_option maxRecDepth 20000 in
set_option maxHeartbeats 16000000 in
theorem law_two (a b : UInt8) (x y : List UInt8) : FnM 4 [.v (bv a), .v (bv b), .bs x, .bs y] [] (fun r os' => r = .val (.v (.bool true)) ∧ os' = []) := by
  have s1 := bin_shr4 a
  have s2 := bin_shr4 b
  have s3 := bin_eq8 (a >>> 4) (b >>> 4)
  refine FnM.walk 109 Try.func4 rfl Try.ntmps4 (by simp) fun X => ?_
  by_cases hne : a >>> 4 = b >>> 4
  · rw [show (a >>> 4 == b >>> 4) = true by simp [hne]] at s3
    repeat
      (first
       | (apply P_skip; (iterate 2 exact rfl))
       | (apply P_call (f_alive6); exact rfl; (focus (repeat first | exact RefineL.refl _ _ | exact RL.nil | exact Rf.same | exact Rf.bs0 | exact Rf.sl0 | (apply Rf.fact; (focus (simp; done)); exact rfl) | apply Rf.tup | apply RL.cons)); (focus (intro _ _; simp [go_sem]; done)); (iterate 2 exact rfl))
       | (apply P_bin; (iterate 2 exact rfl); exact s1; (iterate 2 exact rfl)) | (apply P_bin; (iterate 2 exact rfl); exact s2; (iterate 2 exact rfl))
       | (apply P_bin; (iterate 2 exact rfl); exact s3; (iterate 2 exact rfl)) | (apply P_move; (iterate 3 exact rfl)) | (apply P_assign; (iterate 3 exact rfl)) | (apply P_pick; (iterate 4 exact rfl))
       | (apply P_not; (iterate 3 exact rfl)) | apply EL.nil | ((with_reducible apply EK.then_normal); apply EK.code) | (apply EC.cond_true; exact rfl)
       | (with_reducible first | apply EC.seq | apply EC.region | apply EC.skip | apply EC.label | apply EC.block | apply EC.exit | apply EC.ret | apply EK.in_normal | apply EK.in_same | apply EK.in_ret | apply EK.then_ret | apply EK.then_exit))
    exact EK.retM1s [] rfl rfl (List.nil_sublist _) ⟨rfl, rfl⟩
  rw [show (a >>> 4 == b >>> 4) = false by simp [hne]] at s3
  by_cases hx1 : x.length < 1
  · skip
    repeat
      (first
       | (apply P_skip; (iterate 2 exact rfl))
       | (apply P_call (f_alive6); exact rfl; (focus (repeat first | exact RefineL.refl _ _ | exact RL.nil | exact Rf.same | exact Rf.bs0 | exact Rf.sl0 | (apply Rf.fact; (focus (simp; done)); exact rfl) | apply Rf.tup | apply RL.cons)); (focus (intro _ _; simp [go_sem]; done)); (iterate 2 exact rfl))
       | (apply P_bin; (iterate 2 exact rfl); exact s1; (iterate 2 exact rfl)) | (apply P_bin; (iterate 2 exact rfl); exact s2; (iterate 2 exact rfl))
       | (apply P_bin; (iterate 2 exact rfl); exact s3; (iterate 2 exact rfl)) | (apply P_move; (iterate 3 exact rfl)) | (apply P_assign; (iterate 3 exact rfl)) | (apply P_pick; (iterate 4 exact rfl))
       | (apply P_not; (iterate 3 exact rfl)) | (apply P_cmp (b := true); (iterate 2 exact rfl); (focus (first | (simp [cmpI]; done) | (simp [cmpI]; omega))); (iterate 2 exact rfl))
       | (apply P_lenbs; (iterate 4 exact rfl)) | apply EL.nil | ((with_reducible apply EK.then_normal); apply EK.code) | (apply EC.cond_true; exact rfl)
       | (with_reducible first | apply EC.seq | apply EC.region | apply EC.skip | apply EC.label | apply EC.block | apply EC.exit | apply EC.ret | apply EK.in_normal | apply EK.in_same | apply EK.in_ret | apply EK.then_ret | apply EK.then_exit))
    exact EK.retM1s [] rfl rfl (List.nil_sublist _) ⟨rfl, rfl⟩
  by_cases hy1 : y.length < 1
  · skip
    repeat
      (first
       | (apply P_skip; (iterate 2 exact rfl))
       | (apply P_call (f_alive6); exact rfl; (focus (repeat first | exact RefineL.refl _ _ | exact RL.nil | exact Rf.same | exact Rf.bs0 | exact Rf.sl0 | (apply Rf.fact; (focus (simp; done)); exact rfl) | apply Rf.tup | apply RL.cons)); (focus (intro _ _; simp [go_sem]; done)); (iterate 2 exact rfl))
       | (apply P_bin; (iterate 2 exact rfl); exact s1; (iterate 2 exact rfl)) | (apply P_bin; (iterate 2 exact rfl); exact s2; (iterate 2 exact rfl))
       | (apply P_bin; (iterate 2 exact rfl); exact s3; (iterate 2 exact rfl)) | (apply P_move; (iterate 3 exact rfl)) | (apply P_assign; (iterate 3 exact rfl)) | (apply P_pick; (iterate 4 exact rfl))
       | (apply P_not; (iterate 3 exact rfl)) | (apply P_cmp (b := true); (iterate 2 exact rfl); (focus (first | (simp [cmpI]; done) | (simp [cmpI]; omega))); (iterate 2 exact rfl))
       | (apply P_cmp (b := false); (iterate 2 exact rfl); (focus (first | (simp [cmpI]; done) | (simp [cmpI]; omega))); (iterate 2 exact rfl)) | (apply P_lenbs; (iterate 4 exact rfl)) | apply EL.nil
       | ((with_reducible apply EK.then_normal); apply EK.code) | (apply EC.cond_true; exact rfl)
       | (with_reducible first | apply EC.seq | apply EC.region | apply EC.skip | apply EC.label | apply EC.block | apply EC.exit | apply EC.ret | apply EK.in_normal | apply EK.in_same | apply EK.in_ret | apply EK.then_ret | apply EK.then_exit))
    exact EK.retM1s [] rfl rfl (List.nil_sublist _) ⟨rfl, rfl⟩
  by_cases hx : 20 < x.length
  · skip
    repeat
      (first
       | (apply P_skip; (iterate 2 exact rfl))
       | (apply P_call (f_alive6); exact rfl; (focus (repeat first | exact RefineL.refl _ _ | exact RL.nil | exact Rf.same | exact Rf.bs0 | exact Rf.sl0 | (apply Rf.fact; (focus (simp; done)); exact rfl) | apply Rf.tup | apply RL.cons)); (focus (intro _ _; simp [go_sem]; done)); (iterate 2 exact rfl))
       | (apply P_bin; (iterate 2 exact rfl); exact s1; (iterate 2 exact rfl)) | (apply P_bin; (iterate 2 exact rfl); exact s2; (iterate 2 exact rfl))
       | (apply P_bin; (iterate 2 exact rfl); exact s3; (iterate 2 exact rfl)) | (apply P_move; (iterate 3 exact rfl)) | (apply P_assign; (iterate 3 exact rfl)) | (apply P_pick; (iterate 4 exact rfl))
       | (apply P_not; (iterate 3 exact rfl)) | (apply P_cmp (b := true); (iterate 2 exact rfl); (focus (first | (simp [cmpI]; done) | (simp [cmpI]; omega))); (iterate 2 exact rfl))
       | (apply P_cmp (b := false); (iterate 2 exact rfl); (focus (first | (simp [cmpI]; done) | (simp [cmpI]; omega))); (iterate 2 exact rfl)) | (apply P_lenbs; (iterate 4 exact rfl)) | apply EL.nil
       | ((with_reducible apply EK.then_normal); apply EK.code) | (apply EC.cond_true; exact rfl)
       | (with_reducible first | apply EC.seq | apply EC.region | apply EC.skip | apply EC.label | apply EC.block | apply EC.exit | apply EC.ret | apply EK.in_normal | apply EK.in_same | apply EK.in_ret | apply EK.then_ret | apply EK.then_exit))
    exact EK.retM1s [] rfl rfl (List.nil_sublist _) ⟨rfl, rfl⟩
  by_cases hy : 20 < y.length
  · skip
    repeat
      (first
       | (apply P_call (f_alive6); exact rfl; (focus (repeat first | exact RefineL.refl _ _ | exact RL.nil | exact Rf.same | exact Rf.bs0 | exact Rf.sl0 | (apply Rf.fact; (focus (simp; done)); exact rfl) | apply Rf.tup | apply RL.cons)); (focus (intro _ _; simp [go_sem]; done)); (iterate 2 exact rfl))
       | (apply P_bin; (iterate 2 exact rfl); exact s1; (iterate 2 exact rfl)) | (apply P_bin; (iterate 2 exact rfl); exact s2; (iterate 2 exact rfl))
       | (apply P_bin; (iterate 2 exact rfl); exact s3; (iterate 2 exact rfl)) | (apply P_move; (iterate 3 exact rfl)) | (apply P_assign; (iterate 3 exact rfl)) | (apply P_pick; (iterate 4 exact rfl))
       | (apply P_not; (iterate 3 exact rfl)) | (apply P_cmp (b := true); (iterate 2 exact rfl); (focus (first | (simp [cmpI]; done) | (simp [cmpI]; omega))); (iterate 2 exact rfl))
       | (apply P_cmp (b := false); (iterate 2 exact rfl); (focus (first | (simp [cmpI]; done) | (simp [cmpI]; omega))); (iterate 2 exact rfl)) | (apply P_lenbs; (iterate 4 exact rfl)) | apply EL.nil
       | ((with_reducible apply EK.then_normal); apply EK.code) | (apply EC.cond_true; exact rfl)
       | (with_reducible first | apply EC.seq | apply EC.region | apply EC.skip | apply EC.label | apply EC.block | apply EC.exit | apply EC.ret | apply EK.in_normal | apply EK.in_same | apply EK.in_ret | apply EK.then_ret | apply EK.then_exit))
    exact EK.retM1s [] rfl rfl (List.nil_sublist _) ⟨rfl, rfl⟩
  repeat
    (first
     | (apply P_call (f_alive6); exact rfl; (focus (repeat first | exact RefineL.refl _ _ | exact RL.nil | exact Rf.same | exact Rf.bs0 | exact Rf.sl0 | (apply Rf.fact; (focus (simp; done)); exact rfl) | apply Rf.tup | apply RL.cons)); (focus (intro _ _; simp [go_sem]; done)); (iterate 2 exact rfl))
     | (apply P_bin; (iterate 2 exact rfl); exact s1; (iterate 2 exact rfl)) | (apply P_bin; (iterate 2 exact rfl); exact s2; (iterate 2 exact rfl))
     | (apply P_bin; (iterate 2 exact rfl); exact s3; (iterate 2 exact rfl)) | (apply P_move; (iterate 3 exact rfl)) | (apply P_assign; (iterate 3 exact rfl)) | (apply P_pick; (iterate 4 exact rfl))
     | (apply P_not; (iterate 3 exact rfl)) | (apply P_cmp (b := false); (iterate 2 exact rfl); (focus (first | (simp [cmpI]; done) | (simp [cmpI]; omega))); (iterate 2 exact rfl))
     | (apply P_lenbs; (iterate 4 exact rfl)) | apply EL.nil | ((with_reducible apply EK.then_normal); apply EK.code) | (apply EC.cond_false; exact rfl)
     | (with_reducible first | apply EC.seq | apply EC.region | apply EC.skip | apply EC.label | apply EC.block | apply EC.exit | apply EC.ret | apply EK.in_normal | apply EK.in_same | apply EK.in_ret | apply EK.then_ret | apply EK.then_exit))
  refine EC.le (Le.row 41 3) ?_
  refine EC.loop (ι := {p : Value × Nat // p.2 ≤ 17})
    (fun p => ⟨[(11, .val (.v (.int .i64 (p.1.2 : Int)))), (10, .val (.v p.1.1)), (9, .val (.v (.bool true))), (0, .val (.v (bv a))), (1, .val (.v (bv b))), (2, .val (.bs x)), (3, .val (.bs y))], [.row p.1.1 41 3 (List.replicate p.1.2 (dItem (.mk false [] [])))], []⟩)
    (fun p => 17 - p.1.2) ⟨(.slice none 0 0, 0), by decide⟩ ?_ ?_
  · exact (Le.keep (by repeat first | exact trivial | refine ⟨rfl, ?_⟩) (by repeat first | exact List.nil_sublist _ | apply List.Sublist.cons_cons | apply List.Sublist.cons) (by simp))
  rintro ⟨⟨v, i⟩, hi⟩
  dsimp only at hi ⊢
  have hb0 := f_rBytes []
  by_cases hlt : i < 17
  · have hlen : (List.replicate i (dItem (.mk false [] []))).length = i := List.length_replicate
    repeat
      (first
       | (apply P_call (hb0); exact rfl; (focus (repeat first | exact RefineL.refl _ _ | exact RL.nil | exact Rf.same | exact Rf.bs0 | exact Rf.sl0 | (apply Rf.fact; (focus (simp; done)); exact rfl) | apply Rf.tup | apply RL.cons)); (focus (intro _ _; simp [go_sem]; done)); (iterate 2 exact rfl))
       | (apply P_move; (iterate 3 exact rfl)) | (apply P_assign; (iterate 3 exact rfl))
       | (apply P_cmp (b := true); (iterate 2 exact rfl); (focus (first | (simp [cmpI]; done) | (simp [cmpI]; omega))); (iterate 2 exact rfl))
       | (apply P_ar; (iterate 3 exact rfl); (focus omega); (focus omega); (iterate 2 exact rfl)) | (apply P_lit; (iterate 9 exact rfl))
       | ((apply P_append; exact rfl; (focus (repeat first | exact .z | apply SetAt.s | apply SetAtF.s)); (iterate 5 exact rfl); (focus (constructor <;> (first | (simp; done) | (simp; omega))))); intro _)
       | apply EL.nil | ((with_reducible apply EK.then_normal); apply EK.code) | (apply EC.cond_true; exact rfl)
       | (with_reducible first | apply EC.seq | apply EC.region | apply EC.skip | apply EC.label | apply EC.block | apply EC.exit | apply EC.ret | apply EK.in_normal | apply EK.in_same | apply EK.in_ret | apply EK.then_ret | apply EK.then_exit))
    rename_i v'
    refine EK.again ⟨(v', i + 1), hlt⟩ (by dsimp only; omega) ?_
    dsimp only
    rw [← List.replicate_succ']
    simp only [Int.natCast_add]
    exact (Le.keep (by repeat first | exact trivial | refine ⟨rfl, ?_⟩) (by repeat first | exact List.nil_sublist _ | apply List.Sublist.cons_cons | apply List.Sublist.cons) (by simp))
  obtain rfl : i = 17 := by omega
  have hka : (a >>> 4).toNat < 17 := by rw [nib_hiT]; have := a.toNat_lt; omega
  have hkb : (b >>> 4).toNat < 17 := by rw [nib_hiT]; have := b.toNat_lt; omega
  have hkn : (a >>> 4).toNat ≠ (b >>> 4).toNat := fun e => hne (UInt8.toNat_inj.1 e)
  have s4 := bin_and15 a
  have s5 := bin_and15 b
  have s6 := bin_or48 (a &&& 15)
  have s7 := bin_or48 (b &&& 15)
  have b1 := f_rBytes [48 ||| (a &&& 15)]
  have b2 := f_rBytes x
  have b3 := f_rBytes [48 ||| (b &&& 15)]
  have b4 := f_rBytes y
  have l1 := f_rList [.mk false [48 ||| (a &&& 15)] [], .mk false x []]
  have l2 := f_rList [.mk false [48 ||| (b &&& 15)] [], .mk false y []]
  have ga : (List.replicate 17 (dItem (.mk false [] [])))[(a >>> 4).toNat]? = some (dItem (.mk false [] [])) := by rw [List.getElem?_replicate, if_pos hka]
  have gb : ((List.replicate 17 (dItem (.mk false [] []))).set (a >>> 4).toNat (dItem (lfI (a &&& 15) x)))[(b >>> 4).toNat]? = some (dItem (.mk false [] [])) := by rw [List.getElem?_set_ne hkn, List.getElem?_replicate, if_pos hkb]
  have hla : (a >>> 4).toNat < (List.replicate 17 (dItem (.mk false [] []))).length := by rw [List.length_replicate]; exact hka
  have hlb : (b >>> 4).toNat < ((List.replicate 17 (dItem (.mk false [] []))).set (a >>> 4).toNat (dItem (lfI (a &&& 15) x))).length := by rw [List.length_set, List.length_replicate]; exact hkb
  generalize hRep : List.replicate 17 (dItem (.mk false [] [])) = rep at ga gb hla hlb
  have hmap : dItems (twoI (a >>> 4).toNat (a &&& 15) x (b >>> 4).toNat (b &&& 15) y) = (rep.set (a >>> 4).toNat (dItem (lfI (a &&& 15) x))).set (b >>> 4).toNat (dItem (lfI (b &&& 15) y)) := by
    rw [← hRep]
    unfold twoI
    simp only [dItems_map, List.map_set, List.map_replicate]
  have l3 := f_rList (twoI (a >>> 4).toNat (a &&& 15) x (b >>> 4).toNat (b &&& 15) y)
  have p3 := f_rPack (.mk true [] (twoI (a >>> 4).toNat (a &&& 15) x (b >>> 4).toNat (b &&& 15) y))
  have hpk := two_packed (a >>> 4).toNat (b >>> 4).toNat (a &&& 15) (b &&& 15) x y (by omega) (by omega)
  have hple := packed_le hpk
  rw [hpk] at p3
  have hroot := two_root a b x y hne (by omega) (by omega) (by omega) (by omega)
  have hR := f_Root (twoP a b x y)
  rw [hroot, two_err a b x y hne (by omega) (by omega) (by omega) (by omega)] at hR
  generalize twoI (a >>> 4).toNat (a &&& 15) x (b >>> 4).toNat (b &&& 15) y = tw at hmap l3 p3 hpk hple hR
  generalize pkB (.mk true [] tw) = pb at p3 hple hR
  have hK := f_Keccak pb (Nat.le_trans hple (by simp only [most]; omega))
  unfold packD at p3
  dsimp only at p3
  have hw := (bin_word (hash pb) (hash pb)).1
  rw [beq_self_eq_true] at hw
  have n0 := f_num6 0
  repeat
    (first
     | (apply P_bin; (iterate 2 exact rfl); exact s1; (iterate 2 exact rfl)) | (apply P_bin; (iterate 2 exact rfl); exact s2; (iterate 2 exact rfl))
     | (apply P_bin; (iterate 2 exact rfl); exact s4; (iterate 2 exact rfl)) | (apply P_bin; (iterate 2 exact rfl); exact s5; (iterate 2 exact rfl))
     | (apply P_bin; (iterate 2 exact rfl); exact s6; (iterate 2 exact rfl)) | (apply P_bin; (iterate 2 exact rfl); exact s7; (iterate 2 exact rfl))
     | (apply P_call (b1); exact rfl; (focus (repeat first | exact RefineL.refl _ _ | exact RL.nil | exact Rf.same | exact Rf.bs0 | exact Rf.sl0 | (apply Rf.fact; (focus (simp; done)); exact rfl) | apply Rf.tup | apply RL.cons)); (focus (intro _ _; simp [go_sem]; done)); (iterate 2 exact rfl))
     | (apply P_call (b2); exact rfl; (focus (repeat first | exact RefineL.refl _ _ | exact RL.nil | exact Rf.same | exact Rf.bs0 | exact Rf.sl0 | (apply Rf.fact; (focus (simp; done)); exact rfl) | apply Rf.tup | apply RL.cons)); (focus (intro _ _; simp [go_sem]; done)); (iterate 2 exact rfl))
     | (apply P_call (b3); exact rfl; (focus (repeat first | exact RefineL.refl _ _ | exact RL.nil | exact Rf.same | exact Rf.bs0 | exact Rf.sl0 | (apply Rf.fact; (focus (simp; done)); exact rfl) | apply Rf.tup | apply RL.cons)); (focus (intro _ _; simp [go_sem]; done)); (iterate 2 exact rfl))
     | (apply P_call (b4); exact rfl; (focus (repeat first | exact RefineL.refl _ _ | exact RL.nil | exact Rf.same | exact Rf.bs0 | exact Rf.sl0 | (apply Rf.fact; (focus (simp; done)); exact rfl) | apply Rf.tup | apply RL.cons)); (focus (intro _ _; simp [go_sem]; done)); (iterate 2 exact rfl))
     | (apply P_call (l1); exact rfl; (focus (repeat first | exact RefineL.refl _ _ | exact RL.nil | exact Rf.same | exact Rf.bs0 | exact Rf.sl0 | (apply Rf.fact; (focus (simp; done)); exact rfl) | apply Rf.tup | apply RL.cons)); (focus (intro _ _; simp [go_sem]; done)); (iterate 2 exact rfl))
     | (apply P_call (l2); exact rfl; (focus (repeat first | exact RefineL.refl _ _ | exact RL.nil | exact Rf.same | exact Rf.bs0 | exact Rf.sl0 | (apply Rf.fact; (focus (simp; done)); exact rfl) | apply Rf.tup | apply RL.cons)); (focus (intro _ _; simp [go_sem]; done)); (iterate 2 exact rfl))
     | (apply P_lit; (iterate 9 exact rfl); refine EL.le (Le.slB (t := 61) (l := [48 ||| (a &&& 15)]) rfl) ?_)
     | (apply P_lit; (iterate 9 exact rfl); refine EL.le (Le.slB (t := 74) (l := [48 ||| (b &&& 15)]) rfl) ?_)
     | (apply P_rowidx8; exact rfl; exact I0; exact rfl; exact rfl; (first | exact hla | exact hlb); (iterate 2 exact rfl))
     | (apply P_rowstore (k := (a >>> 4).toNat) (off := 0) (d := dItem (.mk false [] [])) (d'' := dItem (lfI (a &&& 15) x)); exact rfl; exact .z; exact ⟨rfl, ga⟩; (iterate 4 exact rfl))
     | (apply P_rowstore (k := (b >>> 4).toNat) (off := 0) (d := dItem (.mk false [] [])) (d'' := dItem (lfI (b &&& 15) y)); exact rfl; exact .z; exact ⟨rfl, gb⟩; (iterate 4 exact rfl); refine EL.le (Le.freeze (pre := []) rfl) ?_; refine EL.le (Le.refine (t := 10) (d' := .sl 3 (dItems tw)) rfl (Rf.fact (by rw [hmap]; exact List.mem_cons_self) rfl)) ?_)
     | (apply P_call (l3); exact rfl; (focus (repeat first | exact RefineL.refl _ _ | exact RL.nil | exact Rf.same | exact Rf.bs0 | exact Rf.sl0 | (apply Rf.fact; (focus (simp; done)); exact rfl) | apply Rf.tup | apply RL.cons)); (focus (intro _ _; simp [go_sem]; done)); (iterate 2 exact rfl))
     | (apply P_call (p3); exact rfl; (focus (repeat first | exact RefineL.refl _ _ | exact RL.nil | exact Rf.same | exact Rf.bs0 | exact Rf.sl0 | (apply Rf.fact; (focus (simp; done)); exact rfl) | apply Rf.tup | apply RL.cons)); (focus (intro _ _; simp [go_sem]; done)); (iterate 2 exact rfl))
     | (apply P_call (hR); exact rfl; (focus (repeat first | exact RefineL.refl _ _ | exact RL.nil | exact Rf.same | exact Rf.bs0 | exact Rf.sl0 | (apply Rf.fact; (focus (simp; done)); exact rfl) | apply Rf.tup | apply RL.cons)); (focus (intro _ _; simp [go_sem]; done)); (iterate 2 exact rfl))
     | (apply P_lit; (iterate 9 exact rfl); refine EL.le (Le.slB (t := 89) (l := [a]) rfl) ?_) | (apply P_lit; (iterate 9 exact rfl); refine EL.le (Le.slB (t := 93) (l := [b]) rfl) ?_)
     | (apply P_move; (iterate 3 exact rfl)) | (apply P_assign; (iterate 3 exact rfl)) | (apply P_extract; (iterate 4 exact rfl))
     | (apply P_cmp (b := false); (iterate 2 exact rfl); (focus (first | (simp [cmpI]; done) | (simp [cmpI]; omega))); (iterate 2 exact rfl)) | (apply P_build; (iterate 7 exact rfl))
     | (apply P_lit; (iterate 9 exact rfl)) | (apply P_alloc; exact rfl; exact rfl; exact rfl; intro _)
     | (apply P_store; exact rfl; (focus (repeat first | exact .z | apply SetAt.s | apply SetAtF.s)); (iterate 4 exact rfl)) | apply EL.nil | ((with_reducible apply EK.then_normal); apply EK.code)
     | (apply EC.cond_false; exact rfl)
     | (with_reducible first | apply EC.seq | apply EC.region | apply EC.skip | apply EC.label | apply EC.block | apply EC.exit | apply EC.ret | apply EK.in_normal | apply EK.in_same | apply EK.in_ret | apply EK.then_ret | apply EK.then_exit))
  refine EC.draw 10 (by kernel_rfl) ?_
  simp only [List.take_succ_cons, List.take_zero, List.drop_succ_cons, List.drop_zero]
  repeat
    (first
     | (apply H_call (n0); exact rfl; (focus (repeat first | exact RefineL.refl _ _ | exact RL.nil | exact Rf.same | exact Rf.bs0 | exact Rf.sl0 | (apply Rf.fact; (focus (simp; done)); exact rfl) | apply Rf.tup | apply RL.cons)); (focus (intro _ _; simp [go_sem]; done)); (iterate 2 exact rfl))
     | (apply H_call (hK); exact rfl; (focus (repeat first | exact RefineL.refl _ _ | exact RL.nil | exact Rf.same | exact Rf.bs0 | exact Rf.sl0 | (apply Rf.fact; (focus (simp; done)); exact rfl) | apply Rf.tup | apply RL.cons)); (focus (intro _ _; simp [go_sem]; done)); (iterate 2 exact rfl))
     | (apply H_bin; (iterate 2 exact rfl); exact hw; (iterate 2 exact rfl)) | (apply H_move; (iterate 3 exact rfl)) | (apply H_assign; (iterate 3 exact rfl)) | (apply H_pick; (iterate 4 exact rfl))
     | (apply H_load; exact rfl; (first | exact I0 | exact I1 | exact I2 | exact I3 | exact I4 | exact I5 | exact I6); (iterate 4 exact rfl))
     | (apply H_cmp (b := true); (iterate 2 exact rfl); (focus (first | (simp [cmpI]; done) | (simp [cmpI]; omega))); (iterate 2 exact rfl)) | ((with_reducible apply EH.nil); exact rfl))
  repeat
    (first
     | apply EL.nil | ((with_reducible apply EK.then_normal); apply EK.code)
     | (with_reducible first | apply EC.seq | apply EC.region | apply EC.skip | apply EC.label | apply EC.block | apply EC.exit | apply EC.ret | apply EK.in_normal | apply EK.in_same | apply EK.in_ret | apply EK.then_ret | apply EK.then_exit))
  exact EK.retM1s [] rfl rfl (List.nil_sublist _) ⟨rfl, rfl⟩
end E
end Go.Proofs.Ytmlajcbabimkjaa
/-
  What a slice of bytes that comes in reads as.
  Conditions: none.
-/
namespace Go.Proofs.Ytmlajcbabimkjaa
open Go.RowKit Mono
end Go.Proofs.Ytmlajcbabimkjaa
/-
  What data that come in read as: bytes, lists of bytes, arrays of bytes.
  Conditions: none.
-/
namespace Go.Proofs.Ytmlajcbabimkjaa
open Go.RowKit Mono Go.ChangeShapes Go.WideShapes Go.Deep
theorem cell_spot {w : World} {p : Addr} {v : Value} (h : w.cell? p = some v) : p.block < w.heap.size ∧ ∃ b o, p = ⟨b, o, none⟩ := by
  obtain ⟨blk, off, spot⟩ := p
  have hspot : spot = none := by
    simp only [World.cell?] at h
    cases spot with
    | none => rfl
    | some s =>
      simp at h
      split at h <;> simp at h
  subst hspot
  refine ⟨?_, blk, off, rfl⟩
  rcases Nat.lt_or_ge blk w.heap.size with hlt | hge
  · exact hlt
  · simp [World.cell?, Array.getElem?_eq_none hge] at h
theorem flat_get {n : Nat} {u : Value} : ∀ (rows : List (List Value)) (j : Nat), (∀ r ∈ rows, r.length = n) → rows.flatten[j]? = some u → ∃ i r row, j = i * n + r ∧ r < n ∧ rows[i]? = some row ∧ row[r]? = some u
  | [], j, _, h => by simp at h
  | row :: rows, j, hn, h => by
    have hr : row.length = n := hn row (by simp)
    rw [List.flatten_cons] at h
    by_cases hj : j < n
    · rw [List.getElem?_append_left (by omega)] at h
      exact ⟨0, j, row, by simp, hj, rfl, h⟩
    · rw [List.getElem?_append_right (by omega), hr] at h
      obtain ⟨i, r, row', h1, h2, h3, h4⟩ := flat_get rows (j - n) (fun r hr => hn r (by simp [hr])) h
      exact ⟨i + 1, r, row', by rw [Nat.add_mul]; omega, h2, by simpa using h3, h4⟩
section
variable {H : Type} {enc : TypeId × Value → H} {w : World} {spare : Nat → Bool} {held : Bool}
theorem slice_rows {t e n : TypeId} {fuel : Nat} {v : Value} {x : DataW H × List MemPlace} (ht : Try.prog.underlying t = some (.slice e)) (hn : Try.prog.cellsOf e = n) (h : DataW.trod enc Try.prog w 0 spare held fuel t [v] = some x) :
    ∃ (A : Option Addr) (c f : Nat) (rows : List (List Value)), v = .slice A rows.length c ∧ rows.length ≤ c ∧ c ≤ maxLen ∧ Rd w w.heap.size A rows.flatten ∧ (∀ r ∈ rows, r.length = n) ∧ (A = none → rows = [] ∧ c = 0) ∧ ∀ r ∈ rows, ∃ y, DataW.trod enc Try.prog w 0 spare held f e r = some y := by
  rcases open_slice ht h with ⟨hcs, _⟩ | ⟨a, len, cap, m, f, D, Pl, hcs, _, hl, hm, hmm, _, hi⟩
  · simp at hcs
    subst hcs
    exact ⟨none, 0, 0, [], rfl, Nat.le_refl _, by simp [maxLen], Rd.nil, by simp, fun _ => ⟨rfl, rfl⟩, by simp⟩
  · simp at hcs
    subst hcs
    have hlm : len ≤ m := by rw [hmm]; split <;> omega
    rw [hn] at hi
    let row : Nat → List Value := fun i => (w.cells? 0 (a.add (i * n)) n).getD []
    have hrow : ∀ i, i < len → w.cells? 0 (a.add (i * n)) n = some (row i) ∧ ∃ y, DataW.trod enc Try.prog w 0 spare held f e (row i) = some y := fun i hil => by
      obtain ⟨cs', h1, h2⟩ := hi i (by omega)
      have : row i = cs' := by simp only [row]; rw [h1]; rfl
      rw [this]
      exact ⟨h1, _, h2⟩
    have hmem : ∀ r ∈ (List.range len).map row, ∃ i, i < len ∧ r = row i := fun r hr => by
      obtain ⟨i, h1, h2⟩ := List.mem_map.1 hr
      exact ⟨i, List.mem_range.1 h1, h2.symm⟩
    have hlen : ∀ r ∈ (List.range len).map row, r.length = n := fun r hr => by
      obtain ⟨i, h1, rfl⟩ := hmem r hr
      exact (World.cells?_some (hrow i h1).1).2.1
    refine ⟨some a, cap, f, (List.range len).map row, by simp, by simpa using hl, hm, ?_, hlen, (fun e => by cases e), fun r hr => ?_⟩
    · have hcell : ∀ j u, ((List.range len).map row).flatten[j]? = some u → w.cell? (a.add j) = some u := fun j u hu => by
        obtain ⟨i, r, row', rfl, h2, h3, h4⟩ := flat_get _ j hlen hu
        have hil : i < len := by
          have := (List.getElem?_eq_some_iff.1 h3).1
          simpa using this
        have h5 : row' = row i := by
          rw [List.getElem?_map, List.getElem?_range hil] at h3
          exact (Option.some.inj h3).symm
        subst h5
        have h6 := (World.cells?_some (hrow i hil).1).2.2 r h2
        rw [h4, Go.Deep.add_add] at h6
        exact h6
      intro hne
      obtain ⟨u0, rest, he⟩ := List.exists_cons_of_ne_nil hne
      have h0 := hcell 0 u0 (by rw [he]; rfl)
      rw [show a.add 0 = a from if_pos rfl] at h0
      obtain ⟨h1, b, o, rfl⟩ := cell_spot h0
      refine ⟨b, o, rfl, h1, fun j u hu => ?_⟩
      have := hcell j u hu
      rw [add_none] at this
      exact this
    · obtain ⟨i, h1, rfl⟩ := hmem r hr
      exact (hrow i h1).2
theorem int_of_trod {t : TypeId} {k : IntKind} {fuel : Nat} {cs : List Value} {x : DataW H × List MemPlace} (ht : Try.prog.underlying t = some (.int k)) (h : DataW.trod enc Try.prog w 0 spare held fuel t cs = some x) : ∃ n, cs = [.int k n] ∧ (Lit.int k n).wf = true := by
  obtain ⟨n, h1, _, h2⟩ := DataW.trod_int ht h
  exact ⟨n, h1, h2⟩
theorem u8_of_trod {fuel : Nat} {cs : List Value} {x : DataW H × List MemPlace} (h : DataW.trod enc Try.prog w 0 spare held fuel 5 cs = some x) : ∃ b : UInt8, cs = [bv b] := by
  obtain ⟨n, rfl, hw⟩ := int_of_trod Try.underlying5 h
  have hb := bounds_u8 hw
  refine ⟨UInt8.ofNat n.toNat, ?_⟩
  unfold bv
  rw [UInt8.toNat_ofNat']
  have : ((n.toNat % 2 ^ 8 : Nat) : Int) = n := by omega
  rw [this]
theorem bytes_of_rows {rows : List (List Value)} (h : ∀ r ∈ rows, ∃ b : UInt8, r = [bv b]) : ∃ l : List UInt8, l.length = rows.length ∧ rows.flatten = bvs l := by
  induction rows with
  | nil => exact ⟨[], rfl, rfl⟩
  | cons r rows ih =>
    obtain ⟨l, h1, h2⟩ := ih fun r hr => h r (by simp [hr])
    obtain ⟨b, rfl⟩ := h r (by simp)
    exact ⟨b :: l, by simp [h1], by simp [h2, bvs]⟩
theorem bytes_of_trod {fuel : Nat} {v : Value} {x : DataW H × List MemPlace} (h : DataW.trod enc Try.prog w 0 spare held fuel 23 [v] = some x) : ∃ l, IsB w v l := by
  obtain ⟨A, c, f, rows, rfl, h1, h2, h3, _, _, h5⟩ := slice_rows Try.underlying23 (by kernel_rfl : Try.prog.cellsOf 5 = 1) h
  obtain ⟨l, h6, h7⟩ := bytes_of_rows fun r hr => by
    obtain ⟨y, hy⟩ := h5 r hr
    exact u8_of_trod hy
  rw [h7] at h3
  exact ⟨l, A, c, by rw [h6], by rw [h6]; exact h1, h2, h3⟩
/-! ### A parameter, by its type -/
set_option maxRecDepth 100000
variable {r : Reach} {b0 : Nat} {v : Value} {d : DataW H} {ps : List MemPlace}
theorem o_u8 (hv : Value.okWide Try.prog w r b0 5 v) (h : DataW.Trod enc Try.prog w 0 spare held 5 v d ps) : ∃ n : Int, v = .int .u8 n ∧ 0 ≤ n ∧ n ≤ 255 := by
  obtain ⟨n, rfl, _, _, hw⟩ := open_int Try.underlying5 hv h
  exact ⟨n, rfl, bounds_u8 hw⟩
theorem o_bytes (hv : Value.okWide Try.prog w r b0 23 v) (h : DataW.Trod enc Try.prog w 0 spare held 23 v d ps) : ∃ l, IsB w v l := by
  obtain ⟨a, n, c, rfl⟩ := okWide_slice Try.underlying23 hv
  obtain ⟨fuel, hf⟩ := h
  exact bytes_of_trod hf
end
end Go.Proofs.Ytmlajcbabimkjaa
/-
  A law's function that answers true and whose pieces are none.
  Conditions: none.
-/
namespace Go.Proofs.Ytmlajcbabimkjaa
set_option linter.unusedVariables false
open Go.RowKit Mono
namespace E
theorem law_boolM {f : FuncId} {ds : List D} {xs : List Value} {w : World} (h : FnM f ds [] (fun r os' => r = .val (.v (.bool true)) ∧ os' = [])) (hr : ReadVs (fun b => b < w.heap.size) w ds xs) : Calls Try.prog f xs.toArray w fun e w' => e = .returned (.bool true) ∧ Below w.heap.size w w' :=
  (h.go _ w xs (fun b hb => hb) ⟨fun o ho => by simp at ho, .nil, fun b ⟨o, ho, _⟩ => by simp at ho⟩ hr).mono fun e w' ⟨v, r, os', he, ⟨h1, h2⟩, ht, hv⟩ => by
    subst he h1
    have hg := ht.gr.gr fun b ⟨o, ho, _⟩ => by simp at ho
    exact ⟨by rw [(readV_v.1 hv).2], hg⟩
end E
end Go.Proofs.Ytmlajcbabimkjaa
