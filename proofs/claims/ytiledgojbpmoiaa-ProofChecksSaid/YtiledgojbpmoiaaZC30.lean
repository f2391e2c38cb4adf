/-
 Merged (wip/tools/merge.py): PFD, PFE, Open, OpenAll, OpenWord, OpenW, OpenSh, OpenBs, OpenAddr, LawM.
 Conditions: none.
-/
import Derived.Test.YtiledgojbpmoiaaZC28
import Derived.Test.YtiledgojbpmoiaaZC29
import Derived.Test.YtiledgojbpmoiaaZC2
import Derived.OpenShut
import Derived.Test.YtiledgojbpmoiaaZC3
import Derived.Deep.Slices
import Derived.ChangeSame
import Derived.SizedLaws
import Derived.Test.YtiledgojbpmoiaaZC10
import Derived.Below
/-
 munimentslaw8's alive.
 Conditions: none.
-/
namespace Go.Proofs.Ytiledgojbpmoiaa
set_option linter.unusedVariables false
open Go.RowKit Mono Rlp
namespace E
def l8 : List Pr := [([97], [49])]
def b8 : List UInt8 := [196, 130, 32, 97, 49]
theorem errP8 : errP l8 = 0 := by decide +kernel
theorem tree8 : treeT l8 = .leaf (split [97]) [49] := by
 unfold treeT l8
 rw [show srt (([([97], [49])] : List Pr).map sp) = [sp ([97], [49])] from List.perm_singleton.1 (srt_perm _), bd_one]
 rfl
theorem pk8 : pkB (itemT (.leaf (split [97]) [49])) = b8 := by decide +kernel
set_option maxRecDepth 20000 in
set_option maxHeartbeats 8000000 in
theorem f_Prove8 : Fn 8 [.sl 2 (l8.map dPr), .bs [97]] (· = .tpl [.sl 1 ([b8].map D.bs), .v (.int .i64 0)]) := by
 have hT := f_Tree l8
 have hS := f_pSplit [97] (by decide)
 have ht := tree_ok errP8
 rw [if_pos errP8, errP8, tree8] at hT
 rw [tree8] at ht
 have hB := f_Bytes (.leaf (split [97]) [49]) ht rfl
 rw [pk8] at hB
 have hst := f_step (.leaf (split [97]) [49]) (split [97]) (by decide)
 rw [stepN_leaf, if_pos rfl] at hst
 unfold stepD at hst
 have b1 := bin_nodeNe (.leaf (split [97]) [49])
 have b2 := bin_nodeNe .nil
 simp only [dN] at hst b1 b2
 rw [dT] at hT hB
 refine FnM.toFn ?_
 refine FnM.walk 45 Try.func8 rfl Try.ntmps8 (by simp) fun X => ?_
 repeat
  (first
   | (apply P_call (hT); rfl; exact RefineL.refl _ _; (focus (intro _ _; simp [go_sem]; done)); iterate 2 rfl)
   | (apply P_call (hS); rfl; exact RefineL.refl _ _; (focus (intro _ _; simp [go_sem]; done)); iterate 2 rfl) | (apply P_move; iterate 3 rfl)
   | (apply P_assign; iterate 3 rfl) | (apply P_extract; iterate 4 rfl)
   | (apply P_cmp (b := false); (iterate 2 rfl); (focus (first | (simp [cmpI]; done) | (simp [cmpI]; omega))); iterate 2 rfl) | apply EL.nil
   | ((with_reducible apply EK.then_normal); apply EK.code) | (apply EC.cond_false; rfl) | (with_reducible first | apply EC.seq | apply EC.region | apply EC.skip | apply EC.block))
 refine EC.le (Le.row 24 1) ?_
 refine EC.loopN 2 (EK.round ?_)
 repeat
  (first
   | (apply P_skip; iterate 2 rfl) | (apply P_bin; (iterate 2 rfl); exact b1; iterate 2 rfl) | (apply P_bin; (iterate 2 rfl); exact b2; iterate 2 rfl)
   | (apply P_call (hB); rfl; exact RefineL.refl _ _; (focus (intro _ _; simp [go_sem]; done)); iterate 2 rfl)
   | (apply P_call (hst); rfl; exact RefineL.refl _ _; (focus (intro _ _; simp [go_sem]; done)); iterate 2 rfl) | (apply P_move; iterate 3 rfl)
   | (apply P_assign; iterate 3 rfl) | (apply P_extract; iterate 4 rfl) | (apply P_pick; iterate 4 rfl)
   | (apply P_cmp (b := true); (iterate 2 rfl); (focus (first | (simp [cmpI]; done) | (simp [cmpI]; omega))); iterate 2 rfl)
   | (apply P_lenrow; rfl; (first | exact I0 | exact I1 | exact I2 | exact I3 | exact I4 | exact I5 | exact I6); iterate 3 rfl) | (apply P_lit; iterate 9 rfl)
   | ((apply P_append; rfl; (focus (repeat first | exact .z | apply SetAt.s | apply SetAtF.s)); (iterate 5 rfl); (focus (constructor <;> (first | (simp; done) | (simp; omega))))); intro _)
   | ((with_reducible apply EK.then_normal); apply EK.round) | apply EL.nil | ((with_reducible apply EK.then_normal); apply EK.code) | (apply EC.cond_true; rfl) | (apply EC.cond_false; rfl)
   | (with_reducible first | apply EC.seq | apply EC.region | apply EC.skip | apply EC.block | apply EC.exit | apply EC.ret | apply EK.in_normal | apply EK.in_same | apply EK.then_exit))
 refine EK.le (Le.freeze (pre := []) rfl) ?_
 exact EK.retM2kS [] rfl rfl rfl (RL.cons (Rf.fact List.mem_cons_self rfl) (RL.cons Rf.same RL.nil)) (List.nil_sublist _) ⟨rfl, rfl⟩
theorem root8 : rootP l8 = hash b8 := by
 unfold rootP sumT
 rw [if_pos errP8, tree8, pk8]
 exact if_neg Bool.false_ne_true
theorem rootP_length8 : (rootP l8).length = 32 := by rw [root8, hash_length]
theorem root8_ne : rootP l8 ≠ root0 := by
 rw [root8, show hash b8 = Kec.aaHash from Kec.aa_hash, show root0 = Kec.eaHash from Kec.ea_hash]
 decide
theorem rd8 : rdE b8 = 0 ∧ isN 40 (rdX b8) = true := by decide +kernel
theorem ck8 : chkN 399 (rdX b8) (split [97]) [] = ([49], 0) := by decide +kernel
theorem chk8 : chkP (rootP l8) [97] [b8] = ([49], 0) := by
 unfold chkP
 rw [if_neg root8_ne, root8, chk_hash1 399 rfl, if_pos (show hash b8 = bts (.mk false (hash b8) []) from rfl), if_pos rd8, ck8]
theorem f_num8 (n : Int) : Fn 7 [.v (.int .i64 n)] (· = .val (.v (.int .i64 n))) := by
 refine Fn.walk 4 Try.func7 rfl Try.ntmps7 (by simp) fun X => ?_
 repeat
  (first
   | (apply P_move; iterate 3 rfl) | (apply P_assign; iterate 3 rfl) | apply EL.nil | ((with_reducible apply EK.then_normal); apply EK.code)
   | (with_reducible first | apply EC.seq | apply EC.region | apply EC.ret))
 exact EK.ret1 rfl rfl rfl
set_option maxRecDepth 20000 in
set_option maxHeartbeats 8000000 in
theorem f_alive8 : Fn 4 [] (· = .val (.v (.bool true))) := by
 have h1 := f_Prove8
 have h2 := f_Root l8
 have h3 := f_pCheck (rootP l8) [97] [b8] (rootP_length8) (by decide)
 rw [chk8] at h3
 rw [errP8] at h2
 have n0 := f_num8 0
 have s2 := (bin_string [49] [49]).1
 rw [beq_self_eq_true] at s2
 unfold prfD at h3
 generalize rootP l8 = r at *
 refine Fn.walk 55 Try.func4 rfl Try.ntmps4 (by simp) fun X => ?_
 repeat
  (first
   | (apply P_bytesC [97]; rfl; (focus (intro a w; kernel_rfl)); rfl; decide; rfl; rfl)
   | (apply P_bytesC [49]; rfl; (focus (intro a w; kernel_rfl)); rfl; decide; rfl; rfl)
   | (apply P_call (h1); rfl; exact RefineL.refl _ _; (focus (intro _ _; simp [go_sem]; done)); iterate 2 rfl)
   | (apply P_call (h2); rfl; exact RefineL.refl _ _; (focus (intro _ _; simp [go_sem]; done)); iterate 2 rfl)
   | (apply P_call (h3); rfl; exact RefineL.refl _ _; (focus (intro _ _; simp [go_sem]; done)); iterate 2 rfl)
   | (apply P_call (n0); rfl; exact RefineL.refl _ _; (focus (intro _ _; simp [go_sem]; done)); iterate 2 rfl) | (apply P_bin; (iterate 2 rfl); exact s2; iterate 2 rfl)
   | (apply P_move; iterate 3 rfl) | (apply P_assign; iterate 3 rfl) | (apply P_extract; iterate 4 rfl) | (apply P_pick; iterate 4 rfl)
   | (apply P_load; rfl; (first | exact I0 | exact I1 | exact I2 | exact I3 | exact I4 | exact I5 | exact I6); iterate 4 rfl)
   | (apply P_cmp (b := true); (iterate 2 rfl); (focus (first | (simp [cmpI]; done) | (simp [cmpI]; omega))); iterate 2 rfl)
   | (apply P_ar; (iterate 3 rfl); (focus omega); (focus omega); iterate 2 rfl) | (apply P_lensl; iterate 4 rfl) | (apply P_str; iterate 3 rfl)
   | (apply P_build; iterate 7 rfl) | (apply P_lit; iterate 9 rfl) | (apply P_alloc; rfl; rfl; rfl; intro _)
   | (apply P_store; rfl; (focus (repeat first | exact .z | apply SetAt.s | apply SetAtF.s)); iterate 4 rfl) | apply EL.nil | ((with_reducible apply EK.then_normal); apply EK.code)
   | (with_reducible first | apply EC.seq | apply EC.region | apply EC.ret))
 exact EK.ret1 rfl rfl rfl
end E
end Go.Proofs.Ytiledgojbpmoiaa
/-
 ProofChecks: the law.
 Conditions: none.
-/
namespace Go.Proofs.Ytiledgojbpmoiaa
set_option linter.unusedVariables false
open Go.RowKit Mono Rlp
namespace E
theorem chk_e {v : List UInt8} {e : Nat} (root key : List UInt8) (q : List (List UInt8)) (h : chkP root key q = (v, e)) : e ≠ 0 → v = [] := by
 have hN : ∀ (g : Nat) (x : Raw) (p : List UInt8) (l : List (List UInt8)), ((chk g x p l).2 ≠ 0 → (chk g x p l).1 = []) := fun g => by
  induction g with
  | zero => exact fun x p l _ => rfl
  | succ g ih =>
   intro x p l
   rw [chk_succ]
   cases nxt x l with
   | error e => exact fun _ => rfl
   | ok il =>
    obtain ⟨i, l'⟩ := il
    dsimp only
    unfold chkN
    split
    · exact ih _ _ _
    ·
     split
     · exact fun h => absurd rfl h
     · exact fun _ => rfl
 unfold chkP at h
 split at h
 ·
  split at h
  ·
   cases h
   exact fun h => absurd rfl h
  ·
   cases h
   exact fun _ => rfl
 ·
  have := hN 400 (.mk false root []) (split key) q
  rw [h] at this
  exact this
set_option maxRecDepth 20000 in
set_option maxHeartbeats 16000000 in
theorem law_checks (root key : List UInt8) (q : List (List UInt8)) (hr : root.length = 32) : FnM 3 [.arr 32 root, .bs key, .sl 1 (q.map D.bs)] [] (fun r os' => r = .val (.v (.bool true)) ∧ os' = []) := by
 have hL := f_alive8
 have hml : (q.map D.bs).length = q.length := List.length_map _
 refine FnM.walk 75 Try.func3 rfl Try.ntmps3 (by simp) fun X => ?_
 by_cases hk : 70 < key.length
 ·
  skip
  repeat
   (first
    | (apply P_skip; iterate 2 rfl) | (apply P_call (hL); rfl; exact RefineL.refl _ _; (focus (intro _ _; simp [go_sem]; done)); iterate 2 rfl) | (apply P_move; iterate 3 rfl)
    | (apply P_assign; iterate 3 rfl) | (apply P_pick; iterate 4 rfl) | (apply P_not; iterate 3 rfl)
    | (apply P_cmp (b := true); (iterate 2 rfl); (focus (first | (simp [cmpI]; done) | (simp [cmpI]; omega))); iterate 2 rfl) | (apply P_lenbs; iterate 4 rfl)
    | (apply P_box; rfl; rfl; rfl; intro _) | apply EL.nil | ((with_reducible apply EK.then_normal); apply EK.code) | (apply EC.cond_true; rfl)
    | (with_reducible first | apply EC.seq | apply EC.region | apply EC.ret | apply EK.then_ret))
  exact EK.retM1s [] rfl rfl (List.nil_sublist _) ⟨rfl, rfl⟩
 by_cases hq : 60 < q.length
 ·
  have hc : cmpI .gtr ((q.map D.bs).length : Int) 60 = some true := by
   simp only [cmpI, Option.some.injEq, decide_eq_true_eq]
   omega
  repeat
   (first
    | (apply P_call (hL); rfl; exact RefineL.refl _ _; (focus (intro _ _; simp [go_sem]; done)); iterate 2 rfl)
    | (apply P_cmp (b := true); (iterate 2 rfl); exact hc; iterate 2 rfl) | (apply P_move; iterate 3 rfl) | (apply P_assign; iterate 3 rfl)
    | (apply P_pick; iterate 4 rfl) | (apply P_not; iterate 3 rfl)
    | (apply P_cmp (b := false); (iterate 2 rfl); (focus (first | (simp [cmpI]; done) | (simp [cmpI]; omega))); iterate 2 rfl) | (apply P_lenbs; iterate 4 rfl)
    | (apply P_lensl; iterate 4 rfl) | (apply P_box; rfl; rfl; rfl; intro _) | apply EL.nil | ((with_reducible apply EK.then_normal); apply EK.code)
    | (apply EC.cond_true; rfl) | (with_reducible first | apply EC.seq | apply EC.region | apply EC.ret | apply EK.then_ret))
  exact EK.retM1s [] rfl rfl (List.nil_sublist _) ⟨rfl, rfl⟩
 have hc : cmpI .gtr ((q.map D.bs).length : Int) 60 = some false := by
  simp only [cmpI, Option.some.injEq, decide_eq_false_iff_not]
  omega
 repeat
  (first
   | (apply P_call (hL); rfl; exact RefineL.refl _ _; (focus (intro _ _; simp [go_sem]; done)); iterate 2 rfl)
   | (apply P_box; rfl; rfl; rfl; intro g; refine EL.le (Le.pin (p := 3) (pre := []) rfl rfl) ?_; simp only [List.nil_append])
   | (apply P_cmp (b := false); (iterate 2 rfl); exact hc; iterate 2 rfl) | (apply P_move; iterate 3 rfl) | (apply P_assign; iterate 3 rfl)
   | (apply P_pick; iterate 4 rfl) | (apply P_not; iterate 3 rfl)
   | (apply P_cmp (b := false); (iterate 2 rfl); (focus (first | (simp [cmpI]; done) | (simp [cmpI]; omega))); iterate 2 rfl) | (apply P_lenbs; iterate 4 rfl)
   | (apply P_lensl; iterate 4 rfl) | apply EL.nil | ((with_reducible apply EK.then_normal); apply EK.code) | (apply EC.cond_false; rfl)
   | (with_reducible first | apply EC.seq | apply EC.region | apply EC.skip | apply EC.block))
 refine EC.loop (ι := {i : Nat // i ≤ q.length ∧ ∀ b ∈ q.take i, b.length ≤ 1500})
  (fun i => ⟨[(8, .val (.v (.int .i64 (i.1 : Int)))), (3, .val (.pd (.arr 32 root))), (2, .val (.sl 1 (q.map D.bs))), (1, .val (.bs key))], [], []⟩)
  (fun i => q.length - i.1) ⟨0, Nat.zero_le _, fun b hb => by simp at hb⟩ ?_ ?_
 · exact (Le.keep (by repeat first | exact trivial | refine ⟨rfl, ?_⟩) (by repeat first | exact List.nil_sublist _ | apply List.Sublist.cons_cons | apply List.Sublist.cons) (by simp))
 rintro ⟨i, hi, hall⟩
 dsimp only at hi ⊢
 by_cases hlt : i < q.length
 ·
  have hat : (q.map D.bs)[i]? = some (.bs q[i]) := by rw [List.getElem?_map, List.getElem?_eq_getElem hlt]; rfl
  have htk : q.take (i + 1) = q.take i ++ [q[i]] := List.take_succ_eq_append_getElem hlt
  generalize q[i] = b at hat htk
  by_cases hb : 1500 < b.length
  ·
   skip
   repeat
    (first
     | (apply P_move; iterate 3 rfl) | (apply P_assign; iterate 3 rfl) | (apply P_loadpd; iterate 5 rfl)
     | (apply P_cmp (b := true); (iterate 2 rfl); (focus (first | (simp [cmpI]; done) | (simp [cmpI]; omega))); iterate 2 rfl) | (apply P_lenbs; iterate 4 rfl)
     | (apply P_lensl; iterate 4 rfl)
     | (apply P_index; (iterate 4 rfl); (focus (first | exact ⟨by decide, rfl⟩ | (refine ⟨by omega, ?_⟩; rw [Int.toNat_natCast]; assumption))); iterate 2 rfl) | apply EL.nil
     | ((with_reducible apply EK.then_normal); apply EK.code) | (apply EC.cond_true; rfl)
     | (with_reducible first | apply EC.seq | apply EC.region | apply EC.skip | apply EC.block | apply EC.ret | apply EK.in_ret | apply EK.then_ret))
   exact EK.retM1s [] rfl rfl (List.nil_sublist _) ⟨rfl, rfl⟩
  ·
   skip
   repeat
    (first
     | (apply P_move; iterate 3 rfl) | (apply P_assign; iterate 3 rfl) | (apply P_loadpd; iterate 5 rfl)
     | (apply P_cmp (b := true); (iterate 2 rfl); (focus (first | (simp [cmpI]; done) | (simp [cmpI]; omega))); iterate 2 rfl)
     | (apply P_cmp (b := false); (iterate 2 rfl); (focus (first | (simp [cmpI]; done) | (simp [cmpI]; omega))); iterate 2 rfl)
     | (apply P_ar; (iterate 3 rfl); (focus omega); (focus omega); iterate 2 rfl) | (apply P_lenbs; iterate 4 rfl) | (apply P_lensl; iterate 4 rfl)
     | (apply P_index; (iterate 4 rfl); (focus (first | exact ⟨by decide, rfl⟩ | (refine ⟨by omega, ?_⟩; rw [Int.toNat_natCast]; assumption))); iterate 2 rfl) | apply EL.nil
     | ((with_reducible apply EK.then_normal); apply EK.code) | (apply EC.cond_true; rfl) | (apply EC.cond_false; rfl)
     | (with_reducible first | apply EC.seq | apply EC.region | apply EC.skip | apply EC.block | apply EK.in_normal))
   refine EK.again ⟨i + 1, hlt, fun c hc => ?_⟩ (by dsimp only; omega) ?_
   ·
    rw [htk] at hc
    rcases List.mem_append.1 hc with hc | hc
    · exact hall c hc
    ·
     rw [List.mem_singleton.1 hc]
     omega
   ·
    simp only [Int.natCast_add]
    exact (Le.keep (by repeat first | exact trivial | refine ⟨rfl, ?_⟩) (by repeat first | exact List.nil_sublist _ | apply List.Sublist.cons_cons | apply List.Sublist.cons) (by simp))
 ·
  obtain rfl : i = q.length := by omega
  rw [List.take_length] at hall
  have h1 := f_pCheck root key q hr (by omega)
  have h2 := f_rCheck root key q hr (by omega) (fun b hb => by have := hall b hb; omega)
  have he := chk_e (v := (chkP root key q).1) (e := (chkP root key q).2) root key q rfl
  unfold prfD at h1 h2
  generalize chkP root key q = r at *
  obtain ⟨v, e⟩ := r
  dsimp only at h1 h2 he
  have n1 := f_num8 (e : Int)
  have s1 := (bin_string v v).1
  rw [beq_self_eq_true] at s1
  have b1 := (bin_bool (decide (0 < v.length)) (decide (0 < v.length))).1
  rw [beq_self_eq_true] at b1
  have hee : cmpI .eql (e : Int) (e : Int) = some true := by simp [cmpI]
  by_cases h0 : e = 0
  ·
   subst h0
   generalize decide (0 < v.length) = ok at *
   repeat
    (first
     | (apply P_call (h1); rfl; exact RefineL.refl _ _; (focus (intro _ _; simp [go_sem]; done)); iterate 2 rfl)
     | (apply P_call (h2); rfl; exact RefineL.refl _ _; (focus (intro _ _; simp [go_sem]; done)); iterate 2 rfl)
     | (apply P_call (n1); rfl; exact RefineL.refl _ _; (focus (intro _ _; simp [go_sem]; done)); iterate 2 rfl) | (apply P_bin; (iterate 2 rfl); exact s1; iterate 2 rfl)
     | (apply P_bin; (iterate 2 rfl); exact b1; iterate 2 rfl) | (apply P_move; iterate 3 rfl) | (apply P_assign; iterate 3 rfl) | (apply P_extract; iterate 4 rfl)
     | (apply P_loadpd; iterate 5 rfl) | (apply P_pick; iterate 4 rfl)
     | (apply P_cmp (b := true); (iterate 2 rfl); (focus (first | (simp [cmpI]; done) | (simp [cmpI]; omega))); iterate 2 rfl)
     | (apply P_cmp (b := false); (iterate 2 rfl); (focus (first | (simp [cmpI]; done) | (simp [cmpI]; omega))); iterate 2 rfl) | (apply P_lensl; iterate 4 rfl)
     | (apply P_str; iterate 3 rfl) | apply EL.nil | ((with_reducible apply EK.then_normal); apply EK.code) | (apply EC.cond_false; rfl)
     | (with_reducible first | apply EC.seq | apply EC.region | apply EC.skip | apply EC.exit | apply EC.ret | apply EK.in_same | apply EK.then_exit))
   exact EK.retM1s [] rfl rfl (List.nil_sublist _) ⟨rfl, rfl⟩
  ·
   obtain rfl := he h0
   have hcn : cmpI .neq (e : Int) 0 = some true := by
    have : (e : Int) ≠ 0 := by omega
    simp only [cmpI, Option.some.injEq, bne_iff_ne]
    exact this
   repeat
    (first
     | (apply P_call (h1); rfl; exact RefineL.refl _ _; (focus (intro _ _; simp [go_sem]; done)); iterate 2 rfl)
     | (apply P_call (h2); rfl; exact RefineL.refl _ _; (focus (intro _ _; simp [go_sem]; done)); iterate 2 rfl)
     | (apply P_call (n1); rfl; exact RefineL.refl _ _; (focus (intro _ _; simp [go_sem]; done)); iterate 2 rfl) | (apply P_bin; (iterate 2 rfl); exact s1; iterate 2 rfl)
     | (apply P_bin; (iterate 2 rfl); exact b1; iterate 2 rfl) | (apply P_cmp (b := true); (iterate 2 rfl); (first | exact hcn | exact hee); iterate 2 rfl)
     | (apply P_move; iterate 3 rfl) | (apply P_assign; iterate 3 rfl) | (apply P_extract; iterate 4 rfl) | (apply P_loadpd; iterate 5 rfl)
     | (apply P_pick; iterate 4 rfl) | (apply P_cmp (b := false); (iterate 2 rfl); (focus (first | (simp [cmpI]; done) | (simp [cmpI]; omega))); iterate 2 rfl)
     | (apply P_lensl; iterate 4 rfl) | (apply P_str; iterate 3 rfl) | apply EL.nil | ((with_reducible apply EK.then_normal); apply EK.code) | (apply EC.cond_true; rfl)
     | (apply EC.cond_false; rfl) | (with_reducible first | apply EC.seq | apply EC.region | apply EC.exit | apply EC.ret | apply EK.in_same | apply EK.then_exit))
   exact EK.retM1s [] rfl rfl (List.nil_sublist _) ⟨rfl, rfl⟩
end E
end Go.Proofs.Ytiledgojbpmoiaa
/-
 What a slice of bytes that comes in reads as.
 Conditions: none.
-/
namespace Go.Proofs.Ytiledgojbpmoiaa
open Go.RowKit Mono
end Go.Proofs.Ytiledgojbpmoiaa
/-
 What data that come in read as: bytes, lists of bytes, arrays of bytes.
 Conditions: none.
-/
namespace Go.Proofs.Ytiledgojbpmoiaa
open Go.RowKit Mono Go.ChangeShapes Go.WideShapes Go.Deep
theorem cell_spot {w : World} {p : Addr} {v : Value} (h : w.cell? p = some v) : p.block < w.heap.size ∧ ∃ b o, p = ⟨b, o, none⟩ := by
 obtain ⟨blk, off, spot⟩ := p
 have hspot : spot = none := by
  simp only [World.cell?] at h
  cases spot with
  | none => rfl
  | some s =>
   simp at h
   split at h <;> simp at h
 subst hspot
 refine ⟨?_, blk, off, rfl⟩
 rcases Nat.lt_or_ge blk w.heap.size with hlt | hge
 · exact hlt
 · simp [World.cell?, Array.getElem?_eq_none hge] at h
theorem flat_get {n : Nat} {u : Value} : ∀ (rows : List (List Value)) (j : Nat), (∀ r ∈ rows, r.length = n) → rows.flatten[j]? = some u → ∃ i r row, j = i * n + r ∧ r < n ∧ rows[i]? = some row ∧ row[r]? = some u
 | [], j, _, h => by simp at h
 | row :: rows, j, hn, h => by
  have hr : row.length = n := hn row (by simp)
  rw [List.flatten_cons] at h
  by_cases hj : j < n
  ·
   rw [List.getElem?_append_left (by omega)] at h
   exact ⟨0, j, row, by simp, hj, rfl, h⟩
  ·
   rw [List.getElem?_append_right (by omega), hr] at h
   obtain ⟨i, r, row', h1, h2, h3, h4⟩ := flat_get rows (j - n) (fun r hr => hn r (by simp [hr])) h
   exact ⟨i + 1, r, row', by rw [Nat.add_mul]; omega, h2, by simpa using h3, h4⟩
section
variable {H : Type} {enc : TypeId × Value → H} {w : World} {spare : Nat → Bool} {held : Bool}
theorem slice_rows {t e n : TypeId} {fuel : Nat} {v : Value} {x : DataW H × List MemPlace} (ht : Try.prog.underlying t = some (.slice e)) (hn : Try.prog.cellsOf e = n) (h : DataW.trod enc Try.prog w 0 spare held fuel t [v] = some x) :
  ∃ (A : Option Addr) (c f : Nat) (rows : List (List Value)), v = .slice A rows.length c ∧ rows.length ≤ c ∧ c ≤ maxLen ∧ Rd w w.heap.size A rows.flatten ∧ (∀ r ∈ rows, r.length = n) ∧ (A = none → rows = [] ∧ c = 0) ∧ ∀ r ∈ rows, ∃ y, DataW.trod enc Try.prog w 0 spare held f e r = some y := by
 rcases open_slice ht h with ⟨hcs, _⟩ | ⟨a, len, cap, m, f, D, Pl, hcs, _, hl, hm, hmm, _, hi⟩
 ·
  simp at hcs
  subst hcs
  exact ⟨none, 0, 0, [], rfl, Nat.le_refl _, by simp [maxLen], Rd.nil, by simp, fun _ => ⟨rfl, rfl⟩, by simp⟩
 ·
  simp at hcs
  subst hcs
  have hlm : len ≤ m := by rw [hmm]; split <;> omega
  rw [hn] at hi
  let row : Nat → List Value := fun i => (w.cells? 0 (a.add (i * n)) n).getD []
  have hrow : ∀ i, i < len → w.cells? 0 (a.add (i * n)) n = some (row i) ∧ ∃ y, DataW.trod enc Try.prog w 0 spare held f e (row i) = some y := fun i hil => by
   obtain ⟨cs', h1, h2⟩ := hi i (by omega)
   have : row i = cs' := by simp only [row]; rw [h1]; rfl
   rw [this]
   exact ⟨h1, _, h2⟩
  have hmem : ∀ r ∈ (List.range len).map row, ∃ i, i < len ∧ r = row i := fun r hr => by
   obtain ⟨i, h1, h2⟩ := List.mem_map.1 hr
   exact ⟨i, List.mem_range.1 h1, h2.symm⟩
  have hlen : ∀ r ∈ (List.range len).map row, r.length = n := fun r hr => by
   obtain ⟨i, h1, rfl⟩ := hmem r hr
   exact (World.cells?_some (hrow i h1).1).2.1
  refine ⟨some a, cap, f, (List.range len).map row, by simp, by simpa using hl, hm, ?_, hlen, (fun e => by cases e), fun r hr => ?_⟩
  ·
   have hcell : ∀ j u, ((List.range len).map row).flatten[j]? = some u → w.cell? (a.add j) = some u := fun j u hu => by
    obtain ⟨i, r, row', rfl, h2, h3, h4⟩ := flat_get _ j hlen hu
    have hil : i < len := by
     have := (List.getElem?_eq_some_iff.1 h3).1
     simpa using this
    have h5 : row' = row i := by
     rw [List.getElem?_map, List.getElem?_range hil] at h3
     exact (Option.some.inj h3).symm
    subst h5
    have h6 := (World.cells?_some (hrow i hil).1).2.2 r h2
    rw [h4, Go.Deep.add_add] at h6
    exact h6
   intro hne
   obtain ⟨u0, rest, he⟩ := List.exists_cons_of_ne_nil hne
   have h0 := hcell 0 u0 (by rw [he]; rfl)
   rw [show a.add 0 = a from if_pos rfl] at h0
   obtain ⟨h1, b, o, rfl⟩ := cell_spot h0
   refine ⟨b, o, rfl, h1, fun j u hu => ?_⟩
   have := hcell j u hu
   rw [add_none] at this
   exact this
  ·
   obtain ⟨i, h1, rfl⟩ := hmem r hr
   exact (hrow i h1).2
theorem int_of_trod {t : TypeId} {k : IntKind} {fuel : Nat} {cs : List Value} {x : DataW H × List MemPlace} (ht : Try.prog.underlying t = some (.int k)) (h : DataW.trod enc Try.prog w 0 spare held fuel t cs = some x) : ∃ n, cs = [.int k n] ∧ (Lit.int k n).wf = true := by
 obtain ⟨n, h1, _, h2⟩ := DataW.trod_int ht h
 exact ⟨n, h1, h2⟩
theorem u8_of_trod {fuel : Nat} {cs : List Value} {x : DataW H × List MemPlace} (h : DataW.trod enc Try.prog w 0 spare held fuel 5 cs = some x) : ∃ b : UInt8, cs = [bv b] := by
 obtain ⟨n, rfl, hw⟩ := int_of_trod Try.underlying5 h
 have hb := bounds_u8 hw
 refine ⟨UInt8.ofNat n.toNat, ?_⟩
 unfold bv
 rw [UInt8.toNat_ofNat']
 have : ((n.toNat % 2 ^ 8 : Nat) : Int) = n := by omega
 rw [this]
theorem bytes_of_rows {rows : List (List Value)} (h : ∀ r ∈ rows, ∃ b : UInt8, r = [bv b]) : ∃ l : List UInt8, l.length = rows.length ∧ rows.flatten = bvs l := by
 induction rows with
 | nil => exact ⟨[], rfl, rfl⟩
 | cons r rows ih =>
  obtain ⟨l, h1, h2⟩ := ih fun r hr => h r (by simp [hr])
  obtain ⟨b, rfl⟩ := h r (by simp)
  exact ⟨b :: l, by simp [h1], by simp [h2, bvs]⟩
theorem bytes_of_trod {fuel : Nat} {v : Value} {x : DataW H × List MemPlace} (h : DataW.trod enc Try.prog w 0 spare held fuel 24 [v] = some x) : ∃ l, IsB w v l := by
 obtain ⟨A, c, f, rows, rfl, h1, h2, h3, _, _, h5⟩ := slice_rows Try.underlying24 (by kernel_rfl : Try.prog.cellsOf 5 = 1) h
 obtain ⟨l, h6, h7⟩ := bytes_of_rows fun r hr => by
  obtain ⟨y, hy⟩ := h5 r hr
  exact u8_of_trod hy
 rw [h7] at h3
 exact ⟨l, A, c, by rw [h6], by rw [h6]; exact h1, h2, h3⟩
/-! ### A parameter, by its type -/
set_option maxRecDepth 100000
variable {r : Reach} {b0 : Nat} {v : Value} {d : DataW H} {ps : List MemPlace}
theorem o_bytes (hv : Value.okWide Try.prog w r b0 24 v) (h : DataW.Trod enc Try.prog w 0 spare held 24 v d ps) : ∃ l, IsB w v l := by
 obtain ⟨a, n, c, rfl⟩ := okWide_slice Try.underlying24 hv
 obtain ⟨fuel, hf⟩ := h
 exact bytes_of_trod hf
end
end Go.Proofs.Ytiledgojbpmoiaa
/-
 What data that come in read as: words and addresses.
 Conditions: none.
-/
namespace Go.Proofs.Ytiledgojbpmoiaa
set_option linter.unusedVariables false
set_option maxRecDepth 100000
open Go.RowKit Mono Go.ChangeShapes Go.WideShapes Go.Deep
section
variable {H : Type} {enc : TypeId × Value → H} {w : World} {spare : Nat → Bool} {held : Bool}
theorem bvs_of (cs : List Value) (h : ∀ u ∈ cs, ∃ b : UInt8, u = bv b) : ∃ l : List UInt8, cs = bvs l := by
 induction cs with
 | nil => exact ⟨[], rfl⟩
 | cons u cs ih =>
  obtain ⟨l, hl⟩ := ih fun u hu => h u (by simp [hu])
  obtain ⟨b, rfl⟩ := h u (by simp)
  exact ⟨b :: l, by rw [hl]; rfl⟩
theorem arr_of_trod {t : TypeId} {n fuel : Nat} {cs : List Value} {x : DataW H × List MemPlace} (ht : Try.prog.underlying t = some (.array n 5)) (hc : Try.prog.cellsOf t = n) (h : DataW.trod enc Try.prog w 0 spare held fuel t cs = some x) :
  ∃ l : List UInt8, l.length = n ∧ cs = bvs l := by
 obtain ⟨xs, m, _, _, hl, hxl, hg⟩ := DataW.trod_array ht h
 rw [hc] at hl
 obtain ⟨l, rfl⟩ := bvs_of cs fun u hu => by
  obtain ⟨i, hi, rfl⟩ := List.getElem_of_mem hu
  have h1 := hg i (by omega)
  rw [(by kernel_rfl : Try.prog.cellsOf 5 = 1), Nat.mul_one, List.drop_eq_getElem_cons hi, List.take_succ_cons, List.take_zero, List.getElem?_eq_getElem (by omega)] at h1
  obtain ⟨b, hb⟩ := u8_of_trod h1
  exact ⟨b, by simpa using hb⟩
 exact ⟨l, by rw [← hl, bvs_length], rfl⟩
variable {r : Reach} {b0 : Nat} {v : Value} {d : DataW H} {ps : List MemPlace}
theorem arr_opens {t : TypeId} {n : Nat} (ht : Try.prog.underlying t = some (.array n 5)) (hc : Try.prog.cellsOf t = n) (hv : Value.okWide Try.prog w r b0 t v) (h : DataW.Trod enc Try.prog w 0 spare held t v d ps) : ∃ l : List UInt8, l.length = n ∧ v = arrV l := by
 simp only [Value.okWide, ht] at hv
 obtain ⟨cs, rfl, _⟩ := hv
 obtain ⟨fuel, hf⟩ := h
 obtain ⟨l, h1, h2⟩ := arr_of_trod ht hc hf
 refine ⟨l, h1, ?_⟩
 unfold arrV
 rw [← h2]
 simp [Value.cells]
theorem o_word (hv : Value.okWide Try.prog w r b0 23 v) (h : DataW.Trod enc Try.prog w 0 spare held 23 v d ps) : ∃ l : List UInt8, l.length = 32 ∧ v = arrV l :=
 arr_opens Try.underlying23 (by kernel_rfl) hv h
end
end Go.Proofs.Ytiledgojbpmoiaa
/-
 What data that come in read as: slices, with a bound on what they weigh.
 Conditions: none.
-/
namespace Go.Proofs.Ytiledgojbpmoiaa
set_option linter.unusedVariables false
open Go.RowKit Mono Go.ChangeShapes Go.WideShapes Go.Deep
section
variable {H : Type} {enc : TypeId × Value → H} {w : World} {spare : Nat → Bool} {held : Bool}
theorem weights_all {P : Program} {e : TypeId} {d : DataW H} {k : Nat} : ∀ {ds : List (DataW H)}, d ∈ ds → k ∈ d.weights P e → k ∈ DataW.weightsAll P e ds
 | [], h, _ => by cases h
 | x :: xs, h, hk => by
  rw [DataW.weightsAll]
  rcases List.mem_cons.1 h with rfl | h
  · exact List.mem_append_left _ hk
  · exact List.mem_append_right _ (weights_all h hk)
theorem slice_rowsW {t e n : TypeId} {fuel : Nat} {v : Value} {x : DataW H × List MemPlace} (ht : Try.prog.underlying t = some (.slice e)) (hn : Try.prog.cellsOf e = n) (h : DataW.trod enc Try.prog w 0 spare held fuel t [v] = some x) :
  ∃ (A : Option Addr) (c f : Nat) (rows : List (List Value)), v = .slice A rows.length c ∧ rows.length ≤ c ∧ c ≤ maxLen ∧ Rd w w.heap.size A rows.flatten ∧ (∀ r ∈ rows, r.length = n) ∧ (A = none → rows = [] ∧ c = 0) ∧ (rows ≠ [] → f < fuel) ∧ (∀ r ∈ rows, ∃ y, DataW.trod enc Try.prog w 0 spare held f e r = some y ∧ ∀ k ∈ y.1.weights Try.prog e, k ∈ x.1.weights Try.prog t) ∧ (rows ≠ [] → ∃ k ∈ x.1.weights Try.prog t, rows.length * Try.prog.bytesOf e ≤ k) := by
 rcases DataW.trod_slice ht h with ⟨hcs, hx⟩ | ⟨a, len, cap, elems, rest, f, hfu, hcs, hx, _, hl, hm, hel, hi, _⟩
 ·
  simp at hcs
  subst hcs
  exact ⟨none, 0, 0, [], rfl, Nat.le_refl _, by simp [maxLen], Rd.nil, by simp, fun _ => ⟨rfl, rfl⟩, fun hne => absurd rfl hne, by simp, fun hne => absurd rfl hne⟩
 ·
  simp at hcs
  subst hcs
  rw [hn] at hi
  let row : Nat → List Value := fun i => (w.cells? 0 (a.add (i * n)) n).getD []
  have hrow : ∀ i, i < len → w.cells? 0 (a.add (i * n)) n = some (row i) ∧ ∃ y, DataW.trod enc Try.prog w 0 spare held f e (row i) = some y ∧ ∀ k ∈ y.1.weights Try.prog e, k ∈ x.1.weights Try.prog t := fun i hil => by
   have h1 := hi i hil
   rw [List.getElem?_eq_getElem (by omega)] at h1
   cases hc : w.cells? 0 (a.add (i * n)) n with
   | none => rw [hc] at h1; cases h1
   | some cs' =>
    rw [hc] at h1
    have : row i = cs' := by simp only [row]; rw [hc]; rfl
    rw [this]
    refine ⟨rfl, _, h1, fun k hk => ?_⟩
    rw [hx, DataW.weights, ht]
    exact List.mem_cons_of_mem _ (List.mem_append_left _ (weights_all (List.mem_map_of_mem (List.getElem_mem (by omega))) hk))
  have hmem : ∀ r ∈ (List.range len).map row, ∃ i, i < len ∧ r = row i := fun r hr => by
   obtain ⟨i, h1, h2⟩ := List.mem_map.1 hr
   exact ⟨i, List.mem_range.1 h1, h2.symm⟩
  have hlen : ∀ r ∈ (List.range len).map row, r.length = n := fun r hr => by
   obtain ⟨i, h1, rfl⟩ := hmem r hr
   exact (World.cells?_some (hrow i h1).1).2.1
  refine ⟨some a, cap, f, (List.range len).map row, by simp, by simpa using hl, hm, ?_, hlen, (fun e => by cases e), fun _ => by omega, fun r hr => ?_, fun _ => ⟨(elems.length + rest.length) * Try.prog.bytesOf e, ?_, ?_⟩⟩
  ·
   have hcell : ∀ j u, ((List.range len).map row).flatten[j]? = some u → w.cell? (a.add j) = some u := fun j u hu => by
    obtain ⟨i, r, row', rfl, h2, h3, h4⟩ := flat_get _ j hlen hu
    have hil : i < len := by
     have := (List.getElem?_eq_some_iff.1 h3).1
     simpa using this
    have h5 : row' = row i := by
     rw [List.getElem?_map, List.getElem?_range hil] at h3
     exact (Option.some.inj h3).symm
    subst h5
    have h6 := (World.cells?_some (hrow i hil).1).2.2 r h2
    rw [h4, Go.Deep.add_add] at h6
    exact h6
   intro hne
   obtain ⟨u0, rest, he⟩ := List.exists_cons_of_ne_nil hne
   have h0 := hcell 0 u0 (by rw [he]; rfl)
   rw [show a.add 0 = a from if_pos rfl] at h0
   obtain ⟨h1, b, o, rfl⟩ := cell_spot h0
   refine ⟨b, o, rfl, h1, fun j u hu => ?_⟩
   have := hcell j u hu
   rw [add_none] at this
   exact this
  ·
   obtain ⟨i, h1, rfl⟩ := hmem r hr
   exact (hrow i h1).2
  ·
   rw [hx, DataW.weights, ht]
   simp
  ·
   rw [List.length_map, List.length_range]
   exact Nat.mul_le_mul_right _ (by omega)
end
end Go.Proofs.Ytiledgojbpmoiaa
/-
 What data that come in read as, by their shape: numbers, bools, arrays of bytes, bytes, slices and structs of these.
 Conditions: none.
-/
namespace Go.Proofs.Ytiledgojbpmoiaa
set_option linter.unusedVariables false
set_option maxRecDepth 100000
open Go.RowKit Mono Go.ChangeShapes Go.WideShapes Go.Deep
namespace E
inductive Sh where
 | bool
 | int (k : IntKind)
 | arr (n : Nat)
 | bytes
 | slice (b : Nat) (s : Sh)
 | struct (ss : List Sh)
mutual
def Sh.size : Sh → Nat
 | .arr n => n
 | .struct ss => Sh.sizes ss
 | _ => 1
def Sh.sizes : List Sh → Nat
 | [] => 0
 | s :: ss => s.size + Sh.sizes ss
end
def Sh.agg : Sh → Bool
 | .arr _ => true
 | .struct _ => true
 | _ => false
mutual
def Sh.Is : Sh → TypeId → Prop
 | .bool, t => Try.prog.underlying t = some .bool ∧ Try.prog.cellsOf t = 1
 | .int k, t => Try.prog.underlying t = some (.int k) ∧ Try.prog.cellsOf t = 1
 | .arr n, t => Try.prog.underlying t = some (.array n 5) ∧ Try.prog.cellsOf t = n
 | .bytes, t => Try.prog.underlying t = some (.slice 5) ∧ Try.prog.cellsOf t = 1
 | .slice b s, t => Try.prog.cellsOf t = 1 ∧ ∃ e, Try.prog.underlying t = some (.slice e) ∧ Try.prog.bytesOf e = b ∧ s.Is e
 | .struct ss, t => ∃ fs : Array Field, Try.prog.underlying t = some (.struct fs) ∧ Try.prog.cellsOf t = Sh.sizes ss ∧ Sh.IsF ss 0 fs.toList
def Sh.IsF : List Sh → Nat → List Field → Prop
 | [], _, fs => fs = []
 | s :: ss, o, fs => ∃ f rest, fs = f :: rest ∧ f.offset = o ∧ s.Is f.type ∧ Sh.IsF ss (o + s.size) rest
end
mutual
def Sh.Of (N : Nat) : Sh → D → Prop
 | .bool, d => ∃ b, d = .v (.bool b)
 | .int k, d => ∃ n, d = .v (.int k n) ∧ (Lit.int k n).wf = true
 | .arr n, d => ∃ l : List UInt8, l.length = n ∧ d = .arr n l
 | .bytes, d => ∃ l : List UInt8, l.length ≤ N ∧ d = .bs l
 | .slice b s, d => ∃ ds : List D, ds.length * b ≤ N ∧ d = .sl s.size ds ∧ ∀ x ∈ ds, s.Of N x
 | .struct ss, d => ∃ ds, d = .tup ds ∧ Sh.OfL N ss ds
def Sh.OfL (N : Nat) : List Sh → List D → Prop
 | [], ds => ds = []
 | s :: ss, ds => ∃ d rest, ds = d :: rest ∧ s.Of N d ∧ Sh.OfL N ss rest
end
theorem Sh.Is.cells : ∀ {s : Sh} {t : TypeId}, s.Is t → Try.prog.cellsOf t = s.size
 | .bool, t, h => by rw [Sh.Is] at h; exact h.2
 | .int k, t, h => by rw [Sh.Is] at h; exact h.2
 | .arr n, t, h => by rw [Sh.Is] at h; exact h.2
 | .bytes, t, h => by rw [Sh.Is] at h; exact h.2
 | .slice b s, t, h => by rw [Sh.Is] at h; exact h.1
 | .struct ss, t, h => by
  rw [Sh.Is] at h
  obtain ⟨fs, _, h2, _⟩ := h
  exact h2
theorem rows_mk {ok : Nat → Prop} {w : World} {z : Nat} {Q : D → Prop} : ∀ {rows : List (List Value)}, (∀ r ∈ rows, r.length = z ∧ ∃ d, Q d ∧ Reads ok w d r) → ∃ ds, ds.length = rows.length ∧ (∀ x ∈ ds, Q x) ∧ ReadsRows ok w z ds rows
 | [], _ => ⟨[], rfl, by simp, by rw [ReadsRows]⟩
 | r :: rows, h => by
  obtain ⟨ds, h1, h2, h3⟩ := rows_mk (rows := rows) fun r hr => h r (by simp [hr])
  obtain ⟨hz, d, hd, hr⟩ := h r (by simp)
  refine ⟨d :: ds, by simp [h1], fun x hx => ?_, by rw [ReadsRows]; exact ⟨r, rows, rfl, hz, hr, h3⟩⟩
  rcases List.mem_cons.1 hx with rfl | hx
  · exact hd
  · exact h2 x hx
section
variable {H : Type} {enc : TypeId × Value → H} {w : World} {spare : Nat → Bool} {held : Bool} {N : Nat}
mutual
theorem sh_trod : ∀ (s : Sh) (t : TypeId) (fuel : Nat) (cs : List Value) (x : DataW H × List MemPlace), s.Is t → DataW.trod enc Try.prog w 0 spare held fuel t cs = some x → (∀ k ∈ x.1.weights Try.prog t, k ≤ N) → ∃ d, s.Of N d ∧ Reads (fun b => b < w.heap.size) w d cs
 | .bool, t, fuel, cs, x, hs, h, hN => by
  rw [Sh.Is] at hs
  obtain ⟨b, rfl, _⟩ := DataW.trod_bool hs.1 h
  exact ⟨.v (.bool b), by rw [Sh.Of]; exact ⟨b, rfl⟩, by rw [Reads]; exact ⟨rfl, rfl⟩⟩
 | .int k, t, fuel, cs, x, hs, h, hN => by
  rw [Sh.Is] at hs
  obtain ⟨n, rfl, _, hw⟩ := DataW.trod_int hs.1 h
  exact ⟨.v (.int k n), by rw [Sh.Of]; exact ⟨n, rfl, hw⟩, by rw [Reads]; exact ⟨rfl, rfl⟩⟩
 | .arr n, t, fuel, cs, x, hs, h, hN => by
  rw [Sh.Is] at hs
  obtain ⟨l, hl, rfl⟩ := arr_of_trod hs.1 hs.2 h
  exact ⟨.arr n l, by rw [Sh.Of]; exact ⟨l, hl, rfl⟩, by rw [Reads]; exact ⟨hl, rfl⟩⟩
 | .bytes, t, fuel, cs, x, hs, h, hN => by
  rw [Sh.Is] at hs
  have hl : ∃ v, cs = [v] := by
   rcases DataW.trod_slice hs.1 h with ⟨hcs, _⟩ | ⟨a, len, cap, elems, rest, f, hfu, hcs, _⟩
   · exact ⟨_, hcs⟩
   · exact ⟨_, hcs⟩
  obtain ⟨v, rfl⟩ := hl
  obtain ⟨A, c, f, rows, rfl, h1, h2, h3, _, _, _, h5, h8⟩ := slice_rowsW hs.1 (by kernel_rfl : Try.prog.cellsOf 5 = 1) h
  obtain ⟨l, h6, h7⟩ := bytes_of_rows fun r hr => by
   obtain ⟨y, hy, _⟩ := h5 r hr
   exact u8_of_trod hy
  rw [h7] at h3
  have hl : l.length ≤ N := by
   rw [h6]
   by_cases hr : rows = []
   · rw [hr]; simp
   ·
    obtain ⟨k, hk, hk2⟩ := h8 hr
    rw [(by kernel_rfl : Try.prog.bytesOf 5 = 1), Nat.mul_one] at hk2
    exact Nat.le_trans hk2 (hN k hk)
  exact ⟨.bs l, by rw [Sh.Of]; exact ⟨l, hl, rfl⟩, by rw [Reads]; exact ⟨_, rfl, A, c, by rw [h6], by rw [h6]; exact h1, h2, h3⟩⟩
 | .slice b s, t, fuel, cs, x, hs, h, hN => by
  rw [Sh.Is] at hs
  obtain ⟨_, e, hu, hb, he⟩ := hs
  have hl : ∃ v, cs = [v] := by
   rcases DataW.trod_slice hu h with ⟨hcs, _⟩ | ⟨a, len, cap, elems, rest, f, hfu, hcs, _⟩
   · exact ⟨_, hcs⟩
   · exact ⟨_, hcs⟩
  obtain ⟨v, rfl⟩ := hl
  obtain ⟨A, c, f, rows, rfl, h1, h2, h3, h4, h5, _, h6, h8⟩ := slice_rowsW hu he.cells h
  obtain ⟨ds, g1, g2, g3⟩ := rows_mk (ok := fun b => b < w.heap.size) (w := w) (z := s.size) (Q := s.Of N) fun r hr => by
   obtain ⟨y, hy, hk⟩ := h6 r hr
   exact ⟨h4 r hr, sh_trod s e f r y he hy fun k hk' => hN k (hk k hk')⟩
  have hl : ds.length * b ≤ N := by
   rw [g1, ← hb]
   by_cases hr : rows = []
   · rw [hr]; simp
   ·
    obtain ⟨k, hk, hk2⟩ := h8 hr
    exact Nat.le_trans hk2 (hN k hk)
  refine ⟨.sl s.size ds, by rw [Sh.Of]; exact ⟨ds, hl, rfl, g2⟩, ?_⟩
  rw [Reads]
  exact ⟨A, c, rows, by rw [g1], by rw [g1]; exact h1, h2, fun e => by rw [g1, (h5 e).1]; exact ⟨rfl, (h5 e).2⟩, h3, g3⟩
 | .struct ss, t, fuel, cs, x, hs, h, hN => by
  rw [Sh.Is] at hs
  obtain ⟨fs, hu, hc, hf⟩ := hs
  obtain ⟨xs, n, _, hx, hl, hxl, hg⟩ := DataW.trod_struct hu h
  obtain ⟨ds, h1, h2⟩ := sh_trods ss 0 n cs fs.toList hf (by rw [hl, hc, Nat.zero_add]) fun f hm => by
   obtain ⟨i, hi, rfl⟩ := List.getElem_of_mem hm
   have hi' : i < fs.size := by simpa using hi
   have := hg i fs[i] (by rw [Array.getElem?_eq_getElem hi'])
   rw [List.getElem?_eq_getElem (by omega)] at this
   refine ⟨_, this, fun k hk => hN k ?_⟩
   rw [hx]
   simp only [DataW.weights, hu]
   exact DataW.weights_mem_each (j := i) (t := fs[i].type) (d := xs[i].1) (by simp [Array.getElem?_eq_getElem hi']) (by rw [List.getElem?_map, List.getElem?_eq_getElem (by omega)]; rfl) k hk
  exact ⟨.tup ds, by rw [Sh.Of]; exact ⟨ds, rfl, h1⟩, by rw [Reads]; simpa using h2⟩
theorem sh_trods : ∀ (ss : List Sh) (o n : Nat) (cs : List Value) (fs : List Field), Sh.IsF ss o fs → cs.length = o + Sh.sizes ss → (∀ f ∈ fs, ∃ y, DataW.trod enc Try.prog w 0 spare held n f.type ((cs.drop f.offset).take (Try.prog.cellsOf f.type)) = some y ∧ ∀ k ∈ y.1.weights Try.prog f.type, k ≤ N) →
  ∃ ds, Sh.OfL N ss ds ∧ ReadsL (fun b => b < w.heap.size) w ds (cs.drop o)
 | [], o, n, cs, fs, hf, hl, h => ⟨[], by rw [Sh.OfL], by
  rw [ReadsL]
  rw [Sh.sizes] at hl
  exact List.drop_eq_nil_of_le (by omega)⟩
 | s :: ss, o, n, cs, fs, hf, hl, h => by
  rw [Sh.IsF] at hf
  obtain ⟨f, rest, rfl, rfl, hs, hf⟩ := hf
  rw [Sh.sizes] at hl
  obtain ⟨y, hy, hk⟩ := h f (by simp)
  rw [hs.cells] at hy
  obtain ⟨d, h1, h2⟩ := sh_trod s f.type n _ y hs hy hk
  obtain ⟨ds, h3, h4⟩ := sh_trods ss (f.offset + s.size) n cs rest hf (by omega) fun g hg => h g (by simp [hg])
  refine ⟨d :: ds, by rw [Sh.OfL]; exact ⟨d, ds, rfl, h1, h3⟩, ?_⟩
  rw [ReadsL]
  refine ⟨_, _, ?_, h2, h4⟩
  rw [← List.drop_drop, List.take_append_drop]
end
theorem sh_agg {s : Sh} {d : D} (h : s.Of N d) : d.agg = s.agg := by
 cases s <;> rw [Sh.Of] at h
 ·
  obtain ⟨_, rfl⟩ := h
  rfl
 ·
  obtain ⟨_, rfl, _⟩ := h
  rfl
 ·
  obtain ⟨_, _, rfl⟩ := h
  rfl
 ·
  obtain ⟨_, _, rfl⟩ := h
  rfl
 ·
  obtain ⟨_, _, rfl, _⟩ := h
  rfl
 ·
  obtain ⟨_, rfl, _⟩ := h
  rfl
variable {r : Reach} {b0 : Nat} {v : Value} {d : DataW H} {ps : List MemPlace}
theorem sh_value {s : Sh} {t : TypeId} (hs : s.Is t) (hv : Value.okWide Try.prog w r b0 t v) (h : DataW.Trod enc Try.prog w 0 spare held t v d ps) : v = if s.agg then .agg v.cells else v.cells.toList.headD undef := by
 cases s <;> rw [Sh.Is] at hs
 ·
  obtain ⟨b, rfl, _⟩ := open_bool hs.1 hv h
  rfl
 ·
  obtain ⟨n, rfl, _⟩ := open_int hs.1 hv h
  rfl
 ·
  simp only [Value.okWide, hs.1] at hv
  obtain ⟨cs, rfl, _⟩ := hv
  rfl
 ·
  obtain ⟨a, n, c, rfl⟩ := okWide_slice hs.1 hv
  rfl
 ·
  obtain ⟨_, e, hu, _, _⟩ := hs
  obtain ⟨a, n, c, rfl⟩ := okWide_slice hu hv
  rfl
 ·
  obtain ⟨fs, hu, _⟩ := hs
  simp only [Value.okWide, hu] at hv
  obtain ⟨cs, rfl, _⟩ := hv
  rfl
theorem o_sh {s : Sh} {t : TypeId} (hs : s.Is t) (hv : Value.okWide Try.prog w r b0 t v) (h : DataW.Trod enc Try.prog w 0 spare held t v d ps) (hN : ∀ k ∈ d.weights Try.prog t, k ≤ N) : ∃ D, s.Of N D ∧ ReadV (fun b => b < w.heap.size) w D v := by
 have h3 := sh_value hs hv h
 obtain ⟨fuel, hf⟩ := h
 obtain ⟨D, h1, h2⟩ := sh_trod s t fuel _ _ hs hf hN
 refine ⟨D, h1, _, h2, ?_⟩
 unfold form
 rw [sh_agg h1]
 simpa using h3
end
end E
end Go.Proofs.Ytiledgojbpmoiaa
/-
 What data that come in read as: lists of bytes.
 Conditions: none.
-/
namespace Go.Proofs.Ytiledgojbpmoiaa
set_option linter.unusedVariables false
set_option maxRecDepth 100000
open Go.RowKit Mono Go.ChangeShapes Go.WideShapes Go.Deep
namespace E
theorem is_bytesB : Sh.bytes.Is 24 := by
 rw [Sh.Is]
 exact ⟨Try.underlying24, by kernel_rfl⟩
theorem is_bbs : (Sh.slice 24 .bytes).Is 25 := by
 rw [Sh.Is]
 exact ⟨by kernel_rfl, _, Try.underlying25, by kernel_rfl, is_bytesB⟩
theorem maps_ofB {α : Type} {Q : D → Prop} {f : α → D} (h : ∀ d, Q d → ∃ a, d = f a) : ∀ {ds : List D}, (∀ x ∈ ds, Q x) → ∃ rs : List α, ds = rs.map f
 | [], _ => ⟨[], rfl⟩
 | d :: ds, hd => by
  obtain ⟨a, rfl⟩ := h d (hd d (by simp))
  obtain ⟨rs, rfl⟩ := maps_ofB h fun x hx => hd x (List.mem_cons_of_mem _ hx)
  exact ⟨a :: rs, rfl⟩
theorem le_sumB (l : List Nat) : ∀ k ∈ l, k ≤ l.sum := by
 induction l with
 | nil => intro k hk; cases hk
 | cons a l ih =>
  intro k hk
  rw [List.sum_cons]
  rcases List.mem_cons.1 hk with rfl | hk
  · omega
  ·
   have := ih k hk
   omega
end E
def o_bbs_says (w : World) (v : Value) : Prop := ∃ q : List (List UInt8), E.ReadV (fun b => b < w.heap.size) w (.sl 1 (q.map E.D.bs)) v
section
variable {H : Type} {enc : TypeId × Value → H} {w : World} {spare : Nat → Bool} {held : Bool} {r : Reach} {b0 : Nat} {v : Value} {d : DataW H} {ps : List MemPlace}
theorem o_bbs (hv : Value.okWide Try.prog w r b0 25 v) (h : DataW.Trod enc Try.prog w 0 spare held 25 v d ps) : o_bbs_says w v := by
 obtain ⟨D, h1, h2⟩ := E.o_sh E.is_bbs hv h (E.le_sumB _)
 rw [E.Sh.Of] at h1
 obtain ⟨ds, _, rfl, h3⟩ := h1
 obtain ⟨q, rfl⟩ := E.maps_ofB (f := E.D.bs) (fun d hd => by rw [E.Sh.Of] at hd; obtain ⟨l, _, rfl⟩ := hd; exact ⟨l, rfl⟩) h3
 exact ⟨q, h2⟩
end
end Go.Proofs.Ytiledgojbpmoiaa
/-
 What data that come in read as: addresses.
 Conditions: none.
-/
namespace Go.Proofs.Ytiledgojbpmoiaa
set_option linter.unusedVariables false
set_option maxRecDepth 100000
open Go.RowKit Mono Go.ChangeShapes Go.WideShapes Go.Deep
end Go.Proofs.Ytiledgojbpmoiaa
/-
 A law's function that answers true and whose pieces are none.
 Conditions: none.
-/
namespace Go.Proofs.Ytiledgojbpmoiaa
set_option linter.unusedVariables false
open Go.RowKit Mono
namespace E
theorem law_boolM {f : FuncId} {ds : List D} {xs : List Value} {w : World} (h : FnM f ds [] (fun r os' => r = .val (.v (.bool true)) ∧ os' = [])) (hr : ReadVs (fun b => b < w.heap.size) w ds xs) : Calls Try.prog f xs.toArray w fun e w' => e = .returned (.bool true) ∧ Below w.heap.size w w' :=
 (h.go _ w xs (fun b hb => hb) ⟨fun o ho => by simp at ho, .nil, fun b ⟨o, ho, _⟩ => by simp at ho⟩ hr).mono fun e w' ⟨v, r, os', he, ⟨h1, h2⟩, ht, hv⟩ => by
  subst he h1
  have hg := ht.gr.gr fun b ⟨o, ho, _⟩ => by simp at ho
  exact ⟨by rw [(readV_v.1 hv).2], hg⟩
theorem arr_read {ok : Nat → Prop} {w : World} {n : Nat} {l : List UInt8} (h : l.length = n) : ReadV ok w (.arr n l) (arrV l) := ⟨bvs l, by rw [Reads]; exact ⟨h, rfl⟩, rfl⟩
end E
end Go.Proofs.Ytiledgojbpmoiaa
