/-
  Merged (wip/tools/merge.py): TP9, JPlain, AB1, AL3, BR2, BR3.
  Conditions: none.
-/
import Derived.Test.YtmlajcbabimkjaaGreatZA20
import Derived.Test.YtmlajcbabimkjaaGreatZA15
import Derived.Test.YtmlajcbabimkjaaGreatZA5
import Derived.Lib.Bytealg
import Derived.Test.YtmlajcbabimkjaaGreatZA16
import Derived.Test.YtmlajcbabimkjaaGreatZA11
import Derived.Test.YtmlajcbabimkjaaGreatZA18
import Derived.Test.YtmlajcbabimkjaaGreatZA17
/-
  trie.Tree, trie.Root.
  Conditions: none.
-/
namespace Go.Proofs.YtmlajcbabimkjaaGreat
set_option linter.unusedVariables false
open Go.RowKit Mono Rlp
namespace E
theorem nib_hiT (x : UInt8) : (x >>> 4).toNat = x.toNat / 16 := by rw [UInt8.toNat_shiftRight]; simp [Nat.shiftRight_eq_div_pow]
theorem nib_loT (x : UInt8) : (x &&& 15).toNat = x.toNat % 16 := by rw [UInt8.toNat_and]; exact Nat.and_two_pow_sub_one_eq_mod _ 4
theorem split_smallT (l : List UInt8) : ∀ x ∈ split l, x.toNat ≤ 15 := by
  intro x hx
  obtain ⟨y, _, hy⟩ := List.mem_flatMap.1 hx
  simp only [List.mem_cons, List.not_mem_nil, or_false] at hy
  rcases hy with rfl | rfl
  · rw [nib_hiT]; have := y.toNat_lt; omega
  · rw [nib_loT]; omega
theorem bd_ok : ∀ (f : Nat) (l : List Pr) (at_ : Nat), (∀ x ∈ l, x.1.length ≤ 536870912) → (bdF f l at_).ok := by
  intro f
  induction f with
  | zero => intro l at_ h; exact trivial
  | succ f ih =>
    intro l at_ h
    match l with
    | [] => exact trivial
    | [x] =>
      show (x.1.drop at_).length ≤ 536870912
      have := h x (by simp)
      rw [List.length_drop]
      omega
    | x :: y :: r =>
      have hx := h x (by simp)
      rw [bdF]
      split
      · refine ⟨?_, ih _ _ h⟩
        rw [List.length_take, List.length_drop]
        omega
      · split
        · exact fun i => ih _ _ fun z hz => h z (List.mem_cons_of_mem _ ((List.mem_filter.1 hz).1))
        · exact fun i => ih _ _ fun z hz => h z ((List.mem_filter.1 hz).1)
def errP (l : List Pr) : Nat := if 100000 < l.length ∨ l.any lg = true then 3 else if l.any (·.2.isEmpty) = true then 1 else if ((l.map sp).map (·.1)).Nodup then 0 else 1
def treeT (l : List Pr) : Tn := bdF 200 (srt (l.map sp)) 0
theorem pairsF_ok {l : List Pr} (h : errP l = 0) : pairsF l = .tpl [.sl 2 ((srt (l.map sp)).map dPr), .v (.int .i64 0)] ∧ l.any lg = false ∧ ((l.map sp).map (·.1)).Nodup := by
  unfold errP at h
  unfold pairsF
  split at h
  · cases h
  · rename_i h1
    rw [if_neg h1]
    split at h
    · cases h
    · rename_i h2
      rw [if_neg h2]
      split at h
      · rename_i h3
        rw [if_pos h3]
        exact ⟨rfl, by simpa using fun e => h1 (.inr e), h3⟩
      · cases h
theorem pairsF_err {l : List Pr} (h : errP l ≠ 0) : pairsF l = .tpl [.v (.slice none 0 0), .v (.int .i64 (errP l : Int))] := by
  unfold errP at h ⊢
  unfold pairsF
  split
  · rfl
  · rename_i h1
    rw [if_neg h1] at h
    split
    · rfl
    · rename_i h2
      rw [if_neg h2] at h
      split
      · rename_i h3
        rw [if_pos h3] at h
        exact absurd rfl h
      · rfl
theorem rise_srt {l : List Pr} (hn : ((l.map sp).map (·.1)).Nodup) : Rise 0 (srt (l.map sp)) := by
  refine ⟨?_, fun x _ => Nat.zero_le _, fun x _ y _ => rfl, fun x hx b hb => ?_⟩
  · have h1 := srt_sorted (l.map sp)
    have h2 : ((srt (l.map sp)).map (·.1)).Nodup := ((srt_perm (l.map sp)).map (·.1)).nodup_iff.2 hn
    unfold List.Nodup at h2
    rw [List.pairwise_map] at h2
    refine (h1.and h2).imp fun h => ?_
    exact Classical.byContradiction fun hn => h.2 (List.le_antisymm h.1 (List.not_lt.1 hn))
  · obtain ⟨y, _, rfl⟩ := List.mem_map.1 ((srt_perm (l.map sp)).mem_iff.1 hx)
    have := split_smallT y.1 b hb
    omega
set_option maxRecDepth 20000 in
set_option maxHeartbeats 4000000 in
theorem f_Tree (l : List Pr) : Fn 50 [.sl 2 (l.map dPr)] (· = .tpl [if errP l = 0 then dT (treeT l) else .v .nilIface, .v (.int .i64 (errP l : Int))]) := by
  have h1 := f_pairs l
  refine Fn.walk 16 Tryz.func50 rfl Tryz.ntmps50 (by simp) fun X => ?_
  by_cases he : errP l = 0
  · obtain ⟨e1, e2, e3⟩ := pairsF_ok he
    rw [e1] at h1
    rw [if_pos he, he]
    have hlen : ∀ x ∈ srt (l.map sp), x.1.length ≤ 128 := fun x hx => by
      obtain ⟨y, hy, rfl⟩ := List.mem_map.1 ((srt_perm (l.map sp)).mem_iff.1 hx)
      have := not_long e2 hy
      show (split y.1).length ≤ 128
      rw [split_length]
      omega
    have h2 := f_build 200 (srt (l.map sp)) 0 (rise_srt e3) (fun x hx => by have := hlen x hx; omega) (fun x hx => by have := hlen x hx; omega)
    repeat
      (first
       | (apply P_call (h1); exact rfl; (focus (repeat first | exact RefineL.refl _ _ | exact RL.nil | exact Rf.same | exact Rf.bs0 | exact Rf.sl0 | (apply Rf.fact; (focus (simp; done)); exact rfl) | apply Rf.tup | apply RL.cons)); (focus (intro _ _; simp [go_sem]; done)); (iterate 2 exact rfl))
       | (apply P_call (h2); exact rfl; (focus (repeat first | exact RefineL.refl _ _ | exact RL.nil | exact Rf.same | exact Rf.bs0 | exact Rf.sl0 | (apply Rf.fact; (focus (simp; done)); exact rfl) | apply Rf.tup | apply RL.cons)); (focus (intro _ _; simp [go_sem]; done)); (iterate 2 exact rfl))
       | (apply P_move; (iterate 3 exact rfl)) | (apply P_assign; (iterate 3 exact rfl)) | (apply P_extract; (iterate 4 exact rfl))
       | (apply P_cmp (b := false); (iterate 2 exact rfl); (focus (first | (simp [cmpI]; done) | (simp [cmpI]; omega))); (iterate 2 exact rfl)) | apply EL.nil
       | ((with_reducible apply EK.then_normal); apply EK.code) | (apply EC.cond_false; exact rfl)
       | (with_reducible first | apply EC.seq | apply EC.region | apply EC.skip | apply EC.label | apply EC.block | apply EC.exit | apply EC.ret | apply EK.in_normal | apply EK.in_same | apply EK.in_ret | apply EK.then_ret | apply EK.then_exit))
    exact EK.ret2 rfl rfl rfl rfl
  · rw [pairsF_err he] at h1
    rw [if_neg he]
    have hne : (errP l : Int) ≠ 0 := by omega
    repeat
      (first
       | (apply P_call (h1); exact rfl; (focus (repeat first | exact RefineL.refl _ _ | exact RL.nil | exact Rf.same | exact Rf.bs0 | exact Rf.sl0 | (apply Rf.fact; (focus (simp; done)); exact rfl) | apply Rf.tup | apply RL.cons)); (focus (intro _ _; simp [go_sem]; done)); (iterate 2 exact rfl))
       | (apply P_move; (iterate 3 exact rfl)) | (apply P_assign; (iterate 3 exact rfl)) | (apply P_extract; (iterate 4 exact rfl))
       | (apply P_cmp (b := true); (iterate 2 exact rfl); (focus (first | (simp [cmpI]; done) | (simp [cmpI]; omega))); (iterate 2 exact rfl)) | apply EL.nil
       | ((with_reducible apply EK.then_normal); apply EK.code) | (apply EC.cond_true; exact rfl)
       | (with_reducible first | apply EC.seq | apply EC.region | apply EC.skip | apply EC.label | apply EC.block | apply EC.exit | apply EC.ret | apply EK.in_normal | apply EK.in_same | apply EK.in_ret | apply EK.then_ret | apply EK.then_exit))
    exact EK.ret2 rfl rfl rfl rfl
theorem tree_ok {l : List Pr} (h : errP l = 0) : (treeT l).ok := bd_ok _ _ _ fun x hx => by
  obtain ⟨y, hy, rfl⟩ := List.mem_map.1 ((srt_perm (l.map sp)).mem_iff.1 hx)
  have := not_long (pairsF_ok h).2.1 hy
  show (split y.1).length ≤ _
  rw [split_length]
  omega
def rootP (l : List Pr) : List UInt8 := if errP l = 0 then sumT (treeT l) else zero32
set_option maxRecDepth 20000 in
set_option maxHeartbeats 4000000 in
theorem f_Root (l : List Pr) : Fn 18 [.sl 2 (l.map dPr)] (· = .tpl [.arr 32 (rootP l), .v (.int .i64 (errP l : Int))]) := by
  have h1 := f_Tree l
  unfold rootP
  refine Fn.walk 17 Tryz.func18 rfl Tryz.ntmps18 (by simp) fun X => ?_
  by_cases he : errP l = 0
  · have h2 := f_Sum (treeT l) (tree_ok he)
    rw [if_pos he, he] at h1 ⊢
    repeat
      (first
       | (apply P_call (h1); exact rfl; (focus (repeat first | exact RefineL.refl _ _ | exact RL.nil | exact Rf.same | exact Rf.bs0 | exact Rf.sl0 | (apply Rf.fact; (focus (simp; done)); exact rfl) | apply Rf.tup | apply RL.cons)); (focus (intro _ _; simp [go_sem]; done)); (iterate 2 exact rfl))
       | (apply P_call (h2); exact rfl; (focus (repeat first | exact RefineL.refl _ _ | exact RL.nil | exact Rf.same | exact Rf.bs0 | exact Rf.sl0 | (apply Rf.fact; (focus (simp; done)); exact rfl) | apply Rf.tup | apply RL.cons)); (focus (intro _ _; simp [go_sem]; done)); (iterate 2 exact rfl))
       | (apply P_move; (iterate 3 exact rfl)) | (apply P_assign; (iterate 3 exact rfl)) | (apply P_extract; (iterate 4 exact rfl))
       | (apply P_cmp (b := false); (iterate 2 exact rfl); (focus (first | (simp [cmpI]; done) | (simp [cmpI]; omega))); (iterate 2 exact rfl)) | (apply P_alloc; exact rfl; exact rfl; exact rfl; intro _)
       | (apply P_store; exact rfl; (focus (repeat first | exact .z | apply SetAt.s | apply SetAtF.s)); (iterate 4 exact rfl)) | apply EL.nil | ((with_reducible apply EK.then_normal); apply EK.code)
       | (apply EC.cond_false; exact rfl)
       | (with_reducible first | apply EC.seq | apply EC.region | apply EC.skip | apply EC.label | apply EC.block | apply EC.exit | apply EC.ret | apply EK.in_normal | apply EK.in_same | apply EK.in_ret | apply EK.then_ret | apply EK.then_exit))
    refine EK.retc2r 0 rfl rfl rfl rfl rfl ?_ rfl
    (repeat first | exact RefineL.refl _ _ | exact RL.nil | exact Rf.same | exact Rf.bs0 | exact Rf.sl0 | (apply Rf.fact; (focus (simp; done)); exact rfl) | apply Rf.tup | apply RL.cons)
  · rw [if_neg he] at h1 ⊢
    have hne : (errP l : Int) ≠ 0 := by omega
    repeat
      (first
       | (apply P_call (h1); exact rfl; (focus (repeat first | exact RefineL.refl _ _ | exact RL.nil | exact Rf.same | exact Rf.bs0 | exact Rf.sl0 | (apply Rf.fact; (focus (simp; done)); exact rfl) | apply Rf.tup | apply RL.cons)); (focus (intro _ _; simp [go_sem]; done)); (iterate 2 exact rfl))
       | (apply P_move; (iterate 3 exact rfl)) | (apply P_assign; (iterate 3 exact rfl)) | (apply P_extract; (iterate 4 exact rfl))
       | (apply P_cmp (b := true); (iterate 2 exact rfl); (focus (first | (simp [cmpI]; done) | (simp [cmpI]; omega))); (iterate 2 exact rfl)) | (apply P_build0; (iterate 5 exact rfl))
       | (apply P_alloc; exact rfl; exact rfl; exact rfl; intro _) | (apply P_store; exact rfl; (focus (repeat first | exact .z | apply SetAt.s | apply SetAtF.s)); (iterate 4 exact rfl)) | apply EL.nil
       | ((with_reducible apply EK.then_normal); apply EK.code) | (apply EC.cond_true; exact rfl)
       | (with_reducible first | apply EC.seq | apply EC.region | apply EC.skip | apply EC.label | apply EC.block | apply EC.exit | apply EC.ret | apply EK.in_normal | apply EK.in_same | apply EK.in_ret | apply EK.then_ret | apply EK.then_exit))
    refine EK.retc2r 0 rfl rfl rfl rfl rfl ?_ rfl
    (repeat first | exact RefineL.refl _ _ | exact RL.nil | exact Rf.same | exact Rf.bs0 | exact Rf.sl0 | (apply Rf.fact; (focus (simp; done)); exact rfl) | apply Rf.tup | apply RL.cons)
end E
end Go.Proofs.YtmlajcbabimkjaaGreat
/-
  Changes as items (plain): what a diff is packed as, which items are diffs.
  Conditions: none. No program is named here.
-/
namespace Go.Proofs.YtmlajcbabimkjaaGreat
set_option linter.unusedVariables false
open Rlp
namespace Jn
structure Sl where
  key : List UInt8
  val : List UInt8
structure Ch where
  addr : List UInt8
  gone : Bool
  nonce : Int
  bal : List UInt8
  code : List UInt8
  slots : List Sl
structure Df where
  id : List UInt8
  par : List UInt8
  chs : List Ch
def Sl.ok (s : Sl) : Prop := s.key.length = 32 ∧ s.val.length = 32
def Ch.ok (c : Ch) : Prop := c.addr.length = 20 ∧ c.bal.length = 32 ∧ -9223372036854775808 ≤ c.nonce ∧ c.nonce ≤ 9223372036854775807 ∧ ∀ s ∈ c.slots, s.ok
def Df.ok (d : Df) : Prop := d.id.length = 32 ∧ d.par.length = 32 ∧ ∀ c ∈ d.chs, c.ok
def bytesI (l : List UInt8) : Raw := .mk false l []
def listI (xs : List Raw) : Raw := .mk true [] xs
def numI (n : Nat) : Raw := bytesI (be n)
def wordI (l : List UInt8) : Raw := bytesI (strip l)
def slotI (s : Sl) : Raw := listI [wordI s.key, wordI s.val]
def chI (c : Ch) : Raw := listI [bytesI c.addr, numI (if c.gone then 1 else 0), numI c.nonce.toNat, wordI c.bal, bytesI c.code, listI (c.slots.map slotI)]
def dfI (d : Df) : Raw := listI [bytesI d.id, bytesI d.par, listI (d.chs.map chI)]
abbrev cmp (l m : List UInt8) : Int := Lib.compareBytes l m
def risesS : List Sl → Bool
  | [] => true
  | [_] => true
  | a :: b :: l => decide (cmp a.key b.key < 0) && risesS (b :: l)
def mayC (c : Ch) : Bool := decide (0 ≤ c.nonce) && risesS c.slots
def risesC : List Ch → Bool
  | [] => true
  | [_] => true
  | a :: b :: l => decide (cmp a.addr b.addr < 0) && risesC (b :: l)
def may (l : List Ch) : Bool := l.all mayC && risesC l
def packD (d : Df) : Except Nat (List UInt8) := if may d.chs then (match packed (dfI d) with | some b => .ok b | none => .error 3) else .error 1
/-! ### Back -/
def isB : Raw → Option (List UInt8)
  | .mk false bs _ => some bs
  | .mk true _ _ => none
/-! ### An item that is a diff's has the diff's bytes -/
theorem E_list (bs : List UInt8) (xs : List Raw) : E (.mk true bs xs) = head (EL xs).length 192 ++ EL xs := by rw [E]
/-! ### What is small is packed -/
mutual
theorem packR_ok : ∀ x : Raw, (E x).length ≤ most → packR x = some (E x)
  | .mk false bs xs, h => by
    rw [E] at h ⊢
    rw [packR]
    have h2 : bs.length ≤ (EB bs).length := by unfold EB; split <;> simp
    rw [if_neg (by omega)]
  | .mk true bs xs, h => by
    rw [E_list] at h ⊢
    rw [List.length_append] at h
    rw [packR, packRL_ok xs [] (by simp; omega)]
    rfl
theorem packRL_ok : ∀ (xs : List Raw) (acc : List UInt8), acc.length + (EL xs).length ≤ most → packRL xs acc = some (acc ++ EL xs)
  | [], acc, h => by rw [packRL, EL, List.append_nil]
  | x :: xs, acc, h => by
    rw [EL, List.length_append] at h
    rw [packRL, packR_ok x (by omega), EL]
    dsimp only
    rw [if_neg (by omega), packRL_ok xs (acc ++ E x) (by rw [List.length_append]; omega), List.append_assoc]
end
theorem deep_list (xs : List Raw) (bs : List UInt8) (m k : Nat) (h : ∀ x ∈ xs, deepR x m ≤ k) : deepR (.mk true bs xs) (m + 1) ≤ k + 1 := by
  rw [deepR]
  have := (maxD_le xs m 0 k).2 ⟨Nat.zero_le _, h⟩
  omega
/-! ### A diff's item is the diff's -/
end Jn
end Go.Proofs.YtmlajcbabimkjaaGreat
/-
  Bodies: acct.Pack and the reference's PackBody.
  Conditions: none.
-/
namespace Go.Proofs.YtmlajcbabimkjaaGreat
set_option linter.unusedVariables false
open Go.RowKit Mono Rlp
namespace E
def dBd (n : Int) (w r c : List UInt8) : D := .tup [.v (.int .i64 n), .arr 32 w, .arr 32 r, .arr 32 c]
def bodyI (n : Int) (w r c : List UInt8) : Raw := .mk true [] [.mk false (be n.toNat) [], .mk false (strip w) [], .mk false r [], .mk false c []]
theorem packed_ok {x : Raw} (hd : deepR x 32 ≤ 32) (h : (E x).length ≤ most) : packed x = some (Rlp.E x) := by
  rw [packed_ref, if_neg (by omega), Jn.packR_ok _ h]
  dsimp only
  rw [if_neg (by omega)]
theorem EB_short (l : List UInt8) (h : l.length ≤ 32) : (EB l).length ≤ 33 := by
  rw [EB_length]
  unfold szE szB
  split
  · omega
  · rw [if_pos (by omega)]
    omega
theorem body_len (n : Int) (hn : n ≤ 9223372036854775807) (w r c : List UInt8) (hw : w.length = 32) (hr : r.length = 32) (hc : c.length = 32) : (Rlp.E (bodyI n w r c)).length ≤ 200 := by
  have h1 := EB_short (be n.toNat) (by have := be_length 8 n.toNat (by omega); omega)
  have h2 := EB_short (strip w) (by have := strip_length w; omega)
  have h3 := EB_short r (by omega)
  have h4 := EB_short c (by omega)
  have he : (Rlp.EL [.mk false (be n.toNat) [], .mk false (strip w) [], .mk false r [], .mk false c []]).length ≤ 132 := by
    simp only [Rlp.EL, Rlp.E, List.length_append, List.length_nil]
    omega
  unfold bodyI
  rw [Rlp.E, List.length_append, head_length]
  unfold szB
  split
  · omega
  · have := be_length 8 (Rlp.EL [.mk false (be n.toNat) [], .mk false (strip w) [], .mk false r [], .mk false c []]).length (by omega)
    omega
theorem packed_body (n : Int) (hn : n ≤ 9223372036854775807) (w r c : List UInt8) (hw : w.length = 32) (hr : r.length = 32) (hc : c.length = 32) : packed (bodyI n w r c) = some (Rlp.E (bodyI n w r c)) := by
  refine packed_ok ?_ (by have := body_len n hn w r c hw hr hc; simp only [most]; omega)
  unfold bodyI
  have := Jn.deep_list [.mk false (be n.toNat) [], .mk false (strip w) [], .mk false r [], .mk false c []] [] 31 0 (fun x hx => by
    simp at hx
    rcases hx with rfl | rfl | rfl | rfl <;> (rw [deepR]; omega))
  rw [show (32 : Nat) = 31 + 1 from rfl]
  exact Nat.le_trans this (by decide)
def bodyR (n : Int) (w r c : List UInt8) : R := if n < 0 then .tpl [.bs [], .v (.int .i64 1)] else .tpl [.bs (Rlp.E (bodyI n w r c)), .v (.int .i64 0)]
set_option maxRecDepth 20000 in
set_option maxHeartbeats 4000000 in
theorem f_acctPack (n : Int) (w r c : List UInt8) (hn0 : -9223372036854775808 ≤ n) (hn : n ≤ 9223372036854775807) (hw : w.length = 32) (hr : r.length = 32) (hc : c.length = 32) : Fn 70 [dBd n w r c] (· = bodyR n w r c) := by
  have h1 := f_Num n hn0 hn
  have h2 := f_Big w hw
  have h3 := f_Pack (bodyI n w r c)
  rw [packed_body n hn w r c hw hr hc] at h3
  unfold bodyR
  refine Fn.walk 26 Tryz.func70 rfl Tryz.ntmps70 (by simp) fun X => ?_
  by_cases hneg : n < 0
  · skip
    rw [if_pos hneg]
    repeat
      (first
       | (apply P_box; exact rfl; exact rfl; exact rfl; intro g; refine EL.le (Le.pin (p := 1) (pre := []) rfl rfl) ?_; simp only [List.nil_append]) | (apply P_assign; (iterate 3 exact rfl))
       | (apply P_fieldpd; (iterate 7 exact rfl)) | (apply P_loadpd; (iterate 5 exact rfl))
       | (apply P_cmp (b := true); (iterate 2 exact rfl); (focus (first | (simp [cmpI]; done) | (simp [cmpI]; omega))); (iterate 2 exact rfl)) | apply EL.nil
       | ((with_reducible apply EK.then_normal); apply EK.code) | (apply EC.cond_true; exact rfl)
       | (with_reducible first | apply EC.seq | apply EC.region | apply EC.skip | apply EC.label | apply EC.block | apply EC.exit | apply EC.ret | apply EK.in_normal | apply EK.in_same | apply EK.in_ret | apply EK.then_ret | apply EK.then_exit))
    refine EK.ret2r rfl rfl rfl ?_ rfl
    (repeat first | exact RefineL.refl _ _ | exact RL.nil | exact Rf.same | exact Rf.bs0 | exact Rf.sl0 | (apply Rf.fact; (focus (simp; done)); exact rfl) | apply Rf.tup | apply RL.cons)
  · skip
    rw [if_neg hneg]
    repeat
      (first
       | (apply P_box; exact rfl; exact rfl; exact rfl; intro g; refine EL.le (Le.pin (p := 1) (pre := []) rfl rfl) ?_; simp only [List.nil_append]) | (apply P_assign; (iterate 3 exact rfl))
       | (apply P_fieldpd; (iterate 7 exact rfl)) | (apply P_loadpd; (iterate 5 exact rfl))
       | (apply P_cmp (b := false); (iterate 2 exact rfl); (focus (first | (simp [cmpI]; done) | (simp [cmpI]; omega))); (iterate 2 exact rfl)) | apply EL.nil
       | ((with_reducible apply EK.then_normal); apply EK.code) | (apply EC.cond_false; exact rfl)
       | (with_reducible first | apply EC.seq | apply EC.region | apply EC.skip | apply EC.label | apply EC.block | apply EC.exit | apply EC.ret | apply EK.in_normal | apply EK.in_same | apply EK.in_ret | apply EK.then_ret | apply EK.then_exit))
    refine EC.draw 13 (by kernel_rfl) ?_
    simp only [List.take_succ_cons, List.take_zero, List.drop_succ_cons, List.drop_zero]
    repeat
      (first
       | (apply H_call (h1); exact rfl; (focus (repeat first | exact RefineL.refl _ _ | exact RL.nil | exact Rf.same | exact Rf.bs0 | exact Rf.sl0 | (apply Rf.fact; (focus (simp; done)); exact rfl) | apply Rf.tup | apply RL.cons)); (focus (intro _ _; simp [go_sem]; done)); (iterate 2 exact rfl))
       | (apply H_call (h2); exact rfl; (focus (repeat first | exact RefineL.refl _ _ | exact RL.nil | exact Rf.same | exact Rf.bs0 | exact Rf.sl0 | (apply Rf.fact; (focus (simp; done)); exact rfl) | apply Rf.tup | apply RL.cons)); (focus (intro _ _; simp [go_sem]; done)); (iterate 2 exact rfl))
       | (apply H_slpd sl_word; (iterate 6 exact rfl))
       | (apply H_buildR (d' := dItem (.mk false r [])); (iterate 5 exact rfl); (focus ((repeat first | exact RefineL.refl _ _ | exact RL.nil | exact Rf.same | exact Rf.bs0 | exact Rf.sl0 | (apply Rf.fact; (focus (simp; done)); exact rfl) | apply Rf.tup | apply RL.cons))); (iterate 2 exact rfl))
       | (apply H_buildR (d' := dItem (.mk false c [])); (iterate 5 exact rfl); (focus ((repeat first | exact RefineL.refl _ _ | exact RL.nil | exact Rf.same | exact Rf.bs0 | exact Rf.sl0 | (apply Rf.fact; (focus (simp; done)); exact rfl) | apply Rf.tup | apply RL.cons))); (iterate 2 exact rfl))
       | (apply H_fieldpd; (iterate 7 exact rfl)) | (apply H_loadpd; (iterate 5 exact rfl)) | (apply H_lit; (iterate 9 exact rfl)) | ((with_reducible apply EH.nil); exact rfl))
    repeat
      (first
       | (apply P_call (h3); exact rfl; (focus (repeat first | exact RefineL.refl _ _ | exact RL.nil | exact Rf.same | exact Rf.bs0 | exact Rf.sl0 | (apply Rf.fact; (focus (simp; done)); exact rfl) | apply Rf.tup | apply RL.cons)); (focus (intro _ _; simp [go_sem]; done)); (iterate 2 exact rfl))
       | (apply P_move; (iterate 3 exact rfl)) | (apply P_assign; (iterate 3 exact rfl)) | (apply P_extract; (iterate 4 exact rfl)) | (apply P_build; (iterate 7 exact rfl)) | apply EL.nil
       | ((with_reducible apply EK.then_normal); apply EK.code)
       | (with_reducible first | apply EC.seq | apply EC.region | apply EC.skip | apply EC.label | apply EC.block | apply EC.exit | apply EC.ret | apply EK.in_normal | apply EK.in_same | apply EK.in_ret | apply EK.then_ret | apply EK.then_exit))
    exact EK.ret2 rfl rfl rfl rfl
set_option maxRecDepth 20000 in
set_option maxHeartbeats 4000000 in
theorem f_rPackBody (n : Int) (w r c : List UInt8) (hn0 : -9223372036854775808 ≤ n) (hn : n ≤ 9223372036854775807) (hw : w.length = 32) (hr : r.length = 32) (hc : c.length = 32) : Fn 69 [dBd n w r c] (· = bodyR n w r c) := by
  have h1 := f_rNum n hn0 hn
  have h2 := f_rBig w hw
  have h3 := f_rPack (bodyI n w r c)
  have h4 := f_rBytes r
  have h5 := f_rBytes c
  have h6 := f_rList [.mk false (be n.toNat) [], .mk false (strip w) [], .mk false r [], .mk false c []]
  rw [packed_body n hn w r c hw hr hc] at h3
  unfold bodyR
  refine Fn.walk 28 Tryz.func69 rfl Tryz.ntmps69 (by simp) fun X => ?_
  by_cases hneg : n < 0
  · skip
    rw [if_pos hneg]
    repeat
      (first
       | (apply P_box; exact rfl; exact rfl; exact rfl; intro g; refine EL.le (Le.pin (p := 1) (pre := []) rfl rfl) ?_; simp only [List.nil_append]) | (apply P_assign; (iterate 3 exact rfl))
       | (apply P_fieldpd; (iterate 7 exact rfl)) | (apply P_loadpd; (iterate 5 exact rfl))
       | (apply P_cmp (b := true); (iterate 2 exact rfl); (focus (first | (simp [cmpI]; done) | (simp [cmpI]; omega))); (iterate 2 exact rfl)) | apply EL.nil
       | ((with_reducible apply EK.then_normal); apply EK.code) | (apply EC.cond_true; exact rfl)
       | (with_reducible first | apply EC.seq | apply EC.region | apply EC.skip | apply EC.label | apply EC.block | apply EC.exit | apply EC.ret | apply EK.in_normal | apply EK.in_same | apply EK.in_ret | apply EK.then_ret | apply EK.then_exit))
    refine EK.ret2r rfl rfl rfl ?_ rfl
    (repeat first | exact RefineL.refl _ _ | exact RL.nil | exact Rf.same | exact Rf.bs0 | exact Rf.sl0 | (apply Rf.fact; (focus (simp; done)); exact rfl) | apply Rf.tup | apply RL.cons)
  · skip
    rw [if_neg hneg]
    repeat
      (first
       | (apply P_box; exact rfl; exact rfl; exact rfl; intro g; refine EL.le (Le.pin (p := 1) (pre := []) rfl rfl) ?_; simp only [List.nil_append]) | (apply P_assign; (iterate 3 exact rfl))
       | (apply P_fieldpd; (iterate 7 exact rfl)) | (apply P_loadpd; (iterate 5 exact rfl))
       | (apply P_cmp (b := false); (iterate 2 exact rfl); (focus (first | (simp [cmpI]; done) | (simp [cmpI]; omega))); (iterate 2 exact rfl)) | apply EL.nil
       | ((with_reducible apply EK.then_normal); apply EK.code) | (apply EC.cond_false; exact rfl)
       | (with_reducible first | apply EC.seq | apply EC.region | apply EC.skip | apply EC.label | apply EC.block | apply EC.exit | apply EC.ret | apply EK.in_normal | apply EK.in_same | apply EK.in_ret | apply EK.then_ret | apply EK.then_exit))
    refine EC.draw 19 (by kernel_rfl) ?_
    simp only [List.take_succ_cons, List.take_zero, List.drop_succ_cons, List.drop_zero]
    repeat
      (first
       | (apply H_call (h1); exact rfl; (focus (repeat first | exact RefineL.refl _ _ | exact RL.nil | exact Rf.same | exact Rf.bs0 | exact Rf.sl0 | (apply Rf.fact; (focus (simp; done)); exact rfl) | apply Rf.tup | apply RL.cons)); (focus (intro _ _; simp [go_sem]; done)); (iterate 2 exact rfl))
       | (apply H_call (h2); exact rfl; (focus (repeat first | exact RefineL.refl _ _ | exact RL.nil | exact Rf.same | exact Rf.bs0 | exact Rf.sl0 | (apply Rf.fact; (focus (simp; done)); exact rfl) | apply Rf.tup | apply RL.cons)); (focus (intro _ _; simp [go_sem]; done)); (iterate 2 exact rfl))
       | (apply H_call (h4); exact rfl; (focus (repeat first | exact RefineL.refl _ _ | exact RL.nil | exact Rf.same | exact Rf.bs0 | exact Rf.sl0 | (apply Rf.fact; (focus (simp; done)); exact rfl) | apply Rf.tup | apply RL.cons)); (focus (intro _ _; simp [go_sem]; done)); (iterate 2 exact rfl))
       | (apply H_call (h5); exact rfl; (focus (repeat first | exact RefineL.refl _ _ | exact RL.nil | exact Rf.same | exact Rf.bs0 | exact Rf.sl0 | (apply Rf.fact; (focus (simp; done)); exact rfl) | apply Rf.tup | apply RL.cons)); (focus (intro _ _; simp [go_sem]; done)); (iterate 2 exact rfl))
       | (apply H_call (h6); exact rfl; (focus (repeat first | exact RefineL.refl _ _ | exact RL.nil | exact Rf.same | exact Rf.bs0 | exact Rf.sl0 | (apply Rf.fact; (focus (simp; done)); exact rfl) | apply Rf.tup | apply RL.cons)); (focus (intro _ _; simp [go_sem]; done)); (iterate 2 exact rfl))
       | (apply H_call (h3); exact rfl; (focus (repeat first | exact RefineL.refl _ _ | exact RL.nil | exact Rf.same | exact Rf.bs0 | exact Rf.sl0 | (apply Rf.fact; (focus (simp; done)); exact rfl) | apply Rf.tup | apply RL.cons)); (focus (intro _ _; simp [go_sem]; done)); (iterate 2 exact rfl))
       | (apply H_slpd sl_word; (iterate 6 exact rfl)) | (apply H_move; (iterate 3 exact rfl)) | (apply H_assign; (iterate 3 exact rfl)) | (apply H_fieldpd; (iterate 7 exact rfl))
       | (apply H_extract; (iterate 4 exact rfl)) | (apply H_loadpd; (iterate 5 exact rfl)) | (apply H_lit; (iterate 9 exact rfl)) | ((with_reducible apply EH.nil); exact rfl))
    repeat
      (first
       | (apply P_move; (iterate 3 exact rfl)) | (apply P_assign; (iterate 3 exact rfl)) | apply EL.nil | ((with_reducible apply EK.then_normal); apply EK.code)
       | (with_reducible first | apply EC.seq | apply EC.region | apply EC.skip | apply EC.label | apply EC.block | apply EC.exit | apply EC.ret | apply EK.in_normal | apply EK.in_same | apply EK.in_ret | apply EK.then_ret | apply EK.then_exit))
    exact EK.ret2 rfl rfl rfl rfl
end E
end Go.Proofs.YtmlajcbabimkjaaGreat
/-
  The root of two pairs whose keys of one byte begin unlike; of one pair (plain).
  Conditions: none.
-/
namespace Go.Proofs.YtmlajcbabimkjaaGreat
set_option linter.unusedVariables false
open Go.RowKit Mono Rlp
namespace E
theorem itemT_brG (ks : Nat → Tn) (v : List UInt8) : itemT (.br ks v) = .mk true [] ((List.range 16).map (fun i => refT (ks i)) ++ [.mk false v []]) := rfl
end E
end Go.Proofs.YtmlajcbabimkjaaGreat
/-
  The reference's rest; a builder's put, and ref (by node).
  Conditions: none.
-/
namespace Go.Proofs.YtmlajcbabimkjaaGreat
set_option linter.unusedVariables false
open Go.RowKit Mono Rlp
namespace E
def restP (n : Nat) (l : List Pr) : List Pr := l.map fun x => (x.1.drop n, x.2)
set_option maxRecDepth 20000 in
set_option maxHeartbeats 8000000 in
theorem f_rest (l : List Pr) (n : Nat) (hl : l.length ≤ 1000000) (hn : ∀ x ∈ l, n ≤ x.1.length) : Fn 83 [.sl 2 (l.map dPr), .v (.int .i64 (n : Int))] (· = .val (.sl 2 ((restP n l).map dPr))) := by
  have hml : (l.map dPr).length = l.length := List.length_map _
  refine FnM.toFn ?_
  refine FnM.walk 30 Tryz.func83 rfl Tryz.ntmps83 (by simp) fun X => ?_
  repeat
    (first
     | (apply P_assign; (iterate 3 exact rfl)) | apply EL.nil | ((with_reducible apply EK.then_normal); apply EK.code)
     | (with_reducible first | apply EC.seq | apply EC.region | apply EC.skip | apply EC.label | apply EC.block | apply EC.exit | apply EC.ret | apply EK.in_normal | apply EK.in_same | apply EK.in_ret | apply EK.then_ret | apply EK.then_exit))
  refine EC.le (Le.row 110 2) ?_
  refine EC.loop (ι := {x : Nat × Value // x.1 ≤ l.length})
    (fun x => ⟨[(6, .val (.v (.int .i64 (x.1.1 : Int)))), (5, .val (.v x.1.2)), (0, .val (.sl 2 (l.map dPr))), (1, .val (.v (.int .i64 (n : Int))))], [.row x.1.2 110 2 ((restP n (l.take x.1.1)).map dPr)], []⟩)
    (fun x => l.length - x.1.1) ⟨(0, .slice none 0 0), Nat.zero_le _⟩ ?_ ?_
  · exact (Le.keep (by repeat first | exact trivial | refine ⟨rfl, ?_⟩) (by repeat first | exact List.nil_sublist _ | apply List.Sublist.cons_cons | apply List.Sublist.cons) (by simp))
  rintro ⟨⟨i, v⟩, hi⟩
  dsimp only at hi ⊢
  by_cases hlt : i < l.length
  · have hd : (l.map dPr)[i]? = some (.tup [.bs l[i].1, .bs l[i].2]) := by rw [List.getElem?_map, List.getElem?_eq_getElem hlt]; rfl
    have hx := hn _ (List.getElem_mem hlt)
    have hl3 : ((restP n (l.take i)).map dPr).length = i := by unfold restP; rw [List.length_map, List.length_map, List.length_take]; omega
    have htk : (restP n (l.take (i + 1))).map dPr = (restP n (l.take i)).map dPr ++ [.tup [.bs (l[i].1.drop n), .bs l[i].2]] := by
      unfold restP
      rw [List.take_succ_eq_append_getElem hlt, List.map_append, List.map_append]
      rfl
    repeat
      (first
       | (apply P_move; (iterate 3 exact rfl)) | (apply P_cmp (b := true); (iterate 2 exact rfl); (focus (first | (simp [cmpI]; done) | (simp [cmpI]; omega))); (iterate 2 exact rfl))
       | (apply P_lensl; (iterate 4 exact rfl)) | apply EL.nil | ((with_reducible apply EK.then_normal); apply EK.code) | (apply EC.cond_true; exact rfl)
       | (with_reducible first | apply EC.seq | apply EC.region | apply EC.skip | apply EC.label | apply EC.block | apply EC.exit | apply EC.ret | apply EK.in_normal | apply EK.in_same | apply EK.in_ret | apply EK.then_ret | apply EK.then_exit))
    refine EC.drawC 16 [0, 1, 2, 3, 4, 5, 6, 7, 8, 9, 10, 11, 12, 13, 14] [15] [_] _ (by kernel_rfl) (by kernel_rfl) rfl ?_
    simp only [pickL, List.filterMap_cons, List.filterMap_nil, List.getElem?_cons_zero, List.getElem?_cons_succ]
    repeat
      (first
       | (apply H_bsfrom; (iterate 3 exact rfl); exact ⟨by omega, by rw [Int.toNat_natCast]; omega⟩; (iterate 2 exact rfl)) | (apply H_move; (iterate 3 exact rfl)) | (apply H_fieldpd; (iterate 7 exact rfl))
       | (apply H_loadpd; (iterate 5 exact rfl))
       | (apply H_index; (iterate 4 exact rfl); (focus (first | exact ⟨by decide, rfl⟩ | (refine ⟨by omega, ?_⟩; rw [Int.toNat_natCast]; assumption))); (iterate 2 exact rfl))
       | (apply H_build; (iterate 7 exact rfl)) | (apply H_lit; (iterate 9 exact rfl)))
    refine EM.nil ?_
    repeat (first | rw [List.cons_append] | rw [List.nil_append])
    refine CH.mut (os := [_]) (rest := []) rfl rfl (m_append rfl rfl rfl rfl rfl ?_) ?_
    · rw [hl3]
      constructor <;> (simp; omega)
    rintro _ _ ⟨v', rfl, rfl⟩
    try simp only [St.put]
    repeat (first | rw [List.cons_append] | rw [List.nil_append])
    refine CH.nil ?_
    try simp only [List.drop_succ_cons, List.drop_zero]
    repeat
      (first
       | (apply P_move; (iterate 3 exact rfl)) | (apply P_assign; (iterate 3 exact rfl)) | (apply P_ar; (iterate 3 exact rfl); (focus omega); (focus omega); (iterate 2 exact rfl)) | apply EL.nil
       | ((with_reducible apply EK.then_normal); apply EK.code)
       | (with_reducible first | apply EC.seq | apply EC.region | apply EC.skip | apply EC.label | apply EC.block | apply EC.exit | apply EC.ret | apply EK.in_normal | apply EK.in_same | apply EK.in_ret | apply EK.then_ret | apply EK.then_exit))
    refine EK.again ⟨(i + 1, v'), hlt⟩ (by dsimp only; omega) ?_
    dsimp only
    rw [htk]
    simp only [Int.natCast_add]
    exact (Le.keep (by repeat first | exact trivial | refine ⟨rfl, ?_⟩) (by repeat first | exact List.nil_sublist _ | apply List.Sublist.cons_cons | apply List.Sublist.cons) (by simp))
  · obtain rfl : i = l.length := by omega
    rw [List.take_length]
    refine EC.le (Le.freeze (pre := []) rfl) ?_
    simp only [List.nil_append]
    repeat
      (first
       | (apply P_move; (iterate 3 exact rfl)) | (apply P_assign; (iterate 3 exact rfl))
       | (apply P_cmp (b := false); (iterate 2 exact rfl); (focus (first | (simp [cmpI]; done) | (simp [cmpI]; omega))); (iterate 2 exact rfl)) | (apply P_lensl; (iterate 4 exact rfl)) | apply EL.nil
       | ((with_reducible apply EK.then_normal); apply EK.code) | (apply EC.cond_false; exact rfl)
       | (with_reducible first | apply EC.seq | apply EC.region | apply EC.skip | apply EC.label | apply EC.block | apply EC.exit | apply EC.ret | apply EK.in_normal | apply EK.in_same | apply EK.in_ret | apply EK.then_ret | apply EK.then_exit))
    exact EK.retM1k [] rfl rfl (RL.cons (Rf.fact List.mem_cons_self rfl) RL.nil) (List.nil_sublist _) ⟨rfl, rfl⟩
abbrev bO (g : Nat) (ns : List Pr) : Obj := .var g 113 (.tup [.sl 33 (ns.map dNd), .v (.pointer none), .v (.bool false)])
set_option maxRecDepth 20000 in
set_option maxHeartbeats 8000000 in
theorem b_put (g : Nat) (ns : List Pr) (x : List UInt8) (hl : ns.length ≤ 1000000000) (hx : x.length ≤ 1099511627776) : FnM 55 [.v (ptr g), .bs x] [bO g ns] (fun r os' => r = .val (.arr 32 (hash x)) ∧ os' = [bO g (putN (hash x, x) ns)]) := by
  have hK := f_Keccak x hx
  have hP := f_PutNode ns (hash x, x) hl
  have hnl := (bin_nil (T := 37) (by kernel_rfl) none).2
  refine FnM.walk 38 Tryz.func55 rfl Tryz.ntmps55 (by simp) fun X => ?_
  repeat
    (first
     | (apply P_call (hK); exact rfl; (focus (repeat first | exact RefineL.refl _ _ | exact RL.nil | exact Rf.same | exact Rf.bs0 | exact Rf.sl0 | (apply Rf.fact; (focus (simp; done)); exact rfl) | apply Rf.tup | apply RL.cons)); (focus (intro _ _; simp [go_sem]; done)); (iterate 2 exact rfl))
     | (apply P_move; (iterate 3 exact rfl)) | (apply P_alloc; exact rfl; exact rfl; exact rfl; intro _)
     | (apply P_store; exact rfl; (focus (repeat first | exact .z | apply SetAt.s | apply SetAtF.s)); (iterate 4 exact rfl)) | apply EL.nil | ((with_reducible apply EK.then_normal); apply EK.code)
     | (with_reducible first | apply EC.seq | apply EC.region | apply EC.skip | apply EC.label | apply EC.block | apply EC.exit | apply EC.ret | apply EK.in_normal | apply EK.in_same | apply EK.in_ret | apply EK.then_ret | apply EK.then_exit))
  refine EC.draw 15 (by kernel_rfl) ?_
  simp only [List.take_succ_cons, List.take_zero, List.drop_succ_cons, List.drop_zero]
  repeat
    (first
     | (apply H_skip; (iterate 2 exact rfl)) | (apply H_bin; (iterate 2 exact rfl); exact hnl; (iterate 2 exact rfl)) | (apply H_move; (iterate 3 exact rfl)) | (apply H_field; (iterate 6 exact rfl))
     | (apply H_pick; (iterate 4 exact rfl)) | (apply H_load; exact rfl; (first | exact I0 | exact I1 | exact I2 | exact I3 | exact I4 | exact I5 | exact I6); (iterate 4 exact rfl))
     | (apply H_nilck; (iterate 3 exact rfl)) | ((with_reducible apply EH.nil); exact rfl))
  repeat
    (first
     | apply EL.nil | ((with_reducible apply EK.then_normal); apply EK.code) | (apply EC.cond_false; exact rfl)
     | (with_reducible first | apply EC.seq | apply EC.region | apply EC.skip | apply EC.label | apply EC.block | apply EC.exit | apply EC.ret | apply EK.in_normal | apply EK.in_same | apply EK.in_ret | apply EK.then_ret | apply EK.then_exit))
  refine EC.le (Le.pick [2, 0, 1] [_, _, _] rfl (by decide) rfl) ?_
  refine EC.drawC 12 [0, 1, 2, 3, 5, 6, 7, 9, 10] [4, 8, 11] [_] _ (by kernel_rfl) (by kernel_rfl) rfl ?_
  simp only [pickL, List.filterMap_cons, List.filterMap_nil, List.getElem?_cons_zero, List.getElem?_cons_succ]
  repeat
    (first
     | (apply H_move; (iterate 3 exact rfl)) | (apply H_field; (iterate 6 exact rfl))
     | (apply H_load; exact rfl; (first | exact I0 | exact I1 | exact I2 | exact I3 | exact I4 | exact I5 | exact I6); (iterate 4 exact rfl)) | (apply H_build; (iterate 7 exact rfl))
     | (apply H_nilck; (iterate 3 exact rfl)))
  refine EM.nil ?_
  repeat (first | rw [List.cons_append] | rw [List.nil_append])
  refine CH.cut 2 ?_
  simp only [List.take_succ_cons, List.take_zero, List.drop_succ_cons, List.drop_zero]
  repeat
    (first
     | (apply H_call (hP); exact rfl; (focus (repeat first | exact RefineL.refl _ _ | exact RL.nil | exact Rf.same | exact Rf.bs0 | exact Rf.sl0 | (apply Rf.fact; (focus (simp; done)); exact rfl) | apply Rf.tup | apply RL.cons)); (focus (intro _ _; simp [go_sem]; done)); (iterate 2 exact rfl))
     | (apply H_load; exact rfl; (first | exact I0 | exact I1 | exact I2 | exact I3 | exact I4 | exact I5 | exact I6); (iterate 4 exact rfl)))
  refine EM.nil ?_
  repeat (first | rw [List.cons_append] | rw [List.nil_append])
  refine CH.mut (os := [_]) (rest := []) rfl rfl (m_put (put_store rfl rfl rfl rfl rfl)) ?_
  rintro _ _ ⟨rfl, rfl⟩
  try simp only [St.put]
  repeat (first | rw [List.cons_append] | rw [List.nil_append])
  refine CH.nil ?_
  try simp only [List.drop_succ_cons, List.drop_zero]
  repeat
    (first
     | (apply P_load; exact rfl; (first | exact I0 | exact I1 | exact I2 | exact I3 | exact I4 | exact I5 | exact I6); (iterate 4 exact rfl))
     | (apply P_store; exact rfl; (focus (repeat first | exact .z | apply SetAt.s | apply SetAtF.s)); (iterate 4 exact rfl)) | apply EL.nil | ((with_reducible apply EK.then_normal); apply EK.code)
     | (with_reducible first | apply EC.seq | apply EC.region | apply EC.skip | apply EC.label | apply EC.block | apply EC.exit | apply EC.ret | apply EK.in_normal | apply EK.in_same | apply EK.in_ret | apply EK.then_ret | apply EK.then_exit))
  refine EK.retMc1s 2 [bO g (putN (hash x, x) ns)] rfl rfl rfl rfl ?_ (by (repeat first | exact List.nil_sublist _ | apply List.Sublist.cons_cons | apply List.Sublist.cons)) ⟨rfl, rfl⟩
  (repeat first | exact RefineL.refl _ _ | exact RL.nil | exact Rf.same | exact Rf.bs0 | exact Rf.sl0 | (apply Rf.fact; (focus (simp; done)); exact rfl) | apply Rf.tup | apply RL.cons)
theorem pkB_leB (x : Raw) : (pkB x).length ≤ 1099511627776 := by
  have h : ∀ b, packed x = some b → b.length ≤ most := fun b h => by
    rw [packed_ref] at h
    split at h
    · cases h
    · split at h
      · split at h
        · cases h
        · cases h
          omega
      · cases h
  unfold pkB
  cases hp : packed x with
  | none => exact Nat.zero_le _
  | some b =>
    have := h b hp
    simp only [most] at this
    show b.length ≤ _
    omega
def refE (l : List Pr) (x : Raw) : Raw := if l.isEmpty then .mk false [] [] else refI x
set_option maxRecDepth 20000 in
set_option maxHeartbeats 8000000 in
theorem b_ref (g : Nat) (ns : List Pr) (l : List Pr) (x : Raw) (C : Nat) (hc : ns.length + C ≤ 1000000000)
    (H : l.isEmpty = false → FnM 54 [.v (ptr g), .sl 2 (l.map dPr)] [bO g ns] (fun r os' => ∃ ns', ns'.length ≤ ns.length + C ∧ r = .val (dItem x) ∧ os' = [bO g ns'])) :
    FnM 82 [.v (ptr g), .sl 2 (l.map dPr)] [bO g ns] (fun r os' => ∃ ns', ns'.length ≤ ns.length + (if l.isEmpty then 0 else C + 1) ∧ r = .val (dItem (refE l x)) ∧ os' = [bO g ns']) := by
  unfold refE
  have hb0 := f_rBytes []
  refine FnM.walk 30 Tryz.func82 rfl Tryz.ntmps82 (by simp) fun X => ?_
  cases l with
  | nil =>
    rw [if_pos (show ([] : List Pr).isEmpty = true from rfl), if_pos (show ([] : List Pr).isEmpty = true from rfl)]
    repeat
      (first
       | (apply P_call (hb0); exact rfl; (focus (repeat first | exact RefineL.refl _ _ | exact RL.nil | exact Rf.same | exact Rf.bs0 | exact Rf.sl0 | (apply Rf.fact; (focus (simp; done)); exact rfl) | apply Rf.tup | apply RL.cons)); (focus (intro _ _; simp [go_sem]; done)); (iterate 2 exact rfl))
       | (apply P_move; (iterate 3 exact rfl)) | (apply P_cmp (b := true); (iterate 2 exact rfl); (focus (first | (simp [cmpI]; done) | (simp [cmpI]; omega))); (iterate 2 exact rfl))
       | (apply P_lensl; (iterate 4 exact rfl)) | (apply P_alloc; exact rfl; exact rfl; exact rfl; intro _)
       | (apply P_store; exact rfl; (focus (repeat first | exact .z | apply SetAt.s | apply SetAtF.s)); (iterate 4 exact rfl)) | apply EL.nil | ((with_reducible apply EK.then_normal); apply EK.code)
       | (apply EC.cond_true; exact rfl)
       | (with_reducible first | apply EC.seq | apply EC.region | apply EC.skip | apply EC.label | apply EC.block | apply EC.exit | apply EC.ret | apply EK.in_normal | apply EK.in_same | apply EK.in_ret | apply EK.then_ret | apply EK.then_exit))
    refine EK.retMc1s 0 [bO g ns] rfl rfl rfl rfl ?_ (by (repeat first | exact List.nil_sublist _ | apply List.Sublist.cons_cons | apply List.Sublist.cons)) ⟨ns, by omega, rfl, rfl⟩
    (repeat first | exact RefineL.refl _ _ | exact RL.nil | exact Rf.same | exact Rf.bs0 | exact Rf.sl0 | (apply Rf.fact; (focus (simp; done)); exact rfl) | apply Rf.tup | apply RL.cons)
  | cons y l =>
    have h1 := H rfl
    rw [if_neg (show ¬ ((y :: l).isEmpty = true) from Bool.false_ne_true), if_neg (show ¬ ((y :: l).isEmpty = true) from Bool.false_ne_true)]
    have h2 := f_rPack x
    unfold refI
    repeat
      (first
       | (apply P_move; (iterate 3 exact rfl)) | (apply P_cmp (b := false); (iterate 2 exact rfl); (focus (first | (simp [cmpI]; done) | (simp [cmpI]; omega))); (iterate 2 exact rfl))
       | (apply P_lensl; (iterate 4 exact rfl)) | (apply P_alloc; exact rfl; exact rfl; exact rfl; intro _) | apply EL.nil | ((with_reducible apply EK.then_normal); apply EK.code)
       | (apply EC.cond_false; exact rfl)
       | (with_reducible first | apply EC.seq | apply EC.region | apply EC.skip | apply EC.label | apply EC.block | apply EC.exit | apply EC.ret | apply EK.in_normal | apply EK.in_same | apply EK.in_ret | apply EK.then_ret | apply EK.then_exit))
    refine P_callAt h1 [_] [] rfl rfl (RefineL.refl _ _) (by intro _ _; simp [go_sem]) rfl rfl ?_
    rintro _ _ ⟨ns1, hn1, rfl, rfl⟩
    simp only [List.cons_append, List.nil_append]
    have hle := pkB_leB x
    have hpb : packed x = none ∨ packed x = some (pkB x) := by
      unfold pkB
      cases h : packed x with
      | none => exact .inl rfl
      | some b => exact .inr rfl
    rcases hpb with hp | hp
    · have h0 : pkB x = [] := by unfold pkB; rw [hp]; rfl
      rw [hp] at h2
      rw [h0, if_pos (by decide)]
      unfold packD at h2
      dsimp only at h2
      cases x with
      | mk xb xs xl =>
        unfold dItem at h2 ⊢
        repeat
          (first
           | (apply P_call (h2); exact rfl; (focus (repeat first | exact RefineL.refl _ _ | exact RL.nil | exact Rf.same | exact Rf.bs0 | exact Rf.sl0 | (apply Rf.fact; (focus (simp; done)); exact rfl) | apply Rf.tup | apply RL.cons)); (focus (intro _ _; simp [go_sem]; done)); (iterate 2 exact rfl))
           | (apply P_move; (iterate 3 exact rfl)) | (apply P_assign; (iterate 3 exact rfl)) | (apply P_extract; (iterate 4 exact rfl))
           | (apply P_load; exact rfl; (first | exact I0 | exact I1 | exact I2 | exact I3 | exact I4 | exact I5 | exact I6); (iterate 4 exact rfl))
           | (apply P_cmp (b := true); (iterate 2 exact rfl); (focus (first | (simp [cmpI]; done) | (simp [cmpI]; omega))); (iterate 2 exact rfl)) | (apply P_lenv; (iterate 4 exact rfl))
           | (apply P_alloc; exact rfl; exact rfl; exact rfl; intro _) | (apply P_store; exact rfl; (focus (repeat first | exact .z | apply SetAt.s | apply SetAtF.s)); (iterate 4 exact rfl)) | apply EL.nil
           | ((with_reducible apply EK.then_normal); apply EK.code) | (apply EC.cond_true; exact rfl)
           | (with_reducible first | apply EC.seq | apply EC.region | apply EC.skip | apply EC.label | apply EC.block | apply EC.exit | apply EC.ret | apply EK.in_normal | apply EK.in_same | apply EK.in_ret | apply EK.then_ret | apply EK.then_exit))
        refine EK.retMc1s 1 [bO g ns1] rfl rfl rfl rfl ?_ (by (repeat first | exact List.nil_sublist _ | apply List.Sublist.cons_cons | apply List.Sublist.cons)) ⟨ns1, by omega, rfl, rfl⟩
        (repeat first | exact RefineL.refl _ _ | exact RL.nil | exact Rf.same | exact Rf.bs0 | exact Rf.sl0 | (apply Rf.fact; (focus (simp; done)); exact rfl) | apply Rf.tup | apply RL.cons)
    · rw [hp] at h2
      unfold packD at h2
      dsimp only at h2
      generalize pkB x = pb at h2 hle
      by_cases h32 : pb.length < 32
      · rw [if_pos h32]
        cases x with
        | mk xb xs xl =>
          unfold dItem at h2 ⊢
          repeat
            (first
             | (apply P_call (h2); exact rfl; (focus (repeat first | exact RefineL.refl _ _ | exact RL.nil | exact Rf.same | exact Rf.bs0 | exact Rf.sl0 | (apply Rf.fact; (focus (simp; done)); exact rfl) | apply Rf.tup | apply RL.cons)); (focus (intro _ _; simp [go_sem]; done)); (iterate 2 exact rfl))
             | (apply P_move; (iterate 3 exact rfl)) | (apply P_assign; (iterate 3 exact rfl)) | (apply P_extract; (iterate 4 exact rfl))
             | (apply P_load; exact rfl; (first | exact I0 | exact I1 | exact I2 | exact I3 | exact I4 | exact I5 | exact I6); (iterate 4 exact rfl))
             | (apply P_cmp (b := true); (iterate 2 exact rfl); (focus (first | (simp [cmpI]; done) | (simp [cmpI]; omega))); (iterate 2 exact rfl)) | (apply P_lenbs; (iterate 4 exact rfl))
             | (apply P_alloc; exact rfl; exact rfl; exact rfl; intro _) | (apply P_store; exact rfl; (focus (repeat first | exact .z | apply SetAt.s | apply SetAtF.s)); (iterate 4 exact rfl)) | apply EL.nil
             | ((with_reducible apply EK.then_normal); apply EK.code) | (apply EC.cond_true; exact rfl)
             | (with_reducible first | apply EC.seq | apply EC.region | apply EC.skip | apply EC.label | apply EC.block | apply EC.exit | apply EC.ret | apply EK.in_normal | apply EK.in_same | apply EK.in_ret | apply EK.then_ret | apply EK.then_exit))
          refine EK.retMc1s 1 [bO g ns1] rfl rfl rfl rfl ?_ (by (repeat first | exact List.nil_sublist _ | apply List.Sublist.cons_cons | apply List.Sublist.cons)) ⟨ns1, by omega, rfl, rfl⟩
          (repeat first | exact RefineL.refl _ _ | exact RL.nil | exact Rf.same | exact Rf.bs0 | exact Rf.sl0 | (apply Rf.fact; (focus (simp; done)); exact rfl) | apply Rf.tup | apply RL.cons)
      · rw [if_neg h32]
        have h3 := b_put g ns1 pb (by omega) hle
        have h4 := f_rBytes (hash pb)
        cases x with
        | mk xb xs xl =>
          unfold dItem at h2
          repeat
            (first
             | (apply P_call (h2); exact rfl; (focus (repeat first | exact RefineL.refl _ _ | exact RL.nil | exact Rf.same | exact Rf.bs0 | exact Rf.sl0 | (apply Rf.fact; (focus (simp; done)); exact rfl) | apply Rf.tup | apply RL.cons)); (focus (intro _ _; simp [go_sem]; done)); (iterate 2 exact rfl))
             | (apply P_move; (iterate 3 exact rfl)) | (apply P_assign; (iterate 3 exact rfl)) | (apply P_extract; (iterate 4 exact rfl))
             | (apply P_load; exact rfl; (first | exact I0 | exact I1 | exact I2 | exact I3 | exact I4 | exact I5 | exact I6); (iterate 4 exact rfl))
             | (apply P_cmp (b := false); (iterate 2 exact rfl); (focus (first | (simp [cmpI]; done) | (simp [cmpI]; omega))); (iterate 2 exact rfl)) | (apply P_lenbs; (iterate 4 exact rfl))
             | (apply P_alloc; exact rfl; exact rfl; exact rfl; intro _) | (apply P_store; exact rfl; (focus (repeat first | exact .z | apply SetAt.s | apply SetAtF.s)); (iterate 4 exact rfl)) | apply EL.nil
             | ((with_reducible apply EK.then_normal); apply EK.code) | (apply EC.cond_false; exact rfl)
             | (with_reducible first | apply EC.seq | apply EC.region | apply EC.skip | apply EC.label | apply EC.block | apply EC.exit | apply EC.ret | apply EK.in_normal | apply EK.in_same | apply EK.in_ret | apply EK.then_ret | apply EK.then_exit))
          refine P_callAt h3 [_, _] [] rfl rfl (RefineL.refl _ _) (by intro _ _; simp [go_sem]) rfl rfl ?_
          rintro _ _ ⟨rfl, rfl⟩
          simp only [List.cons_append, List.nil_append]
          repeat
            (first
             | (apply P_alloc; exact rfl; exact rfl; exact rfl; intro _) | (apply P_store; exact rfl; (focus (repeat first | exact .z | apply SetAt.s | apply SetAtF.s)); (iterate 4 exact rfl)) | apply EL.nil
             | ((with_reducible apply EK.then_normal); apply EK.code)
             | (with_reducible first | apply EC.seq | apply EC.region | apply EC.skip | apply EC.label | apply EC.block | apply EC.exit | apply EC.ret | apply EK.in_normal | apply EK.in_same | apply EK.in_ret | apply EK.then_ret | apply EK.then_exit))
          refine EL.le (Le.pin (p := 8) (pre := []) rfl rfl) ?_
          simp only [List.nil_append]
          repeat
            (first
             | (apply P_slpd sl_word; (iterate 6 exact rfl))
             | (apply P_call (h4); exact rfl; (focus (repeat first | exact RefineL.refl _ _ | exact RL.nil | exact Rf.same | exact Rf.bs0 | exact Rf.sl0 | (apply Rf.fact; (focus (simp; done)); exact rfl) | apply Rf.tup | apply RL.cons)); (focus (intro _ _; simp [go_sem]; done)); (iterate 2 exact rfl))
             | (apply P_store; exact rfl; (focus (repeat first | exact .z | apply SetAt.s | apply SetAtF.s)); (iterate 4 exact rfl)) | apply EL.nil | ((with_reducible apply EK.then_normal); apply EK.code)
             | (with_reducible first | apply EC.seq | apply EC.region | apply EC.skip | apply EC.label | apply EC.block | apply EC.exit | apply EC.ret | apply EK.in_normal | apply EK.in_same | apply EK.in_ret | apply EK.then_ret | apply EK.then_exit))
          have hpl := putN_len (hash pb, pb) ns1
          refine EK.retMc1s 1 [bO g (putN (hash pb, pb) ns1)] rfl rfl rfl rfl ?_ (by (repeat first | exact List.nil_sublist _ | apply List.Sublist.cons_cons | apply List.Sublist.cons)) ⟨_, by omega, rfl, rfl⟩
          (repeat first | exact RefineL.refl _ _ | exact RL.nil | exact Rf.same | exact Rf.bs0 | exact Rf.sl0 | (apply Rf.fact; (focus (simp; done)); exact rfl) | apply Rf.tup | apply RL.cons)
end E
end Go.Proofs.YtmlajcbabimkjaaGreat
/-
  The reference's node (plain: what it tells).
  Conditions: none.
-/
namespace Go.Proofs.YtmlajcbabimkjaaGreat
set_option linter.unusedVariables false
open Go.RowKit Mono Rlp
namespace E
def cmAll (p : List UInt8) (l : List Pr) : Nat := l.foldl (fun n x => if common p x.1 < n then common p x.1 else n) p.length
theorem cmAll_snoc (p : List UInt8) (l : List Pr) (x : Pr) : cmAll p (l ++ [x]) = if common p x.1 < cmAll p l then common p x.1 else cmAll p l := by
  unfold cmAll
  rw [List.foldl_append]
  rfl
theorem common_le (a b : List UInt8) : common a b ≤ a.length ∧ common a b ≤ b.length := ⟨(common_take a b).2.1, (common_take a b).2.2⟩
theorem cmAll_le (p : List UInt8) : ∀ (l : List Pr) (m : Nat), m ≤ p.length → (l.foldl (fun n x => if common p x.1 < n then common p x.1 else n) m) ≤ m ∧ ∀ x ∈ l, (l.foldl (fun n x => if common p x.1 < n then common p x.1 else n) m) ≤ common p x.1
  | [], m, h => ⟨Nat.le_refl _, fun x hx => by cases hx⟩
  | y :: l, m, h => by
    rw [List.foldl_cons]
    split
    · rename_i hlt
      obtain ⟨h1, h2⟩ := cmAll_le p l (common p y.1) (common_le p y.1).1
      refine ⟨by omega, fun x hx => ?_⟩
      rcases List.mem_cons.1 hx with rfl | hx
      · exact h1
      · exact h2 x hx
    · rename_i hge
      obtain ⟨h1, h2⟩ := cmAll_le p l m h
      refine ⟨h1, fun x hx => ?_⟩
      rcases List.mem_cons.1 hx with rfl | hx
      · omega
      · exact h2 x hx
def headD (d : Nat) (x : Pr) : Bool := match x.1 with
  | [] => false
  | c :: _ => c.toNat == d
def headLt (d : Nat) (x : Pr) : Bool := match x.1 with
  | [] => false
  | c :: _ => decide (c.toNat < d)
def kidE (d : Nat) (l : List Pr) : List Pr := restP 1 (l.filter (headD d))
def valE (l : List Pr) : List UInt8 := l.foldl (fun v x => if x.1.isEmpty then x.2 else v) []
theorem valE_snoc (l : List Pr) (x : Pr) : valE (l ++ [x]) = if x.1.isEmpty then x.2 else valE l := by
  unfold valE
  rw [List.foldl_append]
  rfl
def nodeR : Nat → List Pr → Raw
  | 0, _ => .mk false [] []
  | f + 1, l => match l with
    | [] => .mk true [] []
    | [x] => .mk true [] [.mk false (ppk x.1 true) [], .mk false x.2 []]
    | x :: y :: r =>
      if 0 < cmAll x.1 (y :: r) then .mk true [] [.mk false (ppk (x.1.take (cmAll x.1 (y :: r))) false) [], refE (restP (cmAll x.1 (y :: r)) (x :: y :: r)) (nodeR f (restP (cmAll x.1 (y :: r)) (x :: y :: r)))]
      else .mk true [] ((List.range 16).map (fun d => refE (kidE d (x :: y :: r)) (nodeR f (kidE d (x :: y :: r)))) ++ [.mk false (valE (x :: y :: r)) []])
theorem cnt_step (l : List Pr) (d : Nat) : (l.filter (headLt (d + 1))).length = (l.filter (headLt d)).length + (l.filter (headD d)).length := by
  induction l with
  | nil => rfl
  | cons x l ih =>
    obtain ⟨p, v⟩ := x
    cases p with
    | nil =>
      rw [List.filter_cons_of_neg (p := headLt (d + 1)) (by simp [headLt]; try omega), List.filter_cons_of_neg (p := headLt d) (by simp [headLt]; try omega), List.filter_cons_of_neg (p := headD d) (by simp [headD]; try omega)]
      exact ih
    | cons c p =>
      by_cases h1 : c.toNat = d
      · rw [List.filter_cons_of_pos (p := headLt (d + 1)) (by simp [headLt]; try omega), List.filter_cons_of_neg (p := headLt d) (by simp [headLt]; try omega), List.filter_cons_of_pos (p := headD d) (by simp [headD]; try omega), List.length_cons, List.length_cons]
        omega
      · by_cases h2 : c.toNat < d
        · rw [List.filter_cons_of_pos (p := headLt (d + 1)) (by simp [headLt]; try omega), List.filter_cons_of_pos (p := headLt d) (by simp [headLt]; try omega), List.filter_cons_of_neg (p := headD d) (by simp [headD]; try omega), List.length_cons, List.length_cons]
          omega
        · rw [List.filter_cons_of_neg (p := headLt (d + 1)) (by simp [headLt]; try omega), List.filter_cons_of_neg (p := headLt d) (by simp [headLt]; try omega), List.filter_cons_of_neg (p := headD d) (by simp [headD]; try omega)]
          exact ih
theorem cnt_le (l : List Pr) (d : Nat) : (l.filter (headLt d)).length ≤ l.length := List.length_filter_le _ _
theorem restP_len (n : Nat) (l : List Pr) : (restP n l).length = l.length := List.length_map _
theorem kidE_len (d : Nat) (l : List Pr) : (kidE d l).length = (l.filter (headD d)).length := restP_len _ _
theorem kidE_mem {d : Nat} {l : List Pr} {y : Pr} (h : y ∈ kidE d l) : ∃ x ∈ l, headD d x = true ∧ y = (x.1.drop 1, x.2) := by
  obtain ⟨x, hx, rfl⟩ := List.mem_map.1 h
  exact ⟨x, (List.mem_filter.1 hx).1, (List.mem_filter.1 hx).2, rfl⟩
theorem headD_pos {d : Nat} {x : Pr} (h : headD d x = true) : 1 ≤ x.1.length := by
  unfold headD at h
  split at h
  · cases h
  · rename_i e
    rw [e]
    simp
end E
end Go.Proofs.YtmlajcbabimkjaaGreat
