/-
  Merged (wip/tools/merge.py): TP9, JPlain, AB1, TA1.
  Conditions: none.
-/
import Derived.Test.YtmlajcbabimkjaaZW19
import Derived.Test.YtmlajcbabimkjaaZW15
import Derived.Test.YtmlajcbabimkjaaZW5
import Derived.Lib.Bytealg
import Derived.Test.YtmlajcbabimkjaaZW14
/-
  trie.Tree, trie.Root.
  Conditions: none.
-/
namespace Go.Proofs.Ytmlajcbabimkjaa
set_option linter.unusedVariables false
open Go.RowKit Mono Rlp
namespace E
theorem nib_hiT (x : UInt8) : (x >>> 4).toNat = x.toNat / 16 := by rw [UInt8.toNat_shiftRight]; simp [Nat.shiftRight_eq_div_pow]
theorem nib_loT (x : UInt8) : (x &&& 15).toNat = x.toNat % 16 := by rw [UInt8.toNat_and]; exact Nat.and_two_pow_sub_one_eq_mod _ 4
theorem split_smallT (l : List UInt8) : ∀ x ∈ split l, x.toNat ≤ 15 := by
  intro x hx
  obtain ⟨y, _, hy⟩ := List.mem_flatMap.1 hx
  simp only [List.mem_cons, List.not_mem_nil, or_false] at hy
  rcases hy with rfl | rfl
  · rw [nib_hiT]; have := y.toNat_lt; omega
  · rw [nib_loT]; omega
theorem bd_ok : ∀ (f : Nat) (l : List Pr) (at_ : Nat), (∀ x ∈ l, x.1.length ≤ 536870912) → (bdF f l at_).ok := by
  intro f
  induction f with
  | zero => intro l at_ h; exact trivial
  | succ f ih =>
    intro l at_ h
    match l with
    | [] => exact trivial
    | [x] =>
      show (x.1.drop at_).length ≤ 536870912
      have := h x (by simp)
      rw [List.length_drop]
      omega
    | x :: y :: r =>
      have hx := h x (by simp)
      rw [bdF]
      split
      · refine ⟨?_, ih _ _ h⟩
        rw [List.length_take, List.length_drop]
        omega
      · split
        · exact fun i => ih _ _ fun z hz => h z (List.mem_cons_of_mem _ ((List.mem_filter.1 hz).1))
        · exact fun i => ih _ _ fun z hz => h z ((List.mem_filter.1 hz).1)
def errP (l : List Pr) : Nat := if 100000 < l.length ∨ l.any lg = true then 3 else if l.any (·.2.isEmpty) = true then 1 else if ((l.map sp).map (·.1)).Nodup then 0 else 1
def treeT (l : List Pr) : Tn := bdF 200 (srt (l.map sp)) 0
theorem pairsF_ok {l : List Pr} (h : errP l = 0) : pairsF l = .tpl [.sl 2 ((srt (l.map sp)).map dPr), .v (.int .i64 0)] ∧ l.any lg = false ∧ ((l.map sp).map (·.1)).Nodup := by
  unfold errP at h
  unfold pairsF
  split at h
  · cases h
  · rename_i h1
    rw [if_neg h1]
    split at h
    · cases h
    · rename_i h2
      rw [if_neg h2]
      split at h
      · rename_i h3
        rw [if_pos h3]
        exact ⟨rfl, by simpa using fun e => h1 (.inr e), h3⟩
      · cases h
theorem pairsF_err {l : List Pr} (h : errP l ≠ 0) : pairsF l = .tpl [.v (.slice none 0 0), .v (.int .i64 (errP l : Int))] := by
  unfold errP at h ⊢
  unfold pairsF
  split
  · rfl
  · rename_i h1
    rw [if_neg h1] at h
    split
    · rfl
    · rename_i h2
      rw [if_neg h2] at h
      split
      · rename_i h3
        rw [if_pos h3] at h
        exact absurd rfl h
      · rfl
theorem rise_srt {l : List Pr} (hn : ((l.map sp).map (·.1)).Nodup) : Rise 0 (srt (l.map sp)) := by
  refine ⟨?_, fun x _ => Nat.zero_le _, fun x _ y _ => rfl, fun x hx b hb => ?_⟩
  · have h1 := srt_sorted (l.map sp)
    have h2 : ((srt (l.map sp)).map (·.1)).Nodup := ((srt_perm (l.map sp)).map (·.1)).nodup_iff.2 hn
    unfold List.Nodup at h2
    rw [List.pairwise_map] at h2
    refine (h1.and h2).imp fun h => ?_
    exact Classical.byContradiction fun hn => h.2 (List.le_antisymm h.1 (List.not_lt.1 hn))
  · obtain ⟨y, _, rfl⟩ := List.mem_map.1 ((srt_perm (l.map sp)).mem_iff.1 hx)
    have := split_smallT y.1 b hb
    omega
set_option maxRecDepth 20000 in
set_option maxHeartbeats 4000000 in
theorem f_Tree (l : List Pr) : Fn 32 [.sl 2 (l.map dPr)] (· = .tpl [if errP l = 0 then dT (treeT l) else .v .nilIface, .v (.int .i64 (errP l : Int))]) := by
  have h1 := f_pairs l
  refine Fn.walk 16 Try.func32 rfl Try.ntmps32 (by simp) fun X => ?_
  by_cases he : errP l = 0
  · obtain ⟨e1, e2, e3⟩ := pairsF_ok he
    rw [e1] at h1
    rw [if_pos he, he]
    have hlen : ∀ x ∈ srt (l.map sp), x.1.length ≤ 128 := fun x hx => by
      obtain ⟨y, hy, rfl⟩ := List.mem_map.1 ((srt_perm (l.map sp)).mem_iff.1 hx)
      have := not_long e2 hy
      show (split y.1).length ≤ 128
      rw [split_length]
      omega
    have h2 := f_build 200 (srt (l.map sp)) 0 (rise_srt e3) (fun x hx => by have := hlen x hx; omega) (fun x hx => by have := hlen x hx; omega)
    repeat
      (first
       | (apply P_call (h1); exact rfl; (focus (repeat first | exact RefineL.refl _ _ | exact RL.nil | exact Rf.same | exact Rf.bs0 | exact Rf.sl0 | (apply Rf.fact; (focus (simp; done)); exact rfl) | apply Rf.tup | apply RL.cons)); (focus (intro _ _; simp [go_sem]; done)); (iterate 2 exact rfl))
       | (apply P_call (h2); exact rfl; (focus (repeat first | exact RefineL.refl _ _ | exact RL.nil | exact Rf.same | exact Rf.bs0 | exact Rf.sl0 | (apply Rf.fact; (focus (simp; done)); exact rfl) | apply Rf.tup | apply RL.cons)); (focus (intro _ _; simp [go_sem]; done)); (iterate 2 exact rfl))
       | (apply P_move; (iterate 3 exact rfl)) | (apply P_assign; (iterate 3 exact rfl)) | (apply P_extract; (iterate 4 exact rfl))
       | (apply P_cmp (b := false); (iterate 2 exact rfl); (focus (first | (simp [cmpI]; done) | (simp [cmpI]; omega))); (iterate 2 exact rfl)) | apply EL.nil
       | ((with_reducible apply EK.then_normal); apply EK.code) | (apply EC.cond_false; exact rfl)
       | (with_reducible first | apply EC.seq | apply EC.region | apply EC.skip | apply EC.label | apply EC.block | apply EC.exit | apply EC.ret | apply EK.in_normal | apply EK.in_same | apply EK.in_ret | apply EK.then_ret | apply EK.then_exit))
    exact EK.ret2 rfl rfl rfl rfl
  · rw [pairsF_err he] at h1
    rw [if_neg he]
    have hne : (errP l : Int) ≠ 0 := by omega
    repeat
      (first
       | (apply P_call (h1); exact rfl; (focus (repeat first | exact RefineL.refl _ _ | exact RL.nil | exact Rf.same | exact Rf.bs0 | exact Rf.sl0 | (apply Rf.fact; (focus (simp; done)); exact rfl) | apply Rf.tup | apply RL.cons)); (focus (intro _ _; simp [go_sem]; done)); (iterate 2 exact rfl))
       | (apply P_move; (iterate 3 exact rfl)) | (apply P_assign; (iterate 3 exact rfl)) | (apply P_extract; (iterate 4 exact rfl))
       | (apply P_cmp (b := true); (iterate 2 exact rfl); (focus (first | (simp [cmpI]; done) | (simp [cmpI]; omega))); (iterate 2 exact rfl)) | apply EL.nil
       | ((with_reducible apply EK.then_normal); apply EK.code) | (apply EC.cond_true; exact rfl)
       | (with_reducible first | apply EC.seq | apply EC.region | apply EC.skip | apply EC.label | apply EC.block | apply EC.exit | apply EC.ret | apply EK.in_normal | apply EK.in_same | apply EK.in_ret | apply EK.then_ret | apply EK.then_exit))
    exact EK.ret2 rfl rfl rfl rfl
theorem tree_ok {l : List Pr} (h : errP l = 0) : (treeT l).ok := bd_ok _ _ _ fun x hx => by
  obtain ⟨y, hy, rfl⟩ := List.mem_map.1 ((srt_perm (l.map sp)).mem_iff.1 hx)
  have := not_long (pairsF_ok h).2.1 hy
  show (split y.1).length ≤ _
  rw [split_length]
  omega
def rootP (l : List Pr) : List UInt8 := if errP l = 0 then sumT (treeT l) else zero32
set_option maxRecDepth 20000 in
set_option maxHeartbeats 4000000 in
theorem f_Root (l : List Pr) : Fn 12 [.sl 2 (l.map dPr)] (· = .tpl [.arr 32 (rootP l), .v (.int .i64 (errP l : Int))]) := by
  have h1 := f_Tree l
  unfold rootP
  refine Fn.walk 17 Try.func12 rfl Try.ntmps12 (by simp) fun X => ?_
  by_cases he : errP l = 0
  · have h2 := f_Sum (treeT l) (tree_ok he)
    rw [if_pos he, he] at h1 ⊢
    repeat
      (first
       | (apply P_call (h1); exact rfl; (focus (repeat first | exact RefineL.refl _ _ | exact RL.nil | exact Rf.same | exact Rf.bs0 | exact Rf.sl0 | (apply Rf.fact; (focus (simp; done)); exact rfl) | apply Rf.tup | apply RL.cons)); (focus (intro _ _; simp [go_sem]; done)); (iterate 2 exact rfl))
       | (apply P_call (h2); exact rfl; (focus (repeat first | exact RefineL.refl _ _ | exact RL.nil | exact Rf.same | exact Rf.bs0 | exact Rf.sl0 | (apply Rf.fact; (focus (simp; done)); exact rfl) | apply Rf.tup | apply RL.cons)); (focus (intro _ _; simp [go_sem]; done)); (iterate 2 exact rfl))
       | (apply P_move; (iterate 3 exact rfl)) | (apply P_assign; (iterate 3 exact rfl)) | (apply P_extract; (iterate 4 exact rfl))
       | (apply P_cmp (b := false); (iterate 2 exact rfl); (focus (first | (simp [cmpI]; done) | (simp [cmpI]; omega))); (iterate 2 exact rfl)) | (apply P_alloc; exact rfl; exact rfl; exact rfl; intro _)
       | (apply P_store; exact rfl; (focus (repeat first | exact .z | apply SetAt.s | apply SetAtF.s)); (iterate 4 exact rfl)) | apply EL.nil | ((with_reducible apply EK.then_normal); apply EK.code)
       | (apply EC.cond_false; exact rfl)
       | (with_reducible first | apply EC.seq | apply EC.region | apply EC.skip | apply EC.label | apply EC.block | apply EC.exit | apply EC.ret | apply EK.in_normal | apply EK.in_same | apply EK.in_ret | apply EK.then_ret | apply EK.then_exit))
    refine EK.retc2r 0 rfl rfl rfl rfl rfl ?_ rfl
    (repeat first | exact RefineL.refl _ _ | exact RL.nil | exact Rf.same | exact Rf.bs0 | exact Rf.sl0 | (apply Rf.fact; (focus (simp; done)); exact rfl) | apply Rf.tup | apply RL.cons)
  · rw [if_neg he] at h1 ⊢
    have hne : (errP l : Int) ≠ 0 := by omega
    repeat
      (first
       | (apply P_call (h1); exact rfl; (focus (repeat first | exact RefineL.refl _ _ | exact RL.nil | exact Rf.same | exact Rf.bs0 | exact Rf.sl0 | (apply Rf.fact; (focus (simp; done)); exact rfl) | apply Rf.tup | apply RL.cons)); (focus (intro _ _; simp [go_sem]; done)); (iterate 2 exact rfl))
       | (apply P_move; (iterate 3 exact rfl)) | (apply P_assign; (iterate 3 exact rfl)) | (apply P_extract; (iterate 4 exact rfl))
       | (apply P_cmp (b := true); (iterate 2 exact rfl); (focus (first | (simp [cmpI]; done) | (simp [cmpI]; omega))); (iterate 2 exact rfl)) | (apply P_build0; (iterate 5 exact rfl))
       | (apply P_alloc; exact rfl; exact rfl; exact rfl; intro _) | (apply P_store; exact rfl; (focus (repeat first | exact .z | apply SetAt.s | apply SetAtF.s)); (iterate 4 exact rfl)) | apply EL.nil
       | ((with_reducible apply EK.then_normal); apply EK.code) | (apply EC.cond_true; exact rfl)
       | (with_reducible first | apply EC.seq | apply EC.region | apply EC.skip | apply EC.label | apply EC.block | apply EC.exit | apply EC.ret | apply EK.in_normal | apply EK.in_same | apply EK.in_ret | apply EK.then_ret | apply EK.then_exit))
    refine EK.retc2r 0 rfl rfl rfl rfl rfl ?_ rfl
    (repeat first | exact RefineL.refl _ _ | exact RL.nil | exact Rf.same | exact Rf.bs0 | exact Rf.sl0 | (apply Rf.fact; (focus (simp; done)); exact rfl) | apply Rf.tup | apply RL.cons)
end E
end Go.Proofs.Ytmlajcbabimkjaa
/-
  Changes as items (plain): what a diff is packed as, which items are diffs.
  Conditions: none. No program is named here.
-/
namespace Go.Proofs.Ytmlajcbabimkjaa
set_option linter.unusedVariables false
open Rlp
namespace Jn
structure Sl where
  key : List UInt8
  val : List UInt8
structure Ch where
  addr : List UInt8
  gone : Bool
  nonce : Int
  bal : List UInt8
  code : List UInt8
  slots : List Sl
structure Df where
  id : List UInt8
  par : List UInt8
  chs : List Ch
def Sl.ok (s : Sl) : Prop := s.key.length = 32 ∧ s.val.length = 32
def Ch.ok (c : Ch) : Prop := c.addr.length = 20 ∧ c.bal.length = 32 ∧ -9223372036854775808 ≤ c.nonce ∧ c.nonce ≤ 9223372036854775807 ∧ ∀ s ∈ c.slots, s.ok
def Df.ok (d : Df) : Prop := d.id.length = 32 ∧ d.par.length = 32 ∧ ∀ c ∈ d.chs, c.ok
def bytesI (l : List UInt8) : Raw := .mk false l []
def listI (xs : List Raw) : Raw := .mk true [] xs
def numI (n : Nat) : Raw := bytesI (be n)
def wordI (l : List UInt8) : Raw := bytesI (strip l)
def slotI (s : Sl) : Raw := listI [wordI s.key, wordI s.val]
def chI (c : Ch) : Raw := listI [bytesI c.addr, numI (if c.gone then 1 else 0), numI c.nonce.toNat, wordI c.bal, bytesI c.code, listI (c.slots.map slotI)]
def dfI (d : Df) : Raw := listI [bytesI d.id, bytesI d.par, listI (d.chs.map chI)]
abbrev cmp (l m : List UInt8) : Int := Lib.compareBytes l m
def risesS : List Sl → Bool
  | [] => true
  | [_] => true
  | a :: b :: l => decide (cmp a.key b.key < 0) && risesS (b :: l)
def mayC (c : Ch) : Bool := decide (0 ≤ c.nonce) && risesS c.slots
def risesC : List Ch → Bool
  | [] => true
  | [_] => true
  | a :: b :: l => decide (cmp a.addr b.addr < 0) && risesC (b :: l)
def may (l : List Ch) : Bool := l.all mayC && risesC l
def packD (d : Df) : Except Nat (List UInt8) := if may d.chs then (match packed (dfI d) with | some b => .ok b | none => .error 3) else .error 1
/-! ### Back -/
def isB : Raw → Option (List UInt8)
  | .mk false bs _ => some bs
  | .mk true _ _ => none
/-! ### An item that is a diff's has the diff's bytes -/
theorem E_list (bs : List UInt8) (xs : List Raw) : E (.mk true bs xs) = head (EL xs).length 192 ++ EL xs := by rw [E]
/-! ### What is small is packed -/
mutual
theorem packR_ok : ∀ x : Raw, (E x).length ≤ most → packR x = some (E x)
  | .mk false bs xs, h => by
    rw [E] at h ⊢
    rw [packR]
    have h2 : bs.length ≤ (EB bs).length := by unfold EB; split <;> simp
    rw [if_neg (by omega)]
  | .mk true bs xs, h => by
    rw [E_list] at h ⊢
    rw [List.length_append] at h
    rw [packR, packRL_ok xs [] (by simp; omega)]
    rfl
theorem packRL_ok : ∀ (xs : List Raw) (acc : List UInt8), acc.length + (EL xs).length ≤ most → packRL xs acc = some (acc ++ EL xs)
  | [], acc, h => by rw [packRL, EL, List.append_nil]
  | x :: xs, acc, h => by
    rw [EL, List.length_append] at h
    rw [packRL, packR_ok x (by omega), EL]
    dsimp only
    rw [if_neg (by omega), packRL_ok xs (acc ++ E x) (by rw [List.length_append]; omega), List.append_assoc]
end
theorem deep_list (xs : List Raw) (bs : List UInt8) (m k : Nat) (h : ∀ x ∈ xs, deepR x m ≤ k) : deepR (.mk true bs xs) (m + 1) ≤ k + 1 := by
  rw [deepR]
  have := (maxD_le xs m 0 k).2 ⟨Nat.zero_le _, h⟩
  omega
/-! ### A diff's item is the diff's -/
end Jn
end Go.Proofs.Ytmlajcbabimkjaa
/-
  Bodies: acct.Pack and the reference's PackBody.
  Conditions: none.
-/
namespace Go.Proofs.Ytmlajcbabimkjaa
set_option linter.unusedVariables false
open Go.RowKit Mono Rlp
namespace E
def dBd (n : Int) (w r c : List UInt8) : D := .tup [.v (.int .i64 n), .arr 32 w, .arr 32 r, .arr 32 c]
def bodyI (n : Int) (w r c : List UInt8) : Raw := .mk true [] [.mk false (be n.toNat) [], .mk false (strip w) [], .mk false r [], .mk false c []]
theorem packed_ok {x : Raw} (hd : deepR x 32 ≤ 32) (h : (E x).length ≤ most) : packed x = some (Rlp.E x) := by
  rw [packed_ref, if_neg (by omega), Jn.packR_ok _ h]
  dsimp only
  rw [if_neg (by omega)]
theorem EB_short (l : List UInt8) (h : l.length ≤ 32) : (EB l).length ≤ 33 := by
  rw [EB_length]
  unfold szE szB
  split
  · omega
  · rw [if_pos (by omega)]
    omega
theorem body_len (n : Int) (hn : n ≤ 9223372036854775807) (w r c : List UInt8) (hw : w.length = 32) (hr : r.length = 32) (hc : c.length = 32) : (Rlp.E (bodyI n w r c)).length ≤ 200 := by
  have h1 := EB_short (be n.toNat) (by have := be_length 8 n.toNat (by omega); omega)
  have h2 := EB_short (strip w) (by have := strip_length w; omega)
  have h3 := EB_short r (by omega)
  have h4 := EB_short c (by omega)
  have he : (Rlp.EL [.mk false (be n.toNat) [], .mk false (strip w) [], .mk false r [], .mk false c []]).length ≤ 132 := by
    simp only [Rlp.EL, Rlp.E, List.length_append, List.length_nil]
    omega
  unfold bodyI
  rw [Rlp.E, List.length_append, head_length]
  unfold szB
  split
  · omega
  · have := be_length 8 (Rlp.EL [.mk false (be n.toNat) [], .mk false (strip w) [], .mk false r [], .mk false c []]).length (by omega)
    omega
theorem packed_body (n : Int) (hn : n ≤ 9223372036854775807) (w r c : List UInt8) (hw : w.length = 32) (hr : r.length = 32) (hc : c.length = 32) : packed (bodyI n w r c) = some (Rlp.E (bodyI n w r c)) := by
  refine packed_ok ?_ (by have := body_len n hn w r c hw hr hc; simp only [most]; omega)
  unfold bodyI
  have := Jn.deep_list [.mk false (be n.toNat) [], .mk false (strip w) [], .mk false r [], .mk false c []] [] 31 0 (fun x hx => by
    simp at hx
    rcases hx with rfl | rfl | rfl | rfl <;> (rw [deepR]; omega))
  rw [show (32 : Nat) = 31 + 1 from rfl]
  exact Nat.le_trans this (by decide)
def bodyR (n : Int) (w r c : List UInt8) : R := if n < 0 then .tpl [.bs [], .v (.int .i64 1)] else .tpl [.bs (Rlp.E (bodyI n w r c)), .v (.int .i64 0)]
set_option maxRecDepth 20000 in
set_option maxHeartbeats 4000000 in
theorem f_acctPack (n : Int) (w r c : List UInt8) (hn0 : -9223372036854775808 ≤ n) (hn : n ≤ 9223372036854775807) (hw : w.length = 32) (hr : r.length = 32) (hc : c.length = 32) : Fn 26 [dBd n w r c] (· = bodyR n w r c) := by
  have h1 := f_Num n hn0 hn
  have h2 := f_Big w hw
  have h3 := f_Pack (bodyI n w r c)
  rw [packed_body n hn w r c hw hr hc] at h3
  unfold bodyR
  refine Fn.walk 26 Try.func26 rfl Try.ntmps26 (by simp) fun X => ?_
  by_cases hneg : n < 0
  · skip
    rw [if_pos hneg]
    repeat
      (first
       | (apply P_box; exact rfl; exact rfl; exact rfl; intro g; refine EL.le (Le.pin (p := 1) (pre := []) rfl rfl) ?_; simp only [List.nil_append]) | (apply P_assign; (iterate 3 exact rfl))
       | (apply P_fieldpd; (iterate 7 exact rfl)) | (apply P_loadpd; (iterate 5 exact rfl))
       | (apply P_cmp (b := true); (iterate 2 exact rfl); (focus (first | (simp [cmpI]; done) | (simp [cmpI]; omega))); (iterate 2 exact rfl)) | apply EL.nil
       | ((with_reducible apply EK.then_normal); apply EK.code) | (apply EC.cond_true; exact rfl)
       | (with_reducible first | apply EC.seq | apply EC.region | apply EC.skip | apply EC.label | apply EC.block | apply EC.exit | apply EC.ret | apply EK.in_normal | apply EK.in_same | apply EK.in_ret | apply EK.then_ret | apply EK.then_exit))
    refine EK.ret2r rfl rfl rfl ?_ rfl
    (repeat first | exact RefineL.refl _ _ | exact RL.nil | exact Rf.same | exact Rf.bs0 | exact Rf.sl0 | (apply Rf.fact; (focus (simp; done)); exact rfl) | apply Rf.tup | apply RL.cons)
  · skip
    rw [if_neg hneg]
    repeat
      (first
       | (apply P_box; exact rfl; exact rfl; exact rfl; intro g; refine EL.le (Le.pin (p := 1) (pre := []) rfl rfl) ?_; simp only [List.nil_append]) | (apply P_assign; (iterate 3 exact rfl))
       | (apply P_fieldpd; (iterate 7 exact rfl)) | (apply P_loadpd; (iterate 5 exact rfl))
       | (apply P_cmp (b := false); (iterate 2 exact rfl); (focus (first | (simp [cmpI]; done) | (simp [cmpI]; omega))); (iterate 2 exact rfl)) | apply EL.nil
       | ((with_reducible apply EK.then_normal); apply EK.code) | (apply EC.cond_false; exact rfl)
       | (with_reducible first | apply EC.seq | apply EC.region | apply EC.skip | apply EC.label | apply EC.block | apply EC.exit | apply EC.ret | apply EK.in_normal | apply EK.in_same | apply EK.in_ret | apply EK.then_ret | apply EK.then_exit))
    refine EC.draw 13 (by kernel_rfl) ?_
    simp only [List.take_succ_cons, List.take_zero, List.drop_succ_cons, List.drop_zero]
    repeat
      (first
       | (apply H_call (h1); exact rfl; (focus (repeat first | exact RefineL.refl _ _ | exact RL.nil | exact Rf.same | exact Rf.bs0 | exact Rf.sl0 | (apply Rf.fact; (focus (simp; done)); exact rfl) | apply Rf.tup | apply RL.cons)); (focus (intro _ _; simp [go_sem]; done)); (iterate 2 exact rfl))
       | (apply H_call (h2); exact rfl; (focus (repeat first | exact RefineL.refl _ _ | exact RL.nil | exact Rf.same | exact Rf.bs0 | exact Rf.sl0 | (apply Rf.fact; (focus (simp; done)); exact rfl) | apply Rf.tup | apply RL.cons)); (focus (intro _ _; simp [go_sem]; done)); (iterate 2 exact rfl))
       | (apply H_slpd sl_word; (iterate 6 exact rfl))
       | (apply H_buildR (d' := dItem (.mk false r [])); (iterate 5 exact rfl); (focus ((repeat first | exact RefineL.refl _ _ | exact RL.nil | exact Rf.same | exact Rf.bs0 | exact Rf.sl0 | (apply Rf.fact; (focus (simp; done)); exact rfl) | apply Rf.tup | apply RL.cons))); (iterate 2 exact rfl))
       | (apply H_buildR (d' := dItem (.mk false c [])); (iterate 5 exact rfl); (focus ((repeat first | exact RefineL.refl _ _ | exact RL.nil | exact Rf.same | exact Rf.bs0 | exact Rf.sl0 | (apply Rf.fact; (focus (simp; done)); exact rfl) | apply Rf.tup | apply RL.cons))); (iterate 2 exact rfl))
       | (apply H_fieldpd; (iterate 7 exact rfl)) | (apply H_loadpd; (iterate 5 exact rfl)) | (apply H_lit; (iterate 9 exact rfl)) | ((with_reducible apply EH.nil); exact rfl))
    repeat
      (first
       | (apply P_call (h3); exact rfl; (focus (repeat first | exact RefineL.refl _ _ | exact RL.nil | exact Rf.same | exact Rf.bs0 | exact Rf.sl0 | (apply Rf.fact; (focus (simp; done)); exact rfl) | apply Rf.tup | apply RL.cons)); (focus (intro _ _; simp [go_sem]; done)); (iterate 2 exact rfl))
       | (apply P_move; (iterate 3 exact rfl)) | (apply P_assign; (iterate 3 exact rfl)) | (apply P_extract; (iterate 4 exact rfl)) | (apply P_build; (iterate 7 exact rfl)) | apply EL.nil
       | ((with_reducible apply EK.then_normal); apply EK.code)
       | (with_reducible first | apply EC.seq | apply EC.region | apply EC.skip | apply EC.label | apply EC.block | apply EC.exit | apply EC.ret | apply EK.in_normal | apply EK.in_same | apply EK.in_ret | apply EK.then_ret | apply EK.then_exit))
    exact EK.ret2 rfl rfl rfl rfl
end E
end Go.Proofs.Ytmlajcbabimkjaa
/-
  acct.SlotPairs, acct.Slots.
  Conditions: none.
-/
namespace Go.Proofs.Ytmlajcbabimkjaa
set_option linter.unusedVariables false
open Go.RowKit Mono Rlp
namespace E
def dSlP (x : Pr) : D := .tup [.arr 32 x.1, .arr 32 x.2]
def slP (s : Pr) : Option Pr := if s.2 = zero32 then none else some (hash s.1, pkB (.mk false (strip s.2) []))
def spR (l : List Pr) : R := if (l.map (·.1)).Nodup then .tpl [.sl 2 ((l.filterMap slP).map dPr), .v (.int .i64 0)] else .tpl [.v (.slice none 0 0), .v (.int .i64 1)]
theorem pkB_word {v : List UInt8} (h : v.length = 32) : packed (.mk false (strip v) []) = some (pkB (.mk false (strip v) [])) := by
  have := packed_ok (x := .mk false (strip v) []) (by rw [deepR]; omega) (by
    rw [Rlp.E]
    have := EB_short (strip v) (by have := strip_length v; omega)
    simp only [most]
    omega)
  unfold pkB
  rw [this]
  rfl
set_option maxRecDepth 20000 in
set_option maxHeartbeats 8000000 in
theorem f_slotPairs (l : List Pr) (hs : ∀ s ∈ l, s.1.length = 32 ∧ s.2.length = 32) (hlen : l.length ≤ 1000000) : Fn 106 [.sl 64 (l.map dSlP)] (· = spR l) := by
  unfold spR
  have hl : (l.map dSlP).length = l.length := by rw [List.length_map]
  refine Fn.walk 48 Try.func106 rfl Try.ntmps106 (by simp) fun X => ?_
  repeat
    (first
     | (apply P_move; (iterate 3 exact rfl)) | (apply P_assign; (iterate 3 exact rfl)) | (apply P_lensl; (iterate 4 exact rfl)) | (apply P_makeMap; exact rfl; exact rfl; exact rfl; intro _) | apply EL.nil
     | ((with_reducible apply EK.then_normal); apply EK.code)
     | (with_reducible first | apply EC.seq | apply EC.region | apply EC.skip | apply EC.label | apply EC.block | apply EC.exit | apply EC.ret | apply EK.in_normal | apply EK.in_same | apply EK.in_ret | apply EK.then_ret | apply EK.then_exit))
  rename_i gm
  refine EC.le (Le.row 28 2) ?_
  refine EC.loop (ι := {p : Value × Nat × Nat × List Ent // p.2.1 ≤ l.length ∧ ((l.take p.2.1).map (·.1)).Nodup ∧ ∀ k, getE p.2.2.2 k = if k ∈ (l.take p.2.1).map (·.1) then some (.v (.bool true)) else none})
    (fun p => ⟨[(14, .val (.v (.int .i64 (p.1.2.1 : Int)))), (13, .val (.v (.int .i64 ((l.map dSlP).length : Int)))), (12, .val (.sl 64 (l.map dSlP))), (5, .val (.v p.1.1)), (4, .val (.v (.map (some gm))))],
      [.row p.1.1 28 2 (((l.take p.1.2.1).filterMap slP).map dPr), .map gm 32 p.1.2.2.1 p.1.2.2.2], []⟩)
    (fun p => l.length - p.1.2.1) ⟨(.slice none 0 0, 0, 0, []), Nat.zero_le _, by simp, fun k => by simp [getE]⟩ ?_ ?_
  · exact (Le.keep (by repeat first | exact trivial | refine ⟨rfl, ?_⟩) (by repeat first | exact List.nil_sublist _ | apply List.Sublist.cons_cons | apply List.Sublist.cons) (by simp))
  rintro ⟨⟨rv, n, c, es⟩, hn, hnd, hes⟩
  dsimp only at hn hnd hes ⊢
  by_cases hlt : n < l.length
  · have hat : (l.map dSlP)[n]? = some (.tup [.arr 32 l[n].1, .arr 32 l[n].2]) := by rw [List.getElem?_map, List.getElem?_eq_getElem hlt]; rfl
    obtain ⟨hk, hv⟩ := hs _ (List.getElem_mem hlt)
    have hget := hes l[n].1
    by_cases hin : l[n].1 ∈ (l.take n).map (·.1)
    · rw [if_pos hin] at hget
      have hg2 : (getE es l[n].1).getD (.v (.bool false)) = .v (.bool true) := by rw [hget]; rfl
      repeat
        (first
         | (apply P_lookup; exact hg2; exact rfl; (first | exact I0 | exact I1 | exact I2 | exact I3); (iterate 5 exact rfl)) | (apply P_move; (iterate 3 exact rfl)) | (apply P_assign; (iterate 3 exact rfl))
         | (apply P_field; (iterate 6 exact rfl)) | (apply P_loadpd; (iterate 5 exact rfl))
         | (apply P_load; exact rfl; (first | exact I0 | exact I1 | exact I2 | exact I3 | exact I4 | exact I5 | exact I6); (iterate 4 exact rfl))
         | (apply P_cmp (b := true); (iterate 2 exact rfl); (focus (first | (simp [cmpI]; done) | (simp [cmpI]; omega))); (iterate 2 exact rfl))
         | (apply P_index; (iterate 4 exact rfl); (focus (first | exact ⟨by decide, rfl⟩ | (refine ⟨by omega, ?_⟩; rw [Int.toNat_natCast]; assumption))); (iterate 2 exact rfl))
         | (apply P_alloc; exact rfl; exact rfl; exact rfl; intro _) | (apply P_store; exact rfl; (focus (repeat first | exact .z | apply SetAt.s | apply SetAtF.s)); (iterate 4 exact rfl)) | apply EL.nil
         | ((with_reducible apply EK.then_normal); apply EK.code) | (apply EC.cond_true; exact rfl)
         | (with_reducible first | apply EC.seq | apply EC.region | apply EC.skip | apply EC.label | apply EC.block | apply EC.exit | apply EC.ret | apply EK.in_normal | apply EK.in_same | apply EK.in_ret | apply EK.then_ret | apply EK.then_exit))
      refine EK.ret2 rfl rfl rfl ?_
      rw [if_neg]
      intro h
      obtain ⟨j, hj, e⟩ := List.getElem_of_mem hin
      rw [List.length_map, List.length_take] at hj
      rw [List.getElem_map, List.getElem_take] at e
      have := (List.getElem_inj (h₀ := by rw [List.length_map]; omega) (h₁ := by rw [List.length_map]; exact hlt) h (i := j) (j := n)).1 (by simpa using e)
      omega
    · rw [if_neg hin] at hget
      have hg2 : (getE es l[n].1).getD (.v (.bool false)) = .v (.bool false) := by rw [hget]; rfl
      have hnd2 : ((l.take (n + 1)).map (·.1)).Nodup := by
        rw [List.take_succ_eq_append_getElem hlt, List.map_append]
        refine List.nodup_append.2 ⟨hnd, by simp, fun a ha b hb e => ?_⟩
        obtain rfl : b = l[n].1 := by simpa using hb
        exact hin (e ▸ ha)
      have hes2 : ∀ k, getE (putE c es l[n].1 (.v (.bool true))) k = if k ∈ (l.take (n + 1)).map (·.1) then some (.v (.bool true)) else none := fun k => by
        rw [getE_putE, hes k, List.take_succ_eq_append_getElem hlt, List.map_append]
        by_cases hk2 : l[n].1 = k
        · rw [if_pos hk2, if_pos (by rw [← hk2]; simp)]
        · rw [if_neg hk2]
          by_cases hm : k ∈ (l.take n).map (·.1)
          · rw [if_pos hm, if_pos (List.mem_append_left _ hm)]
          · rw [if_neg hm, if_neg fun h => ?_]
            rcases List.mem_append.1 h with h | h
            · exact hm h
            · exact hk2 (by simpa using h : k = l[n].1).symm
      have hb := (bin_word l[n].2 zero32).1
      by_cases hz : l[n].2 = zero32
      · rw [show (l[n].2 == zero32) = true by simpa using hz] at hb
        repeat
          (first
           | (apply P_lookup; exact hg2; exact rfl; (first | exact I0 | exact I1 | exact I2 | exact I3); (iterate 5 exact rfl); refine EL.le (Le.pin (p := 7) (pre := []) rfl rfl) ?_; simp only [List.nil_append])
           | (apply P_bin; (iterate 2 exact rfl); exact hb; (iterate 2 exact rfl)) | (apply P_move; (iterate 3 exact rfl)) | (apply P_field; (iterate 6 exact rfl)) | (apply P_fieldpd; (iterate 7 exact rfl))
           | (apply P_loadpd; (iterate 5 exact rfl)) | (apply P_load; exact rfl; (first | exact I0 | exact I1 | exact I2 | exact I3 | exact I4 | exact I5 | exact I6); (iterate 4 exact rfl))
           | (apply P_cmp (b := true); (iterate 2 exact rfl); (focus (first | (simp [cmpI]; done) | (simp [cmpI]; omega))); (iterate 2 exact rfl))
           | (apply P_ar; (iterate 3 exact rfl); (focus omega); (focus omega); (iterate 2 exact rfl))
           | (apply P_index; (iterate 4 exact rfl); (focus (first | exact ⟨by decide, rfl⟩ | (refine ⟨by omega, ?_⟩; rw [Int.toNat_natCast]; assumption))); (iterate 2 exact rfl))
           | (apply P_build0; (iterate 5 exact rfl)) | (apply P_mapUpd; exact rfl; (focus (repeat first | exact .z | apply SetAt.s | apply SetAtF.s)); (iterate 4 exact rfl))
           | (apply P_alloc; exact rfl; exact rfl; exact rfl; intro _) | (apply P_store; exact rfl; (focus (repeat first | exact .z | apply SetAt.s | apply SetAtF.s)); (iterate 4 exact rfl)) | apply EL.nil
           | ((with_reducible apply EK.then_normal); apply EK.code) | (apply EC.cond_true; exact rfl) | (apply EC.cond_false; exact rfl)
           | (with_reducible first | apply EC.seq | apply EC.region | apply EC.skip | apply EC.label | apply EC.block | apply EC.exit | apply EC.ret | apply EK.in_normal | apply EK.in_same | apply EK.in_ret | apply EK.then_ret | apply EK.then_exit))
        refine EK.again ⟨(rv, n + 1, tickE c es l[n].1, putE c es l[n].1 (.v (.bool true))), hlt, hnd2, hes2⟩ (by dsimp only; omega) ?_
        dsimp only
        rw [List.take_succ_eq_append_getElem hlt, List.filterMap_append, show [l[n]].filterMap slP = [] by simp [slP, hz], List.append_nil]
        simp only [Int.natCast_add]
        exact (Le.keep (by repeat first | exact trivial | refine ⟨rfl, ?_⟩) (by repeat first | exact List.nil_sublist _ | apply List.Sublist.cons_cons | apply List.Sublist.cons) (by simp))
      · rw [show (l[n].2 == zero32) = false by simpa using hz] at hb
        have h1 := f_kSum1 l[n].1
        have h2 := f_Big l[n].2 hv
        have h3 := f_Pack (.mk false (strip l[n].2) [])
        rw [pkB_word hv] at h3
        repeat
          (first
           | (apply P_lookup; exact hg2; exact rfl; (first | exact I0 | exact I1 | exact I2 | exact I3); (iterate 5 exact rfl); refine EL.le (Le.pin (p := 7) (pre := []) rfl rfl) ?_; simp only [List.nil_append])
           | (apply P_bin; (iterate 2 exact rfl); exact hb; (iterate 2 exact rfl))
           | (apply P_call (h1); exact rfl; (focus (repeat first | exact RefineL.refl _ _ | exact RL.nil | exact Rf.same | exact Rf.bs0 | exact Rf.sl0 | (apply Rf.fact; (focus (simp; done)); exact rfl) | apply Rf.tup | apply RL.cons)); (focus (intro _ _; simp [go_sem]; done)); (iterate 2 exact rfl))
           | (apply P_call (h2); exact rfl; (focus (repeat first | exact RefineL.refl _ _ | exact RL.nil | exact Rf.same | exact Rf.bs0 | exact Rf.sl0 | (apply Rf.fact; (focus (simp; done)); exact rfl) | apply Rf.tup | apply RL.cons)); (focus (intro _ _; simp [go_sem]; done)); (iterate 2 exact rfl))
           | (apply P_call (h3); exact rfl; (focus (repeat first | exact RefineL.refl _ _ | exact RL.nil | exact Rf.same | exact Rf.bs0 | exact Rf.sl0 | (apply Rf.fact; (focus (simp; done)); exact rfl) | apply Rf.tup | apply RL.cons)); (focus (intro _ _; simp [go_sem]; done)); (iterate 2 exact rfl))
           | (apply P_slpd sl_word; (iterate 6 exact rfl)) | (apply P_move; (iterate 3 exact rfl)) | (apply P_assign; (iterate 3 exact rfl)) | (apply P_field; (iterate 6 exact rfl))
           | (apply P_fieldpd; (iterate 7 exact rfl)) | (apply P_extract; (iterate 4 exact rfl)) | (apply P_loadpd; (iterate 5 exact rfl))
           | (apply P_load; exact rfl; (first | exact I0 | exact I1 | exact I2 | exact I3 | exact I4 | exact I5 | exact I6); (iterate 4 exact rfl))
           | (apply P_cmp (b := true); (iterate 2 exact rfl); (focus (first | (simp [cmpI]; done) | (simp [cmpI]; omega))); (iterate 2 exact rfl))
           | (apply P_index; (iterate 4 exact rfl); (focus (first | exact ⟨by decide, rfl⟩ | (refine ⟨by omega, ?_⟩; rw [Int.toNat_natCast]; assumption))); (iterate 2 exact rfl))
           | (apply P_build0; (iterate 5 exact rfl)) | (apply P_lit; (iterate 9 exact rfl)) | (apply P_mapUpd; exact rfl; (focus (repeat first | exact .z | apply SetAt.s | apply SetAtF.s)); (iterate 4 exact rfl))
           | (apply P_alloc; exact rfl; exact rfl; exact rfl; intro _) | (apply P_store; exact rfl; (focus (repeat first | exact .z | apply SetAt.s | apply SetAtF.s)); (iterate 4 exact rfl)) | apply EL.nil
           | ((with_reducible apply EK.then_normal); apply EK.code) | (apply EC.cond_true; exact rfl) | (apply EC.cond_false; exact rfl)
           | (with_reducible first | apply EC.seq | apply EC.region | apply EC.skip | apply EC.label | apply EC.block | apply EC.exit | apply EC.ret | apply EK.in_normal | apply EK.in_same | apply EK.in_ret | apply EK.then_ret | apply EK.then_exit))
        refine EL.le (Le.pin (p := 8) (pre := []) rfl rfl) ?_
        simp only [List.nil_append]
        have hfl : ((l.take n).filterMap slP).length ≤ 1000000 := Nat.le_trans (List.length_filterMap_le _ _) (by rw [List.length_take]; omega)
        repeat
          (first
           | (apply P_slpd sl_word; (iterate 6 exact rfl)) | (apply P_move; (iterate 3 exact rfl)) | (apply P_assign; (iterate 3 exact rfl))
           | (apply P_ar; (iterate 3 exact rfl); (focus omega); (focus omega); (iterate 2 exact rfl)) | (apply P_build; (iterate 7 exact rfl)) | (apply P_lit; (iterate 9 exact rfl))
           | ((apply P_append; exact rfl; (focus (repeat first | exact .z | apply SetAt.s | apply SetAtF.s)); (iterate 5 exact rfl); (focus (constructor <;> (first | (simp; done) | (simp; omega))))); intro _)
           | apply EL.nil | ((with_reducible apply EK.then_normal); apply EK.code)
           | (with_reducible first | apply EC.seq | apply EC.region | apply EC.skip | apply EC.label | apply EC.block | apply EC.exit | apply EC.ret | apply EK.in_normal | apply EK.in_same | apply EK.in_ret | apply EK.then_ret | apply EK.then_exit))
        rename_i v'
        refine EK.again ⟨(v', n + 1, tickE c es l[n].1, putE c es l[n].1 (.v (.bool true))), hlt, hnd2, hes2⟩ (by dsimp only; omega) ?_
        dsimp only
        rw [List.take_succ_eq_append_getElem hlt, List.filterMap_append, show [l[n]].filterMap slP = [(hash l[n].1, pkB (.mk false (strip l[n].2) []))] by simp [slP, hz], List.map_append]
        simp only [Int.natCast_add]
        exact (Le.keep (by repeat first | exact trivial | refine ⟨rfl, ?_⟩) (by repeat first | exact List.nil_sublist _ | apply List.Sublist.cons_cons | apply List.Sublist.cons) (by simp))
  · obtain rfl : n = l.length := by omega
    rw [List.take_length] at hnd
    have htl : (l.take l.length).filterMap slP = l.filterMap slP := by rw [List.take_length]
    rw [htl]
    refine EC.le (Le.freeze (pre := []) rfl) ?_
    simp only [List.nil_append]
    repeat
      (first
       | (apply P_move; (iterate 3 exact rfl)) | (apply P_assign; (iterate 3 exact rfl))
       | (apply P_cmp (b := false); (iterate 2 exact rfl); (focus (first | (simp [cmpI]; done) | (simp [cmpI]; omega))); (iterate 2 exact rfl)) | apply EL.nil
       | ((with_reducible apply EK.then_normal); apply EK.code) | (apply EC.cond_false; exact rfl)
       | (with_reducible first | apply EC.seq | apply EC.region | apply EC.skip | apply EC.label | apply EC.block | apply EC.exit | apply EC.ret | apply EK.in_normal | apply EK.in_same | apply EK.in_ret | apply EK.then_ret | apply EK.then_exit))
    refine EK.ret2r rfl rfl rfl ?_ (by rw [if_pos hnd])
    (repeat first | exact RefineL.refl _ _ | exact RL.nil | exact Rf.same | exact Rf.bs0 | exact Rf.sl0 | (apply Rf.fact; (focus (simp; done)); exact rfl) | apply Rf.tup | apply RL.cons)
end E
end Go.Proofs.Ytmlajcbabimkjaa
