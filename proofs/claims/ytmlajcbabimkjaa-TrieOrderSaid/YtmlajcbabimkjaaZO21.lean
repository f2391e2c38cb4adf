/-
  Merged (wip/tools/merge.py): TP9, JPlain, AB1, AL3, BR2, BR3.
  Conditions: none.
-/
import Derived.Test.YtmlajcbabimkjaaZO20
import Derived.Test.YtmlajcbabimkjaaZO15
import Derived.Test.YtmlajcbabimkjaaZO5
import Derived.Lib.Bytealg
import Derived.Test.YtmlajcbabimkjaaZO16
import Derived.Test.YtmlajcbabimkjaaZO11
import Derived.Test.YtmlajcbabimkjaaZO18
import Derived.Test.YtmlajcbabimkjaaZO17
/-
  trie.Tree, trie.Root.
  Conditions: none.
-/
namespace Go.Proofs.Ytmlajcbabimkjaa
set_option linter.unusedVariables false
open Go.RowKit Mono Rlp
namespace E
theorem nib_hiT (x : UInt8) : (x >>> 4).toNat = x.toNat / 16 := by rw [UInt8.toNat_shiftRight]; simp [Nat.shiftRight_eq_div_pow]
theorem nib_loT (x : UInt8) : (x &&& 15).toNat = x.toNat % 16 := by rw [UInt8.toNat_and]; exact Nat.and_two_pow_sub_one_eq_mod _ 4
theorem split_smallT (l : List UInt8) : ∀ x ∈ split l, x.toNat ≤ 15 := by
  intro x hx
  obtain ⟨y, _, hy⟩ := List.mem_flatMap.1 hx
  simp only [List.mem_cons, List.not_mem_nil, or_false] at hy
  rcases hy with rfl | rfl
  · rw [nib_hiT]; have := y.toNat_lt; omega
  · rw [nib_loT]; omega
theorem bd_ok : ∀ (f : Nat) (l : List Pr) (at_ : Nat), (∀ x ∈ l, x.1.length ≤ 536870912) → (bdF f l at_).ok := by
  intro f
  induction f with
  | zero => intro l at_ h; exact trivial
  | succ f ih =>
    intro l at_ h
    match l with
    | [] => exact trivial
    | [x] =>
      show (x.1.drop at_).length ≤ 536870912
      have := h x (by simp)
      rw [List.length_drop]
      omega
    | x :: y :: r =>
      have hx := h x (by simp)
      rw [bdF]
      split
      · refine ⟨?_, ih _ _ h⟩
        rw [List.length_take, List.length_drop]
        omega
      · split
        · exact fun i => ih _ _ fun z hz => h z (List.mem_cons_of_mem _ ((List.mem_filter.1 hz).1))
        · exact fun i => ih _ _ fun z hz => h z ((List.mem_filter.1 hz).1)
def errP (l : List Pr) : Nat := if 100000 < l.length ∨ l.any lg = true then 3 else if l.any (·.2.isEmpty) = true then 1 else if ((l.map sp).map (·.1)).Nodup then 0 else 1
def treeT (l : List Pr) : Tn := bdF 200 (srt (l.map sp)) 0
theorem pairsF_ok {l : List Pr} (h : errP l = 0) : pairsF l = .tpl [.sl 2 ((srt (l.map sp)).map dPr), .v (.int .i64 0)] ∧ l.any lg = false ∧ ((l.map sp).map (·.1)).Nodup := by
  unfold errP at h
  unfold pairsF
  split at h
  · cases h
  · rename_i h1
    rw [if_neg h1]
    split at h
    · cases h
    · rename_i h2
      rw [if_neg h2]
      split at h
      · rename_i h3
        rw [if_pos h3]
        exact ⟨rfl, by simpa using fun e => h1 (.inr e), h3⟩
      · cases h
theorem pairsF_err {l : List Pr} (h : errP l ≠ 0) : pairsF l = .tpl [.v (.slice none 0 0), .v (.int .i64 (errP l : Int))] := by
  unfold errP at h ⊢
  unfold pairsF
  split
  · rfl
  · rename_i h1
    rw [if_neg h1] at h
    split
    · rfl
    · rename_i h2
      rw [if_neg h2] at h
      split
      · rename_i h3
        rw [if_pos h3] at h
        exact absurd rfl h
      · rfl
theorem rise_srt {l : List Pr} (hn : ((l.map sp).map (·.1)).Nodup) : Rise 0 (srt (l.map sp)) := by
  refine ⟨?_, fun x _ => Nat.zero_le _, fun x _ y _ => rfl, fun x hx b hb => ?_⟩
  · have h1 := srt_sorted (l.map sp)
    have h2 : ((srt (l.map sp)).map (·.1)).Nodup := ((srt_perm (l.map sp)).map (·.1)).nodup_iff.2 hn
    unfold List.Nodup at h2
    rw [List.pairwise_map] at h2
    refine (h1.and h2).imp fun h => ?_
    exact Classical.byContradiction fun hn => h.2 (List.le_antisymm h.1 (List.not_lt.1 hn))
  · obtain ⟨y, _, rfl⟩ := List.mem_map.1 ((srt_perm (l.map sp)).mem_iff.1 hx)
    have := split_smallT y.1 b hb
    omega
set_option maxRecDepth 20000 in
set_option maxHeartbeats 4000000 in
theorem f_Tree (l : List Pr) : Fn 32 [.sl 2 (l.map dPr)] (· = .tpl [if errP l = 0 then dT (treeT l) else .v .nilIface, .v (.int .i64 (errP l : Int))]) := by
  have h1 := f_pairs l
  refine Fn.walk 16 Try.func32 rfl Try.ntmps32 (by simp) fun X => ?_
  by_cases he : errP l = 0
  · obtain ⟨e1, e2, e3⟩ := pairsF_ok he
    rw [e1] at h1
    rw [if_pos he, he]
    have hlen : ∀ x ∈ srt (l.map sp), x.1.length ≤ 128 := fun x hx => by
      obtain ⟨y, hy, rfl⟩ := List.mem_map.1 ((srt_perm (l.map sp)).mem_iff.1 hx)
      have := not_long e2 hy
      show (split y.1).length ≤ 128
      rw [split_length]
      omega
    have h2 := f_build 200 (srt (l.map sp)) 0 (rise_srt e3) (fun x hx => by have := hlen x hx; omega) (fun x hx => by have := hlen x hx; omega)
    repeat
      (first
       | (apply P_call (h1); exact rfl; (focus (repeat first | exact RefineL.refl _ _ | exact RL.nil | exact Rf.same | exact Rf.bs0 | exact Rf.sl0 | (apply Rf.fact; (focus (simp; done)); exact rfl) | apply Rf.tup | apply RL.cons)); (focus (intro _ _; simp [go_sem]; done)); (iterate 2 exact rfl))
       | (apply P_call (h2); exact rfl; (focus (repeat first | exact RefineL.refl _ _ | exact RL.nil | exact Rf.same | exact Rf.bs0 | exact Rf.sl0 | (apply Rf.fact; (focus (simp; done)); exact rfl) | apply Rf.tup | apply RL.cons)); (focus (intro _ _; simp [go_sem]; done)); (iterate 2 exact rfl))
       | (apply P_move; (iterate 3 exact rfl)) | (apply P_assign; (iterate 3 exact rfl)) | (apply P_extract; (iterate 4 exact rfl))
       | (apply P_cmp (b := false); (iterate 2 exact rfl); (focus (first | (simp [cmpI]; done) | (simp [cmpI]; omega))); (iterate 2 exact rfl)) | apply EL.nil
       | ((with_reducible apply EK.then_normal); apply EK.code) | (apply EC.cond_false; exact rfl)
       | (with_reducible first | apply EC.seq | apply EC.region | apply EC.skip | apply EC.label | apply EC.block | apply EC.exit | apply EC.ret | apply EK.in_normal | apply EK.in_same | apply EK.in_ret | apply EK.then_ret | apply EK.then_exit))
    exact EK.ret2 rfl rfl rfl rfl
  · rw [pairsF_err he] at h1
    rw [if_neg he]
    have hne : (errP l : Int) ≠ 0 := by omega
    repeat
      (first
       | (apply P_call (h1); exact rfl; (focus (repeat first | exact RefineL.refl _ _ | exact RL.nil | exact Rf.same | exact Rf.bs0 | exact Rf.sl0 | (apply Rf.fact; (focus (simp; done)); exact rfl) | apply Rf.tup | apply RL.cons)); (focus (intro _ _; simp [go_sem]; done)); (iterate 2 exact rfl))
       | (apply P_move; (iterate 3 exact rfl)) | (apply P_assign; (iterate 3 exact rfl)) | (apply P_extract; (iterate 4 exact rfl))
       | (apply P_cmp (b := true); (iterate 2 exact rfl); (focus (first | (simp [cmpI]; done) | (simp [cmpI]; omega))); (iterate 2 exact rfl)) | apply EL.nil
       | ((with_reducible apply EK.then_normal); apply EK.code) | (apply EC.cond_true; exact rfl)
       | (with_reducible first | apply EC.seq | apply EC.region | apply EC.skip | apply EC.label | apply EC.block | apply EC.exit | apply EC.ret | apply EK.in_normal | apply EK.in_same | apply EK.in_ret | apply EK.then_ret | apply EK.then_exit))
    exact EK.ret2 rfl rfl rfl rfl
theorem tree_ok {l : List Pr} (h : errP l = 0) : (treeT l).ok := bd_ok _ _ _ fun x hx => by
  obtain ⟨y, hy, rfl⟩ := List.mem_map.1 ((srt_perm (l.map sp)).mem_iff.1 hx)
  have := not_long (pairsF_ok h).2.1 hy
  show (split y.1).length ≤ _
  rw [split_length]
  omega
def rootP (l : List Pr) : List UInt8 := if errP l = 0 then sumT (treeT l) else zero32
set_option maxRecDepth 20000 in
set_option maxHeartbeats 4000000 in
theorem f_Root (l : List Pr) : Fn 12 [.sl 2 (l.map dPr)] (· = .tpl [.arr 32 (rootP l), .v (.int .i64 (errP l : Int))]) := by
  have h1 := f_Tree l
  unfold rootP
  refine Fn.walk 17 Try.func12 rfl Try.ntmps12 (by simp) fun X => ?_
  by_cases he : errP l = 0
  · have h2 := f_Sum (treeT l) (tree_ok he)
    rw [if_pos he, he] at h1 ⊢
    repeat
      (first
       | (apply P_call (h1); exact rfl; (focus (repeat first | exact RefineL.refl _ _ | exact RL.nil | exact Rf.same | exact Rf.bs0 | exact Rf.sl0 | (apply Rf.fact; (focus (simp; done)); exact rfl) | apply Rf.tup | apply RL.cons)); (focus (intro _ _; simp [go_sem]; done)); (iterate 2 exact rfl))
       | (apply P_call (h2); exact rfl; (focus (repeat first | exact RefineL.refl _ _ | exact RL.nil | exact Rf.same | exact Rf.bs0 | exact Rf.sl0 | (apply Rf.fact; (focus (simp; done)); exact rfl) | apply Rf.tup | apply RL.cons)); (focus (intro _ _; simp [go_sem]; done)); (iterate 2 exact rfl))
       | (apply P_move; (iterate 3 exact rfl)) | (apply P_assign; (iterate 3 exact rfl)) | (apply P_extract; (iterate 4 exact rfl))
       | (apply P_cmp (b := false); (iterate 2 exact rfl); (focus (first | (simp [cmpI]; done) | (simp [cmpI]; omega))); (iterate 2 exact rfl)) | (apply P_alloc; exact rfl; exact rfl; exact rfl; intro _)
       | (apply P_store; exact rfl; (focus (repeat first | exact .z | apply SetAt.s | apply SetAtF.s)); (iterate 4 exact rfl)) | apply EL.nil | ((with_reducible apply EK.then_normal); apply EK.code)
       | (apply EC.cond_false; exact rfl)
       | (with_reducible first | apply EC.seq | apply EC.region | apply EC.skip | apply EC.label | apply EC.block | apply EC.exit | apply EC.ret | apply EK.in_normal | apply EK.in_same | apply EK.in_ret | apply EK.then_ret | apply EK.then_exit))
    refine EK.retc2r 0 rfl rfl rfl rfl rfl ?_ rfl
    (repeat first | exact RefineL.refl _ _ | exact RL.nil | exact Rf.same | exact Rf.bs0 | exact Rf.sl0 | (apply Rf.fact; (focus (simp; done)); exact rfl) | apply Rf.tup | apply RL.cons)
  · rw [if_neg he] at h1 ⊢
    have hne : (errP l : Int) ≠ 0 := by omega
    repeat
      (first
       | (apply P_call (h1); exact rfl; (focus (repeat first | exact RefineL.refl _ _ | exact RL.nil | exact Rf.same | exact Rf.bs0 | exact Rf.sl0 | (apply Rf.fact; (focus (simp; done)); exact rfl) | apply Rf.tup | apply RL.cons)); (focus (intro _ _; simp [go_sem]; done)); (iterate 2 exact rfl))
       | (apply P_move; (iterate 3 exact rfl)) | (apply P_assign; (iterate 3 exact rfl)) | (apply P_extract; (iterate 4 exact rfl))
       | (apply P_cmp (b := true); (iterate 2 exact rfl); (focus (first | (simp [cmpI]; done) | (simp [cmpI]; omega))); (iterate 2 exact rfl)) | (apply P_build0; (iterate 5 exact rfl))
       | (apply P_alloc; exact rfl; exact rfl; exact rfl; intro _) | (apply P_store; exact rfl; (focus (repeat first | exact .z | apply SetAt.s | apply SetAtF.s)); (iterate 4 exact rfl)) | apply EL.nil
       | ((with_reducible apply EK.then_normal); apply EK.code) | (apply EC.cond_true; exact rfl)
       | (with_reducible first | apply EC.seq | apply EC.region | apply EC.skip | apply EC.label | apply EC.block | apply EC.exit | apply EC.ret | apply EK.in_normal | apply EK.in_same | apply EK.in_ret | apply EK.then_ret | apply EK.then_exit))
    refine EK.retc2r 0 rfl rfl rfl rfl rfl ?_ rfl
    (repeat first | exact RefineL.refl _ _ | exact RL.nil | exact Rf.same | exact Rf.bs0 | exact Rf.sl0 | (apply Rf.fact; (focus (simp; done)); exact rfl) | apply Rf.tup | apply RL.cons)
end E
end Go.Proofs.Ytmlajcbabimkjaa
/-
  Changes as items (plain): what a diff is packed as, which items are diffs.
  Conditions: none. No program is named here.
-/
namespace Go.Proofs.Ytmlajcbabimkjaa
set_option linter.unusedVariables false
open Rlp
namespace Jn
structure Sl where
  key : List UInt8
  val : List UInt8
structure Ch where
  addr : List UInt8
  gone : Bool
  nonce : Int
  bal : List UInt8
  code : List UInt8
  slots : List Sl
structure Df where
  id : List UInt8
  par : List UInt8
  chs : List Ch
def Sl.ok (s : Sl) : Prop := s.key.length = 32 ∧ s.val.length = 32
def Ch.ok (c : Ch) : Prop := c.addr.length = 20 ∧ c.bal.length = 32 ∧ -9223372036854775808 ≤ c.nonce ∧ c.nonce ≤ 9223372036854775807 ∧ ∀ s ∈ c.slots, s.ok
def Df.ok (d : Df) : Prop := d.id.length = 32 ∧ d.par.length = 32 ∧ ∀ c ∈ d.chs, c.ok
def bytesI (l : List UInt8) : Raw := .mk false l []
def listI (xs : List Raw) : Raw := .mk true [] xs
def numI (n : Nat) : Raw := bytesI (be n)
def wordI (l : List UInt8) : Raw := bytesI (strip l)
def slotI (s : Sl) : Raw := listI [wordI s.key, wordI s.val]
def chI (c : Ch) : Raw := listI [bytesI c.addr, numI (if c.gone then 1 else 0), numI c.nonce.toNat, wordI c.bal, bytesI c.code, listI (c.slots.map slotI)]
def dfI (d : Df) : Raw := listI [bytesI d.id, bytesI d.par, listI (d.chs.map chI)]
abbrev cmp (l m : List UInt8) : Int := Lib.compareBytes l m
def risesS : List Sl → Bool
  | [] => true
  | [_] => true
  | a :: b :: l => decide (cmp a.key b.key < 0) && risesS (b :: l)
def mayC (c : Ch) : Bool := decide (0 ≤ c.nonce) && risesS c.slots
def risesC : List Ch → Bool
  | [] => true
  | [_] => true
  | a :: b :: l => decide (cmp a.addr b.addr < 0) && risesC (b :: l)
def may (l : List Ch) : Bool := l.all mayC && risesC l
def packD (d : Df) : Except Nat (List UInt8) := if may d.chs then (match packed (dfI d) with | some b => .ok b | none => .error 3) else .error 1
/-! ### Back -/
def isB : Raw → Option (List UInt8)
  | .mk false bs _ => some bs
  | .mk true _ _ => none
/-! ### An item that is a diff's has the diff's bytes -/
theorem E_list (bs : List UInt8) (xs : List Raw) : E (.mk true bs xs) = head (EL xs).length 192 ++ EL xs := by rw [E]
/-! ### What is small is packed -/
mutual
theorem packR_ok : ∀ x : Raw, (E x).length ≤ most → packR x = some (E x)
  | .mk false bs xs, h => by
    rw [E] at h ⊢
    rw [packR]
    have h2 : bs.length ≤ (EB bs).length := by unfold EB; split <;> simp
    rw [if_neg (by omega)]
  | .mk true bs xs, h => by
    rw [E_list] at h ⊢
    rw [List.length_append] at h
    rw [packR, packRL_ok xs [] (by simp; omega)]
    rfl
theorem packRL_ok : ∀ (xs : List Raw) (acc : List UInt8), acc.length + (EL xs).length ≤ most → packRL xs acc = some (acc ++ EL xs)
  | [], acc, h => by rw [packRL, EL, List.append_nil]
  | x :: xs, acc, h => by
    rw [EL, List.length_append] at h
    rw [packRL, packR_ok x (by omega), EL]
    dsimp only
    rw [if_neg (by omega), packRL_ok xs (acc ++ E x) (by rw [List.length_append]; omega), List.append_assoc]
end
theorem deep_list (xs : List Raw) (bs : List UInt8) (m k : Nat) (h : ∀ x ∈ xs, deepR x m ≤ k) : deepR (.mk true bs xs) (m + 1) ≤ k + 1 := by
  rw [deepR]
  have := (maxD_le xs m 0 k).2 ⟨Nat.zero_le _, h⟩
  omega
/-! ### A diff's item is the diff's -/
end Jn
end Go.Proofs.Ytmlajcbabimkjaa
/-
  Bodies: acct.Pack and the reference's PackBody.
  Conditions: none.
-/
namespace Go.Proofs.Ytmlajcbabimkjaa
set_option linter.unusedVariables false
open Go.RowKit Mono Rlp
namespace E
theorem packed_ok {x : Raw} (hd : deepR x 32 ≤ 32) (h : (E x).length ≤ most) : packed x = some (Rlp.E x) := by
  rw [packed_ref, if_neg (by omega), Jn.packR_ok _ h]
  dsimp only
  rw [if_neg (by omega)]
end E
end Go.Proofs.Ytmlajcbabimkjaa
/-
  The root of two pairs whose keys of one byte begin unlike; of one pair (plain).
  Conditions: none.
-/
namespace Go.Proofs.Ytmlajcbabimkjaa
set_option linter.unusedVariables false
open Go.RowKit Mono Rlp
namespace E
theorem itemT_brG (ks : Nat → Tn) (v : List UInt8) : itemT (.br ks v) = .mk true [] ((List.range 16).map (fun i => refT (ks i)) ++ [.mk false v []]) := rfl
end E
end Go.Proofs.Ytmlajcbabimkjaa
/-
  The reference's rest; a builder's put, and ref (by node).
  Conditions: none.
-/
namespace Go.Proofs.Ytmlajcbabimkjaa
set_option linter.unusedVariables false
open Go.RowKit Mono Rlp
namespace E
def restP (n : Nat) (l : List Pr) : List Pr := l.map fun x => (x.1.drop n, x.2)
set_option maxRecDepth 20000 in
set_option maxHeartbeats 8000000 in
theorem f_rest (l : List Pr) (n : Nat) (hl : l.length ≤ 1000000) (hn : ∀ x ∈ l, n ≤ x.1.length) : Fn 87 [.sl 2 (l.map dPr), .v (.int .i64 (n : Int))] (· = .val (.sl 2 ((restP n l).map dPr))) := by
  have hml : (l.map dPr).length = l.length := List.length_map _
  refine FnM.toFn ?_
  refine FnM.walk 30 Try.func87 rfl Try.ntmps87 (by simp) fun X => ?_
  repeat
    (first
     | (apply P_assign; (iterate 3 exact rfl)) | apply EL.nil | ((with_reducible apply EK.then_normal); apply EK.code)
     | (with_reducible first | apply EC.seq | apply EC.region | apply EC.skip | apply EC.label | apply EC.block | apply EC.exit | apply EC.ret | apply EK.in_normal | apply EK.in_same | apply EK.in_ret | apply EK.then_ret | apply EK.then_exit))
  refine EC.le (Le.row 116 2) ?_
  refine EC.loop (ι := {x : Nat × Value // x.1 ≤ l.length})
    (fun x => ⟨[(6, .val (.v (.int .i64 (x.1.1 : Int)))), (5, .val (.v x.1.2)), (0, .val (.sl 2 (l.map dPr))), (1, .val (.v (.int .i64 (n : Int))))], [.row x.1.2 116 2 ((restP n (l.take x.1.1)).map dPr)], []⟩)
    (fun x => l.length - x.1.1) ⟨(0, .slice none 0 0), Nat.zero_le _⟩ ?_ ?_
  · exact (Le.keep (by repeat first | exact trivial | refine ⟨rfl, ?_⟩) (by repeat first | exact List.nil_sublist _ | apply List.Sublist.cons_cons | apply List.Sublist.cons) (by simp))
  rintro ⟨⟨i, v⟩, hi⟩
  dsimp only at hi ⊢
  by_cases hlt : i < l.length
  · have hd : (l.map dPr)[i]? = some (.tup [.bs l[i].1, .bs l[i].2]) := by rw [List.getElem?_map, List.getElem?_eq_getElem hlt]; rfl
    have hx := hn _ (List.getElem_mem hlt)
    have hl3 : ((restP n (l.take i)).map dPr).length = i := by unfold restP; rw [List.length_map, List.length_map, List.length_take]; omega
    have htk : (restP n (l.take (i + 1))).map dPr = (restP n (l.take i)).map dPr ++ [.tup [.bs (l[i].1.drop n), .bs l[i].2]] := by
      unfold restP
      rw [List.take_succ_eq_append_getElem hlt, List.map_append, List.map_append]
      rfl
    repeat
      (first
       | (apply P_move; (iterate 3 exact rfl)) | (apply P_cmp (b := true); (iterate 2 exact rfl); (focus (first | (simp [cmpI]; done) | (simp [cmpI]; omega))); (iterate 2 exact rfl))
       | (apply P_lensl; (iterate 4 exact rfl)) | apply EL.nil | ((with_reducible apply EK.then_normal); apply EK.code) | (apply EC.cond_true; exact rfl)
       | (with_reducible first | apply EC.seq | apply EC.region | apply EC.skip | apply EC.label | apply EC.block | apply EC.exit | apply EC.ret | apply EK.in_normal | apply EK.in_same | apply EK.in_ret | apply EK.then_ret | apply EK.then_exit))
    refine EC.drawC 16 [0, 1, 2, 3, 4, 5, 6, 7, 8, 9, 10, 11, 12, 13, 14] [15] [_] _ (by kernel_rfl) (by kernel_rfl) rfl ?_
    simp only [pickL, List.filterMap_cons, List.filterMap_nil, List.getElem?_cons_zero, List.getElem?_cons_succ]
    repeat
      (first
       | (apply H_bsfrom; (iterate 3 exact rfl); exact ⟨by omega, by rw [Int.toNat_natCast]; omega⟩; (iterate 2 exact rfl)) | (apply H_move; (iterate 3 exact rfl)) | (apply H_fieldpd; (iterate 7 exact rfl))
       | (apply H_loadpd; (iterate 5 exact rfl))
       | (apply H_index; (iterate 4 exact rfl); (focus (first | exact ⟨by decide, rfl⟩ | (refine ⟨by omega, ?_⟩; rw [Int.toNat_natCast]; assumption))); (iterate 2 exact rfl))
       | (apply H_build; (iterate 7 exact rfl)) | (apply H_lit; (iterate 9 exact rfl)))
    refine EM.nil ?_
    repeat (first | rw [List.cons_append] | rw [List.nil_append])
    refine CH.mut (os := [_]) (rest := []) rfl rfl (m_append rfl rfl rfl rfl rfl ?_) ?_
    · rw [hl3]
      constructor <;> (simp; omega)
    rintro _ _ ⟨v', rfl, rfl⟩
    try simp only [St.put]
    repeat (first | rw [List.cons_append] | rw [List.nil_append])
    refine CH.nil ?_
    try simp only [List.drop_succ_cons, List.drop_zero]
    repeat
      (first
       | (apply P_move; (iterate 3 exact rfl)) | (apply P_assign; (iterate 3 exact rfl)) | (apply P_ar; (iterate 3 exact rfl); (focus omega); (focus omega); (iterate 2 exact rfl)) | apply EL.nil
       | ((with_reducible apply EK.then_normal); apply EK.code)
       | (with_reducible first | apply EC.seq | apply EC.region | apply EC.skip | apply EC.label | apply EC.block | apply EC.exit | apply EC.ret | apply EK.in_normal | apply EK.in_same | apply EK.in_ret | apply EK.then_ret | apply EK.then_exit))
    refine EK.again ⟨(i + 1, v'), hlt⟩ (by dsimp only; omega) ?_
    dsimp only
    rw [htk]
    simp only [Int.natCast_add]
    exact (Le.keep (by repeat first | exact trivial | refine ⟨rfl, ?_⟩) (by repeat first | exact List.nil_sublist _ | apply List.Sublist.cons_cons | apply List.Sublist.cons) (by simp))
  · obtain rfl : i = l.length := by omega
    rw [List.take_length]
    refine EC.le (Le.freeze (pre := []) rfl) ?_
    simp only [List.nil_append]
    repeat
      (first
       | (apply P_move; (iterate 3 exact rfl)) | (apply P_assign; (iterate 3 exact rfl))
       | (apply P_cmp (b := false); (iterate 2 exact rfl); (focus (first | (simp [cmpI]; done) | (simp [cmpI]; omega))); (iterate 2 exact rfl)) | (apply P_lensl; (iterate 4 exact rfl)) | apply EL.nil
       | ((with_reducible apply EK.then_normal); apply EK.code) | (apply EC.cond_false; exact rfl)
       | (with_reducible first | apply EC.seq | apply EC.region | apply EC.skip | apply EC.label | apply EC.block | apply EC.exit | apply EC.ret | apply EK.in_normal | apply EK.in_same | apply EK.in_ret | apply EK.then_ret | apply EK.then_exit))
    exact EK.retM1k [] rfl rfl (RL.cons (Rf.fact List.mem_cons_self rfl) RL.nil) (List.nil_sublist _) ⟨rfl, rfl⟩
theorem pkB_leB (x : Raw) : (pkB x).length ≤ 1099511627776 := by
  have h : ∀ b, packed x = some b → b.length ≤ most := fun b h => by
    rw [packed_ref] at h
    split at h
    · cases h
    · split at h
      · split at h
        · cases h
        · cases h
          omega
      · cases h
  unfold pkB
  cases hp : packed x with
  | none => exact Nat.zero_le _
  | some b =>
    have := h b hp
    simp only [most] at this
    show b.length ≤ _
    omega
def refU (l : List Pr) (U : List (List UInt8)) (x : Raw) : List (List UInt8) := if l.isEmpty then [] else U ++ (if (pkB x).length < 32 then [] else [pkB x])
def refE (l : List Pr) (x : Raw) : Raw := if l.isEmpty then .mk false [] [] else refI x
theorem P_callT {N : Nat} {X : Cx N} {ops : Array Oper} {Q : Exit → Act → World → Prop} {l' : List Oper} {t ty f : Nat} {pos : String} {af : Array Edge} {gd : Option (Nat × Bool)} {args : Array Operand} {tys : Array TypeId} {ds ds' : List D} {Φ : R → List Obj → Prop} {rs : List (Tmp × R)} {os os0 : List Obj} {fs : List (Value × D)} (hF : FnM f ds' os Φ) (l1 : List Obj) (hos : os0 = l1 ++ os)
    (hx : evs (⟨rs, l1, fs⟩ : St) args.toList = some ds) (hR : RefineL fs ds ds') (hf : Enters f) (hg : guardOf ops ⟨rs, os ++ l1, fs⟩ ⟨some t, .call { callee := .value (.func f), args := args, argTypes := tys }, ty, pos, af, gd⟩ = some true) (hN : Nat.blt t N = true) (k : ∀ r os', Φ r os' → EL X ops Q l' ⟨(t, r) :: rs, l1 ++ os', fs⟩) : EL X ops Q (⟨some t, .call { callee := .value (.func f), args := args, argTypes := tys }, ty, pos, af, gd⟩ :: l') ⟨rs, os0, fs⟩ :=
  P_callAt hF l1 [] (by rw [List.append_nil]; exact hos) (by rw [List.append_nil]; exact hx) hR hf (by rw [List.append_nil]; exact hg) hN fun r os' h => by
    rw [List.append_nil]
    exact k r os' h
structure Bld (g : Nat) where
  σ : Type
  os : σ → List Obj
  sz : σ → Nat
  Rl : List (List UInt8) → Nat → σ → σ → Prop
  none : ∀ s, Rl [] 0 s s
  app : ∀ {U V : List (List UInt8)} {C E : Nat} {s t u : σ}, Rl U C s t → Rl V E t u → Rl (U ++ V) (C + E) s u
  more : ∀ {U : List (List UInt8)} {C E : Nat} {s t : σ}, Rl U C s t → C ≤ E → Rl U E s t
  size : ∀ {U : List (List UInt8)} {C : Nat} {s t : σ}, Rl U C s t → sz t ≤ sz s + C
  put : ∀ (s : σ) (x : List UInt8), sz s ≤ 1000000000 → x.length ≤ 1099511627776 → FnM 59 [.v (ptr g), .bs x] (os s) (fun r os' => ∃ t, Rl [x] 1 s t ∧ r = .val (.arr 32 (hash x)) ∧ os' = os t)
set_option maxRecDepth 20000 in
set_option maxHeartbeats 8000000 in
theorem b_ref {g : Nat} (B : Bld g) (s : B.σ) (l : List Pr) (x : Raw) (U : List (List UInt8)) (C : Nat) (hc : B.sz s + C ≤ 1000000000)
    (H : l.isEmpty = false → FnM 58 [.v (ptr g), .sl 2 (l.map dPr)] (B.os s) (fun r os' => ∃ t, B.Rl U C s t ∧ r = .val (dItem x) ∧ os' = B.os t)) :
    FnM 86 [.v (ptr g), .sl 2 (l.map dPr)] (B.os s) (fun r os' => ∃ t, B.Rl (refU l U x) (if l.isEmpty then 0 else C + 1) s t ∧ r = .val (dItem (refE l x)) ∧ os' = B.os t) := by
  unfold refE refU
  have hb0 := f_rBytes []
  refine FnM.walk 30 Try.func86 rfl Try.ntmps86 (by simp) fun X => ?_
  cases l with
  | nil =>
    rw [if_pos (show ([] : List Pr).isEmpty = true from rfl), if_pos (show ([] : List Pr).isEmpty = true from rfl), if_pos (show ([] : List Pr).isEmpty = true from rfl)]
    repeat
      (first
       | (apply P_call (hb0); exact rfl; (focus (repeat first | exact RefineL.refl _ _ | exact RL.nil | exact Rf.same | exact Rf.bs0 | exact Rf.sl0 | (apply Rf.fact; (focus (simp; done)); exact rfl) | apply Rf.tup | apply RL.cons)); (focus (intro _ _; simp [go_sem]; done)); (iterate 2 exact rfl))
       | (apply P_move; (iterate 3 exact rfl)) | (apply P_cmp (b := true); (iterate 2 exact rfl); (focus (first | (simp [cmpI]; done) | (simp [cmpI]; omega))); (iterate 2 exact rfl))
       | (apply P_lensl; (iterate 4 exact rfl)) | (apply P_alloc; exact rfl; exact rfl; exact rfl; intro _)
       | (apply P_store; exact rfl; (focus (repeat first | exact .z | apply SetAt.s | apply SetAtF.s)); (iterate 4 exact rfl)) | apply EL.nil | ((with_reducible apply EK.then_normal); apply EK.code)
       | (apply EC.cond_true; exact rfl)
       | (with_reducible first | apply EC.seq | apply EC.region | apply EC.skip | apply EC.label | apply EC.block | apply EC.exit | apply EC.ret | apply EK.in_normal | apply EK.in_same | apply EK.in_ret | apply EK.then_ret | apply EK.then_exit))
    refine EK.retMc1s 0 (B.os s) rfl rfl rfl rfl ?_ (by (repeat first | exact List.Sublist.refl _ | apply List.Sublist.cons_cons | apply List.Sublist.cons)) ⟨s, B.none s, rfl, rfl⟩
    (repeat first | exact RefineL.refl _ _ | exact RL.nil | exact Rf.same | exact Rf.bs0 | exact Rf.sl0 | (apply Rf.fact; (focus (simp; done)); exact rfl) | apply Rf.tup | apply RL.cons)
  | cons y l =>
    have h1 := H rfl
    rw [if_neg (show ¬ ((y :: l).isEmpty = true) from Bool.false_ne_true), if_neg (show ¬ ((y :: l).isEmpty = true) from Bool.false_ne_true), if_neg (show ¬ ((y :: l).isEmpty = true) from Bool.false_ne_true)]
    have h2 := f_rPack x
    unfold refI
    repeat
      (first
       | (apply P_move; (iterate 3 exact rfl)) | (apply P_cmp (b := false); (iterate 2 exact rfl); (focus (first | (simp [cmpI]; done) | (simp [cmpI]; omega))); (iterate 2 exact rfl))
       | (apply P_lensl; (iterate 4 exact rfl)) | (apply P_alloc; exact rfl; exact rfl; exact rfl; intro _) | apply EL.nil | ((with_reducible apply EK.then_normal); apply EK.code)
       | (apply EC.cond_false; exact rfl)
       | (with_reducible first | apply EC.seq | apply EC.region | apply EC.skip | apply EC.label | apply EC.block | apply EC.exit | apply EC.ret | apply EK.in_normal | apply EK.in_same | apply EK.in_ret | apply EK.then_ret | apply EK.then_exit))
    refine P_callT h1 [_] rfl rfl (RefineL.refl _ _) (by intro _ _; simp [go_sem]) rfl rfl ?_
    rintro _ _ ⟨t, hn1, rfl, rfl⟩
    simp only [List.cons_append, List.nil_append]
    have hle := pkB_leB x
    have hpb : packed x = none ∨ packed x = some (pkB x) := by
      unfold pkB
      cases h : packed x with
      | none => exact .inl rfl
      | some b => exact .inr rfl
    rcases hpb with hp | hp
    · have h0 : pkB x = [] := by unfold pkB; rw [hp]; rfl
      rw [hp] at h2
      rw [h0, if_pos (by decide), if_pos (by decide), List.append_nil]
      unfold packD at h2
      dsimp only at h2
      cases x with
      | mk xb xs xl =>
        unfold dItem at h2 ⊢
        repeat
          (first
           | (apply P_call (h2); exact rfl; (focus (repeat first | exact RefineL.refl _ _ | exact RL.nil | exact Rf.same | exact Rf.bs0 | exact Rf.sl0 | (apply Rf.fact; (focus (simp; done)); exact rfl) | apply Rf.tup | apply RL.cons)); (focus (intro _ _; simp [go_sem]; done)); (iterate 2 exact rfl))
           | (apply P_move; (iterate 3 exact rfl)) | (apply P_assign; (iterate 3 exact rfl)) | (apply P_extract; (iterate 4 exact rfl))
           | (apply P_load; exact rfl; (first | exact I0 | exact I1 | exact I2 | exact I3 | exact I4 | exact I5 | exact I6); (iterate 4 exact rfl))
           | (apply P_cmp (b := true); (iterate 2 exact rfl); (focus (first | (simp [cmpI]; done) | (simp [cmpI]; omega))); (iterate 2 exact rfl)) | (apply P_lenv; (iterate 4 exact rfl))
           | (apply P_alloc; exact rfl; exact rfl; exact rfl; intro _) | (apply P_store; exact rfl; (focus (repeat first | exact .z | apply SetAt.s | apply SetAtF.s)); (iterate 4 exact rfl)) | apply EL.nil
           | ((with_reducible apply EK.then_normal); apply EK.code) | (apply EC.cond_true; exact rfl)
           | (with_reducible first | apply EC.seq | apply EC.region | apply EC.skip | apply EC.label | apply EC.block | apply EC.exit | apply EC.ret | apply EK.in_normal | apply EK.in_same | apply EK.in_ret | apply EK.then_ret | apply EK.then_exit))
        refine EK.retMc1s 1 (B.os t) rfl rfl rfl rfl ?_ (by (repeat first | exact List.Sublist.refl _ | apply List.Sublist.cons_cons | apply List.Sublist.cons)) ⟨t, B.more hn1 (by omega), rfl, rfl⟩
        (repeat first | exact RefineL.refl _ _ | exact RL.nil | exact Rf.same | exact Rf.bs0 | exact Rf.sl0 | (apply Rf.fact; (focus (simp; done)); exact rfl) | apply Rf.tup | apply RL.cons)
    · rw [hp] at h2
      unfold packD at h2
      dsimp only at h2
      generalize pkB x = pb at h2 hle
      by_cases h32 : pb.length < 32
      · rw [if_pos h32, if_pos h32, List.append_nil]
        cases x with
        | mk xb xs xl =>
          unfold dItem at h2 ⊢
          repeat
            (first
             | (apply P_call (h2); exact rfl; (focus (repeat first | exact RefineL.refl _ _ | exact RL.nil | exact Rf.same | exact Rf.bs0 | exact Rf.sl0 | (apply Rf.fact; (focus (simp; done)); exact rfl) | apply Rf.tup | apply RL.cons)); (focus (intro _ _; simp [go_sem]; done)); (iterate 2 exact rfl))
             | (apply P_move; (iterate 3 exact rfl)) | (apply P_assign; (iterate 3 exact rfl)) | (apply P_extract; (iterate 4 exact rfl))
             | (apply P_load; exact rfl; (first | exact I0 | exact I1 | exact I2 | exact I3 | exact I4 | exact I5 | exact I6); (iterate 4 exact rfl))
             | (apply P_cmp (b := true); (iterate 2 exact rfl); (focus (first | (simp [cmpI]; done) | (simp [cmpI]; omega))); (iterate 2 exact rfl)) | (apply P_lenbs; (iterate 4 exact rfl))
             | (apply P_alloc; exact rfl; exact rfl; exact rfl; intro _) | (apply P_store; exact rfl; (focus (repeat first | exact .z | apply SetAt.s | apply SetAtF.s)); (iterate 4 exact rfl)) | apply EL.nil
             | ((with_reducible apply EK.then_normal); apply EK.code) | (apply EC.cond_true; exact rfl)
             | (with_reducible first | apply EC.seq | apply EC.region | apply EC.skip | apply EC.label | apply EC.block | apply EC.exit | apply EC.ret | apply EK.in_normal | apply EK.in_same | apply EK.in_ret | apply EK.then_ret | apply EK.then_exit))
          refine EK.retMc1s 1 (B.os t) rfl rfl rfl rfl ?_ (by (repeat first | exact List.Sublist.refl _ | apply List.Sublist.cons_cons | apply List.Sublist.cons)) ⟨t, B.more hn1 (by omega), rfl, rfl⟩
          (repeat first | exact RefineL.refl _ _ | exact RL.nil | exact Rf.same | exact Rf.bs0 | exact Rf.sl0 | (apply Rf.fact; (focus (simp; done)); exact rfl) | apply Rf.tup | apply RL.cons)
      · rw [if_neg h32, if_neg h32]
        have hsz := B.size hn1
        have h3 := B.put t pb (by omega) hle
        have h4 := f_rBytes (hash pb)
        cases x with
        | mk xb xs xl =>
          unfold dItem at h2
          repeat
            (first
             | (apply P_call (h2); exact rfl; (focus (repeat first | exact RefineL.refl _ _ | exact RL.nil | exact Rf.same | exact Rf.bs0 | exact Rf.sl0 | (apply Rf.fact; (focus (simp; done)); exact rfl) | apply Rf.tup | apply RL.cons)); (focus (intro _ _; simp [go_sem]; done)); (iterate 2 exact rfl))
             | (apply P_move; (iterate 3 exact rfl)) | (apply P_assign; (iterate 3 exact rfl)) | (apply P_extract; (iterate 4 exact rfl))
             | (apply P_load; exact rfl; (first | exact I0 | exact I1 | exact I2 | exact I3 | exact I4 | exact I5 | exact I6); (iterate 4 exact rfl))
             | (apply P_cmp (b := false); (iterate 2 exact rfl); (focus (first | (simp [cmpI]; done) | (simp [cmpI]; omega))); (iterate 2 exact rfl)) | (apply P_lenbs; (iterate 4 exact rfl))
             | (apply P_alloc; exact rfl; exact rfl; exact rfl; intro _) | (apply P_store; exact rfl; (focus (repeat first | exact .z | apply SetAt.s | apply SetAtF.s)); (iterate 4 exact rfl)) | apply EL.nil
             | ((with_reducible apply EK.then_normal); apply EK.code) | (apply EC.cond_false; exact rfl)
             | (with_reducible first | apply EC.seq | apply EC.region | apply EC.skip | apply EC.label | apply EC.block | apply EC.exit | apply EC.ret | apply EK.in_normal | apply EK.in_same | apply EK.in_ret | apply EK.then_ret | apply EK.then_exit))
          refine P_callT h3 [_, _] rfl rfl (RefineL.refl _ _) (by intro _ _; simp [go_sem]) rfl rfl ?_
          rintro _ _ ⟨u, hu, rfl, rfl⟩
          simp only [List.cons_append, List.nil_append]
          repeat
            (first
             | (apply P_alloc; exact rfl; exact rfl; exact rfl; intro _) | (apply P_store; exact rfl; (focus (repeat first | exact .z | apply SetAt.s | apply SetAtF.s)); (iterate 4 exact rfl)) | apply EL.nil
             | ((with_reducible apply EK.then_normal); apply EK.code)
             | (with_reducible first | apply EC.seq | apply EC.region | apply EC.skip | apply EC.label | apply EC.block | apply EC.exit | apply EC.ret | apply EK.in_normal | apply EK.in_same | apply EK.in_ret | apply EK.then_ret | apply EK.then_exit))
          refine EL.le (Le.pin (p := 8) (pre := []) rfl rfl) ?_
          simp only [List.nil_append]
          repeat
            (first
             | (apply P_slpd sl_word; (iterate 6 exact rfl))
             | (apply P_call (h4); exact rfl; (focus (repeat first | exact RefineL.refl _ _ | exact RL.nil | exact Rf.same | exact Rf.bs0 | exact Rf.sl0 | (apply Rf.fact; (focus (simp; done)); exact rfl) | apply Rf.tup | apply RL.cons)); (focus (intro _ _; simp [go_sem]; done)); (iterate 2 exact rfl))
             | (apply P_store; exact rfl; (focus (repeat first | exact .z | apply SetAt.s | apply SetAtF.s)); (iterate 4 exact rfl)) | apply EL.nil | ((with_reducible apply EK.then_normal); apply EK.code)
             | (with_reducible first | apply EC.seq | apply EC.region | apply EC.skip | apply EC.label | apply EC.block | apply EC.exit | apply EC.ret | apply EK.in_normal | apply EK.in_same | apply EK.in_ret | apply EK.then_ret | apply EK.then_exit))
          refine EK.retMc1s 1 (B.os u) rfl rfl rfl rfl ?_ (by (repeat first | exact List.Sublist.refl _ | apply List.Sublist.cons_cons | apply List.Sublist.cons)) ⟨u, B.app hn1 hu, rfl, rfl⟩
          (repeat first | exact RefineL.refl _ _ | exact RL.nil | exact Rf.same | exact Rf.bs0 | exact Rf.sl0 | (apply Rf.fact; (focus (simp; done)); exact rfl) | apply Rf.tup | apply RL.cons)
end E
end Go.Proofs.Ytmlajcbabimkjaa
/-
  The reference's node (plain: what it tells).
  Conditions: none.
-/
namespace Go.Proofs.Ytmlajcbabimkjaa
set_option linter.unusedVariables false
open Go.RowKit Mono Rlp
namespace E
def cmAll (p : List UInt8) (l : List Pr) : Nat := l.foldl (fun n x => if common p x.1 < n then common p x.1 else n) p.length
theorem cmAll_snoc (p : List UInt8) (l : List Pr) (x : Pr) : cmAll p (l ++ [x]) = if common p x.1 < cmAll p l then common p x.1 else cmAll p l := by
  unfold cmAll
  rw [List.foldl_append]
  rfl
theorem common_le (a b : List UInt8) : common a b ≤ a.length ∧ common a b ≤ b.length := ⟨(common_take a b).2.1, (common_take a b).2.2⟩
theorem cmAll_le (p : List UInt8) : ∀ (l : List Pr) (m : Nat), m ≤ p.length → (l.foldl (fun n x => if common p x.1 < n then common p x.1 else n) m) ≤ m ∧ ∀ x ∈ l, (l.foldl (fun n x => if common p x.1 < n then common p x.1 else n) m) ≤ common p x.1
  | [], m, h => ⟨Nat.le_refl _, fun x hx => by cases hx⟩
  | y :: l, m, h => by
    rw [List.foldl_cons]
    split
    · rename_i hlt
      obtain ⟨h1, h2⟩ := cmAll_le p l (common p y.1) (common_le p y.1).1
      refine ⟨by omega, fun x hx => ?_⟩
      rcases List.mem_cons.1 hx with rfl | hx
      · exact h1
      · exact h2 x hx
    · rename_i hge
      obtain ⟨h1, h2⟩ := cmAll_le p l m h
      refine ⟨h1, fun x hx => ?_⟩
      rcases List.mem_cons.1 hx with rfl | hx
      · omega
      · exact h2 x hx
def headD (d : Nat) (x : Pr) : Bool := match x.1 with
  | [] => false
  | c :: _ => c.toNat == d
def headLt (d : Nat) (x : Pr) : Bool := match x.1 with
  | [] => false
  | c :: _ => decide (c.toNat < d)
def kidE (d : Nat) (l : List Pr) : List Pr := restP 1 (l.filter (headD d))
def valE (l : List Pr) : List UInt8 := l.foldl (fun v x => if x.1.isEmpty then x.2 else v) []
theorem valE_snoc (l : List Pr) (x : Pr) : valE (l ++ [x]) = if x.1.isEmpty then x.2 else valE l := by
  unfold valE
  rw [List.foldl_append]
  rfl
def nodeR : Nat → List Pr → Raw
  | 0, _ => .mk false [] []
  | f + 1, l => match l with
    | [] => .mk true [] []
    | [x] => .mk true [] [.mk false (ppk x.1 true) [], .mk false x.2 []]
    | x :: y :: r =>
      if 0 < cmAll x.1 (y :: r) then .mk true [] [.mk false (ppk (x.1.take (cmAll x.1 (y :: r))) false) [], refE (restP (cmAll x.1 (y :: r)) (x :: y :: r)) (nodeR f (restP (cmAll x.1 (y :: r)) (x :: y :: r)))]
      else .mk true [] ((List.range 16).map (fun d => refE (kidE d (x :: y :: r)) (nodeR f (kidE d (x :: y :: r)))) ++ [.mk false (valE (x :: y :: r)) []])
def strsR : Nat → List Pr → List (List UInt8)
  | 0, _ => []
  | f + 1, l => match l with
    | [] => []
    | [_] => []
    | x :: y :: r =>
      if 0 < cmAll x.1 (y :: r) then refU (restP (cmAll x.1 (y :: r)) (x :: y :: r)) (strsR f (restP (cmAll x.1 (y :: r)) (x :: y :: r))) (nodeR f (restP (cmAll x.1 (y :: r)) (x :: y :: r)))
      else ((List.range 16).map fun d => refU (kidE d (x :: y :: r)) (strsR f (kidE d (x :: y :: r))) (nodeR f (kidE d (x :: y :: r)))).flatten
theorem cnt_step (l : List Pr) (d : Nat) : (l.filter (headLt (d + 1))).length = (l.filter (headLt d)).length + (l.filter (headD d)).length := by
  induction l with
  | nil => rfl
  | cons x l ih =>
    obtain ⟨p, v⟩ := x
    cases p with
    | nil =>
      rw [List.filter_cons_of_neg (p := headLt (d + 1)) (by simp [headLt]; try omega), List.filter_cons_of_neg (p := headLt d) (by simp [headLt]; try omega), List.filter_cons_of_neg (p := headD d) (by simp [headD]; try omega)]
      exact ih
    | cons c p =>
      by_cases h1 : c.toNat = d
      · rw [List.filter_cons_of_pos (p := headLt (d + 1)) (by simp [headLt]; try omega), List.filter_cons_of_neg (p := headLt d) (by simp [headLt]; try omega), List.filter_cons_of_pos (p := headD d) (by simp [headD]; try omega), List.length_cons, List.length_cons]
        omega
      · by_cases h2 : c.toNat < d
        · rw [List.filter_cons_of_pos (p := headLt (d + 1)) (by simp [headLt]; try omega), List.filter_cons_of_pos (p := headLt d) (by simp [headLt]; try omega), List.filter_cons_of_neg (p := headD d) (by simp [headD]; try omega), List.length_cons, List.length_cons]
          omega
        · rw [List.filter_cons_of_neg (p := headLt (d + 1)) (by simp [headLt]; try omega), List.filter_cons_of_neg (p := headLt d) (by simp [headLt]; try omega), List.filter_cons_of_neg (p := headD d) (by simp [headD]; try omega)]
          exact ih
theorem cnt_le (l : List Pr) (d : Nat) : (l.filter (headLt d)).length ≤ l.length := List.length_filter_le _ _
theorem restP_len (n : Nat) (l : List Pr) : (restP n l).length = l.length := List.length_map _
theorem kidE_len (d : Nat) (l : List Pr) : (kidE d l).length = (l.filter (headD d)).length := restP_len _ _
theorem kidE_mem {d : Nat} {l : List Pr} {y : Pr} (h : y ∈ kidE d l) : ∃ x ∈ l, headD d x = true ∧ y = (x.1.drop 1, x.2) := by
  obtain ⟨x, hx, rfl⟩ := List.mem_map.1 h
  exact ⟨x, (List.mem_filter.1 hx).1, (List.mem_filter.1 hx).2, rfl⟩
theorem headD_pos {d : Nat} {x : Pr} (h : headD d x = true) : 1 ≤ x.1.length := by
  unfold headD at h
  split at h
  · cases h
  · rename_i e
    rw [e]
    simp
end E
end Go.Proofs.Ytmlajcbabimkjaa
