/-
  Merged (wip/tools/merge.py): AM3, RlpLen, RlpReadW, RlpReadL, RefPart, RefPartL, Reads, Num, Num2, Num3, Num6, Cmp, EItem, AB2, AB3, SE1, AB4.
  Conditions: none.
-/
import Derived.Test.YtmlajcbabimkjaaZW22
import Derived.Test.YtmlajcbabimkjaaZW23
import Derived.Test.YtmlajcbabimkjaaZW24
import Derived.Test.YtmlajcbabimkjaaZW15
import Derived.Test.YtmlajcbabimkjaaZW14
import Derived.Deep.DeepCutAuto
import Derived.Test.YtmlajcbabimkjaaZW5
import Derived.Laws.CopyOwn
import Derived.Test.YtmlajcbabimkjaaZW16
import Derived.Lib.Bytealg
import Derived.Lib.BytesEntry
import Derived.Test.YtmlajcbabimkjaaZW20
import Derived.Test.YtmlajcbabimkjaaZW13
import Derived.Shelf.SlSortCmp.NoneTotal
import Derived.Laws.StructEq
/-
  Three accounts, and what is wrong with them (plain).
  Conditions: none.
-/
namespace Go.Proofs.Ytmlajcbabimkjaa
set_option linter.unusedVariables false
open Go.RowKit Mono Rlp
namespace E
theorem rich_length : rich.length = 32 := by decide +kernel
theorem ofW1_length : (ofW 1).length = 32 := by decide +kernel
theorem hash_n1 : hash (nameA 1) = Kec.ad1Hash := Kec.ad1_hash
theorem hash_n2 : hash (nameA 2) = Kec.ad2Hash := Kec.ad2_hash
theorem hash_n3 : hash (nameA 3) = Kec.ad3Hash := Kec.ad3_hash
theorem errA_one {l : List Acc} (h : prE l [] = 1) : errA l = 1 := by
  unfold errA
  rw [if_neg (by omega), h]
theorem lenE_pos (n : Int) (w r c : List UInt8) : (Rlp.E (bodyI n w r c)).isEmpty = false := by
  unfold bodyI
  rw [Rlp.E]
  unfold Rlp.head
  split <;> rfl
theorem errA_zero {l : List Acc} (h : prE l [] = 0) (hw : ∀ x ∈ l, x.n ≤ 9223372036854775807 ∧ x.w.length = 32) (hn : (l.map fun x => split (hash x.a)).Nodup) (hl : l.length ≤ 100000) : errA l = 0 := by
  unfold errA
  rw [if_pos h]
  unfold errP
  rw [if_neg, if_neg, if_pos]
  · rwa [List.map_map, List.map_map]
  · intro h1
    obtain ⟨p, hp, h2⟩ := List.any_eq_true.1 h1
    obtain ⟨x, hx, rfl⟩ := List.mem_map.1 hp
    rw [show (acP x).2 = Rlp.E (bodyI x.n x.w (slRoot x.sl) (hash x.cd)) from rfl, lenE_pos] at h2
    cases h2
  · rintro (h1 | h1)
    · rw [List.length_map] at h1
      omega
    · obtain ⟨p, hp, h2⟩ := List.any_eq_true.1 h1
      obtain ⟨x, hx, rfl⟩ := List.mem_map.1 hp
      have h3 := body_len x.n (hw x hx).1 x.w (slRoot x.sl) (hash x.cd) (hw x hx).2 (slRoot_length _) (hash_length _)
      unfold lg acP at h2
      dsimp only at h2
      rw [hash_length] at h2
      rw [decide_eq_false (by omega), decide_eq_false (by omega)] at h2
      cases h2
theorem nodup3 : [split Kec.ad1Hash, split Kec.ad2Hash, split Kec.ad3Hash].Nodup := by decide +kernel
theorem nodup3' : [split Kec.ad2Hash, split Kec.ad1Hash, split Kec.ad3Hash].Nodup := by decide +kernel
theorem one_gen (a cd : List UInt8) (h : cd.length ≤ 24576) : Acc.one ⟨a, 0, rich, cd, []⟩ = true := by
  have h2 : (rich == zero32) = false := by decide +kernel
  unfold Acc.one Acc.empty
  dsimp only
  rw [decide_eq_true (show (cd.length : Int) ≤ 24576 by omega), h2]
  rfl
theorem may_big (a : List UInt8) (n : Int) (w cd : List UInt8) (h : cd.length = 24577) : Acc.one ⟨a, n, w, cd, []⟩ = false := by
  unfold Acc.one
  dsimp only
  rw [decide_eq_false (show ¬ (cd.length : Int) ≤ 24576 by omega), Bool.and_false, Bool.false_and]
theorem ris12 : risK (some (nameA 1)) (nameA 2) = true := by decide +kernel
theorem ris23 : risK (some (nameA 2)) (nameA 3) = true := by decide +kernel
def ac0 : List Acc := [⟨nameA 1, 0, rich, [], []⟩, ⟨nameA 2, 0, rich, [], []⟩, ⟨nameA 3, 0, rich, codeG, []⟩]
theorem ok0 : ∀ x ∈ ac0, x.ok := by
  intro x hx
  simp only [ac0, List.mem_cons, List.not_mem_nil, or_false] at hx
  rcases hx with rfl | rfl | rfl
  all_goals exact ⟨rfl, by dsimp only; decide, by dsimp only; decide, by first | exact rich_length | rfl, by first | (intro s hs; cases hs; done) | (intro s hs; simp only [List.mem_cons, List.not_mem_nil, or_false] at hs; (repeat rcases hs with rfl | hs) ; all_goals first | exact ⟨ofW1_length, ofW1_length⟩ | exact ⟨ofW1_length, rfl⟩ | (subst hs; first | exact ⟨ofW1_length, ofW1_length⟩ | exact ⟨ofW1_length, rfl⟩)), by dsimp only; decide⟩
theorem er0 : errA (ac0) = 0 := by
  refine errA_zero (by decide +kernel) (fun x hx => ?_) ?_ (Nat.le_of_ble_eq_true rfl)
  · exact ⟨(ok0 x hx).n1, (ok0 x hx).w⟩
  · show [split (hash (nameA 1)), split (hash (nameA 2)), split (hash (nameA 3))].Nodup
    rw [hash_n1, hash_n2, hash_n3]
    exact nodup3
theorem my0 : accM none (ac0) = true := by
  unfold ac0
  rw [accM_cons, accM_cons, accM_cons, one_gen _ _ (by decide), one_gen _ _ (by decide), one_gen _ _ (by decide), ris12, ris23]
  rfl
def ac1 : List Acc := [⟨nameA 1, 0, rich, [], []⟩, ⟨nameA 2, -1, rich, [], []⟩, ⟨nameA 3, 0, rich, codeG, []⟩]
theorem ok1 : ∀ x ∈ ac1, x.ok := by
  intro x hx
  simp only [ac1, List.mem_cons, List.not_mem_nil, or_false] at hx
  rcases hx with rfl | rfl | rfl
  all_goals exact ⟨rfl, by dsimp only; decide, by dsimp only; decide, by first | exact rich_length | rfl, by first | (intro s hs; cases hs; done) | (intro s hs; simp only [List.mem_cons, List.not_mem_nil, or_false] at hs; (repeat rcases hs with rfl | hs) ; all_goals first | exact ⟨ofW1_length, ofW1_length⟩ | exact ⟨ofW1_length, rfl⟩ | (subst hs; first | exact ⟨ofW1_length, ofW1_length⟩ | exact ⟨ofW1_length, rfl⟩)), by dsimp only; decide⟩
theorem er1 : errA ac1 = 1 := errA_one (by decide +kernel)
theorem my1 : accM none ac1 = false := by decide +kernel
def ac2 : List Acc := [⟨nameA 1, 0, rich, [], []⟩, ⟨nameA 1, 0, rich, [], []⟩, ⟨nameA 3, 0, rich, codeG, []⟩]
theorem ok2 : ∀ x ∈ ac2, x.ok := by
  intro x hx
  simp only [ac2, List.mem_cons, List.not_mem_nil, or_false] at hx
  rcases hx with rfl | rfl | rfl
  all_goals exact ⟨rfl, by dsimp only; decide, by dsimp only; decide, by first | exact rich_length | rfl, by first | (intro s hs; cases hs; done) | (intro s hs; simp only [List.mem_cons, List.not_mem_nil, or_false] at hs; (repeat rcases hs with rfl | hs) ; all_goals first | exact ⟨ofW1_length, ofW1_length⟩ | exact ⟨ofW1_length, rfl⟩ | (subst hs; first | exact ⟨ofW1_length, ofW1_length⟩ | exact ⟨ofW1_length, rfl⟩)), by dsimp only; decide⟩
theorem er2 : errA ac2 = 1 := errA_one (by decide +kernel)
theorem my2 : accM none ac2 = false := by decide +kernel
def ac3 : List Acc := [⟨nameA 1, 0, rich, [], []⟩, ⟨nameA 2, 0, rich, [], []⟩, ⟨nameA 3, 0, rich, codeG, [(ofW 1, ofW 1), (ofW 1, ofW 1)]⟩]
theorem ok3 : ∀ x ∈ ac3, x.ok := by
  intro x hx
  simp only [ac3, List.mem_cons, List.not_mem_nil, or_false] at hx
  rcases hx with rfl | rfl | rfl
  all_goals exact ⟨rfl, by dsimp only; decide, by dsimp only; decide, by first | exact rich_length | rfl, by first | (intro s hs; cases hs; done) | (intro s hs; simp only [List.mem_cons, List.not_mem_nil, or_false] at hs; (repeat rcases hs with rfl | hs) ; all_goals first | exact ⟨ofW1_length, ofW1_length⟩ | exact ⟨ofW1_length, rfl⟩ | (subst hs; first | exact ⟨ofW1_length, ofW1_length⟩ | exact ⟨ofW1_length, rfl⟩)), by dsimp only; decide⟩
theorem er3 : errA ac3 = 1 := errA_one (by decide +kernel)
theorem my3 : accM none ac3 = false := by decide +kernel
def ac4 : List Acc := [⟨nameA 1, 0, rich, [], []⟩, ⟨nameA 2, 0, rich, [], []⟩, ⟨nameA 3, 0, rich, codeG, [(ofW 1, zero32)]⟩]
theorem ok4 : ∀ x ∈ ac4, x.ok := by
  intro x hx
  simp only [ac4, List.mem_cons, List.not_mem_nil, or_false] at hx
  rcases hx with rfl | rfl | rfl
  all_goals exact ⟨rfl, by dsimp only; decide, by dsimp only; decide, by first | exact rich_length | rfl, by first | (intro s hs; cases hs; done) | (intro s hs; simp only [List.mem_cons, List.not_mem_nil, or_false] at hs; (repeat rcases hs with rfl | hs) ; all_goals first | exact ⟨ofW1_length, ofW1_length⟩ | exact ⟨ofW1_length, rfl⟩ | (subst hs; first | exact ⟨ofW1_length, ofW1_length⟩ | exact ⟨ofW1_length, rfl⟩)), by dsimp only; decide⟩
theorem er4 : errA (ac4) = 0 := by
  refine errA_zero (by decide +kernel) (fun x hx => ?_) ?_ (Nat.le_of_ble_eq_true rfl)
  · exact ⟨(ok4 x hx).n1, (ok4 x hx).w⟩
  · show [split (hash (nameA 1)), split (hash (nameA 2)), split (hash (nameA 3))].Nodup
    rw [hash_n1, hash_n2, hash_n3]
    exact nodup3
theorem my4 : accM none ac4 = false := by decide +kernel
def ac5 : List Acc := [⟨nameA 2, 0, rich, [], []⟩, ⟨nameA 1, 0, rich, [], []⟩, ⟨nameA 3, 0, rich, codeG, []⟩]
theorem ok5 : ∀ x ∈ ac5, x.ok := by
  intro x hx
  simp only [ac5, List.mem_cons, List.not_mem_nil, or_false] at hx
  rcases hx with rfl | rfl | rfl
  all_goals exact ⟨rfl, by dsimp only; decide, by dsimp only; decide, by first | exact rich_length | rfl, by first | (intro s hs; cases hs; done) | (intro s hs; simp only [List.mem_cons, List.not_mem_nil, or_false] at hs; (repeat rcases hs with rfl | hs) ; all_goals first | exact ⟨ofW1_length, ofW1_length⟩ | exact ⟨ofW1_length, rfl⟩ | (subst hs; first | exact ⟨ofW1_length, ofW1_length⟩ | exact ⟨ofW1_length, rfl⟩)), by dsimp only; decide⟩
theorem er5 : errA (ac5) = 0 := by
  refine errA_zero (by decide +kernel) (fun x hx => ?_) ?_ (Nat.le_of_ble_eq_true rfl)
  · exact ⟨(ok5 x hx).n1, (ok5 x hx).w⟩
  · show [split (hash (nameA 2)), split (hash (nameA 1)), split (hash (nameA 3))].Nodup
    rw [hash_n1, hash_n2, hash_n3]
    exact nodup3'
theorem my5 : accM none ac5 = false := by decide +kernel
def ac6 : List Acc := [⟨nameA 1, 0, rich, [], []⟩, ⟨nameA 2, 0, zero32, [], []⟩, ⟨nameA 3, 0, rich, codeG, []⟩]
theorem ok6 : ∀ x ∈ ac6, x.ok := by
  intro x hx
  simp only [ac6, List.mem_cons, List.not_mem_nil, or_false] at hx
  rcases hx with rfl | rfl | rfl
  all_goals exact ⟨rfl, by dsimp only; decide, by dsimp only; decide, by first | exact rich_length | rfl, by first | (intro s hs; cases hs; done) | (intro s hs; simp only [List.mem_cons, List.not_mem_nil, or_false] at hs; (repeat rcases hs with rfl | hs) ; all_goals first | exact ⟨ofW1_length, ofW1_length⟩ | exact ⟨ofW1_length, rfl⟩ | (subst hs; first | exact ⟨ofW1_length, ofW1_length⟩ | exact ⟨ofW1_length, rfl⟩)), by dsimp only; decide⟩
theorem er6 : errA (ac6) = 0 := by
  refine errA_zero (by decide +kernel) (fun x hx => ?_) ?_ (Nat.le_of_ble_eq_true rfl)
  · exact ⟨(ok6 x hx).n1, (ok6 x hx).w⟩
  · show [split (hash (nameA 1)), split (hash (nameA 2)), split (hash (nameA 3))].Nodup
    rw [hash_n1, hash_n2, hash_n3]
    exact nodup3
theorem my6 : accM none ac6 = false := by decide +kernel
def ac7 (c : List UInt8) : List Acc := [⟨nameA 1, 0, rich, [], []⟩, ⟨nameA 2, 0, rich, c, []⟩, ⟨nameA 3, 0, rich, codeG, []⟩]
theorem ok7 (c : List UInt8) : ∀ x ∈ ac7 c, x.ok := by
  intro x hx
  simp only [ac7, List.mem_cons, List.not_mem_nil, or_false] at hx
  rcases hx with rfl | rfl | rfl
  all_goals exact ⟨rfl, by dsimp only; decide, by dsimp only; decide, by first | exact rich_length | rfl, by first | (intro s hs; cases hs; done) | (intro s hs; simp only [List.mem_cons, List.not_mem_nil, or_false] at hs; (repeat rcases hs with rfl | hs) ; all_goals first | exact ⟨ofW1_length, ofW1_length⟩ | exact ⟨ofW1_length, rfl⟩ | (subst hs; first | exact ⟨ofW1_length, ofW1_length⟩ | exact ⟨ofW1_length, rfl⟩)), by dsimp only; decide⟩
theorem er7 (c : List UInt8) : errA (ac7 c) = 0 := by
  refine errA_zero (by rfl) (fun x hx => ?_) ?_ (Nat.le_of_ble_eq_true rfl)
  · exact ⟨(ok7 c x hx).n1, (ok7 c x hx).w⟩
  · show [split (hash (nameA 1)), split (hash (nameA 2)), split (hash (nameA 3))].Nodup
    rw [hash_n1, hash_n2, hash_n3]
    exact nodup3
theorem my7 (c : List UInt8) (hc : c.length = 24577) : accM none (ac7 c) = false := by
  unfold ac7
  rw [accM_cons, accM_cons, may_big _ _ _ _ hc, Bool.false_and, Bool.false_and, Bool.and_false]
def ac8 (c : List UInt8) : List Acc := [⟨nameA 1, 0, rich, [], []⟩, ⟨nameA 2, 0, rich, c, []⟩, ⟨nameA 3, 0, rich, codeG, []⟩]
theorem ok8 (c : List UInt8) : ∀ x ∈ ac8 c, x.ok := by
  intro x hx
  simp only [ac8, List.mem_cons, List.not_mem_nil, or_false] at hx
  rcases hx with rfl | rfl | rfl
  all_goals exact ⟨rfl, by dsimp only; decide, by dsimp only; decide, by first | exact rich_length | rfl, by first | (intro s hs; cases hs; done) | (intro s hs; simp only [List.mem_cons, List.not_mem_nil, or_false] at hs; (repeat rcases hs with rfl | hs) ; all_goals first | exact ⟨ofW1_length, ofW1_length⟩ | exact ⟨ofW1_length, rfl⟩ | (subst hs; first | exact ⟨ofW1_length, ofW1_length⟩ | exact ⟨ofW1_length, rfl⟩)), by dsimp only; decide⟩
theorem er8 (c : List UInt8) : errA (ac8 c) = 0 := by
  refine errA_zero (by rfl) (fun x hx => ?_) ?_ (Nat.le_of_ble_eq_true rfl)
  · exact ⟨(ok8 c x hx).n1, (ok8 c x hx).w⟩
  · show [split (hash (nameA 1)), split (hash (nameA 2)), split (hash (nameA 3))].Nodup
    rw [hash_n1, hash_n2, hash_n3]
    exact nodup3
theorem my8 (c : List UInt8) (hc : c.length = 24576) : accM none (ac8 c) = true := by
  unfold ac8
  rw [accM_cons, accM_cons, accM_cons, one_gen _ _ (by decide), one_gen _ _ (by omega), one_gen _ _ (by decide), ris12, ris23]
  rfl
end E
end Go.Proofs.Ytmlajcbabimkjaa
/-
  rlp: the length that a head says.
  Conditions: the bytes are at most 2^46.
-/
namespace Go.Proofs.Ytmlajcbabimkjaa
open Go.RowKit Mono Rlp
end Go.Proofs.Ytmlajcbabimkjaa
/-
  rlp: what bytes are read as.
  Conditions: the bytes are at most 2^46.
-/
namespace Go.Proofs.Ytmlajcbabimkjaa
set_option linter.unusedVariables false
open Go.RowKit Mono Rlp
def zItem : Value := .agg #[.bool false, .slice none 0 0, .slice none 0 0]
def ReadV (B m : Nat) (b : List UInt8) : VP := fun v w => match parse m b with
  | .ok (x, n) => ∃ vi, v = .tuple #[vi, .int .i64 (n : Int), .int .i64 0] ∧ ItemIn (fun k => B ≤ k ∧ k < w.heap.size) w vi x
  | .error e => v = .tuple #[zItem, .int .i64 0, .int .i64 (e : Int)]
end Go.Proofs.Ytmlajcbabimkjaa
/-
  rlp: what bytes are read as: lists.
  Conditions: the bytes are at most 2^24.
-/
namespace Go.Proofs.Ytmlajcbabimkjaa
set_option linter.unusedVariables false
open Go.RowKit Mono Rlp
end Go.Proofs.Ytmlajcbabimkjaa
/-
  The reference: what bytes are read as.
  Conditions: the bytes are at most 2^24. Printed by wip/tools/part.py.
-/
namespace Go.Proofs.Ytmlajcbabimkjaa
set_option linter.unusedVariables false
open Go.RowKit Mono Rlp
end Go.Proofs.Ytmlajcbabimkjaa
/-
  The reference: what bytes are read as: lists.
  Conditions: the bytes are at most 2^24. Printed by wip/tools/part.py.
-/
namespace Go.Proofs.Ytmlajcbabimkjaa
set_option linter.unusedVariables false
open Go.RowKit Mono Rlp
end Go.Proofs.Ytmlajcbabimkjaa
/-
  Read, the program's.
  Conditions: none.
-/
namespace Go.Proofs.Ytmlajcbabimkjaa
set_option linter.unusedVariables false
open Go.RowKit Mono Rlp
end Go.Proofs.Ytmlajcbabimkjaa
/-
  Numbers and words as items: the functions of rlp and of the reference.
  Conditions: none.
-/
namespace Go.Proofs.Ytmlajcbabimkjaa
set_option linter.unusedVariables false
open Go.RowKit Mono Rlp
end Go.Proofs.Ytmlajcbabimkjaa
/-
  Words of items: rlp.Word and the reference's WordOf.
  Conditions: none.
-/
namespace Go.Proofs.Ytmlajcbabimkjaa
set_option linter.unusedVariables false
open Go.RowKit Mono Rlp
end Go.Proofs.Ytmlajcbabimkjaa
/-
  Words of items: the reference's WordOf.
  Conditions: none.
-/
namespace Go.Proofs.Ytmlajcbabimkjaa
set_option linter.unusedVariables false
open Go.RowKit Mono Rlp
end Go.Proofs.Ytmlajcbabimkjaa
/-
  Words as numbers: the reference's Int, IntOf.
  Conditions: none.
-/
namespace Go.Proofs.Ytmlajcbabimkjaa
set_option linter.unusedVariables false
open Go.RowKit Mono Rlp
end Go.Proofs.Ytmlajcbabimkjaa
/-
  bytes.Compare, trie.Compare, Less: the order of bytes.
  Conditions: none.
-/
namespace Go.Proofs.Ytmlajcbabimkjaa
set_option linter.unusedVariables false
open Go.RowKit Mono Rlp
end Go.Proofs.Ytmlajcbabimkjaa
/-
  What the functions of rlp and of the reference yield of items.
  Conditions: none.
-/
namespace Go.Proofs.Ytmlajcbabimkjaa
set_option linter.unusedVariables false
open Go.RowKit Mono Rlp
namespace E
end E
end Go.Proofs.Ytmlajcbabimkjaa
/-
  Bodies: acct.Read and the reference's ReadBody.
  Conditions: none.
-/
namespace Go.Proofs.Ytmlajcbabimkjaa
set_option linter.unusedVariables false
open Go.RowKit Mono Rlp
namespace E
end E
end Go.Proofs.Ytmlajcbabimkjaa
/-
  Bodies: the reference's ReadBody.
  Conditions: none.
-/
namespace Go.Proofs.Ytmlajcbabimkjaa
set_option linter.unusedVariables false
open Go.RowKit Mono Rlp
namespace E
end E
end Go.Proofs.Ytmlajcbabimkjaa
/-
  The root of no accounts.
  Conditions: none.
-/
namespace Go.Proofs.Ytmlajcbabimkjaa
set_option linter.unusedVariables false
open Go.RowKit Mono Rlp Wd
namespace E
theorem f_sortP0 : Fn 93 [.v (.slice none 0 0), .v (.func (.func 94) #[] #[])] (· = .tpl []) := ⟨fun ok w xs hok hr => by
  obtain ⟨x1, _, rfl, hx1, x2, _, rfl, hx2, rfl⟩ := hr
  obtain rfl := (readV_v.1 hx1).2
  obtain rfl := (readV_v.1 hx2).2
  refine (AnyF.slices_SortFunc_none sortPair none 0 (.func (.func 94) #[] #[]) w).mono ?_
  rintro e w' ⟨rfl, rfl⟩
  exact ⟨.refl _, _, _, rfl, rfl, [], rfl, rfl⟩⟩
theorem f_index0 (F : Value) (hF : F.oneCell' = true) : Fn 113 [.v (.slice none 0 0), .v F] (· = .val (.v (.int .i64 (-1)))) := by
  refine Fn.walk 19 Try.func113 rfl Try.ntmps113 (by simp) fun X => ?_
  repeat
    (first
     | (apply P_move; (iterate 3 exact rfl)) | (apply P_assign; (iterate 3 exact rfl)) | (apply P_lenv; (iterate 4 exact rfl)) | apply EL.nil | ((with_reducible apply EK.then_normal); apply EK.code)
     | (with_reducible first | apply EC.seq | apply EC.region | apply EC.skip | apply EC.label | apply EC.block | apply EC.exit | apply EC.ret | apply EK.in_normal | apply EK.in_same | apply EK.in_ret | apply EK.then_ret | apply EK.then_exit))
  refine EC.loopN 1 (EK.round ?_)
  repeat
    (first
     | (apply P_assign; (iterate 3 exact rfl)) | (apply P_cmp (b := false); (iterate 2 exact rfl); (focus (first | (simp [cmpI]; done) | (simp [cmpI]; omega))); (iterate 2 exact rfl)) | apply EL.nil
     | ((with_reducible apply EK.then_normal); apply EK.code) | (apply EC.cond_false; exact rfl)
     | (with_reducible first | apply EC.seq | apply EC.region | apply EC.skip | apply EC.label | apply EC.block | apply EC.exit | apply EC.ret | apply EK.in_normal | apply EK.in_same | apply EK.in_ret | apply EK.then_ret | apply EK.then_exit))
  exact EK.ret1 rfl rfl rfl
theorem f_contains0 (F : Value) (hF : F.oneCell' = true) : Fn 89 [.v (.slice none 0 0), .v F] (· = .val (.v (.bool false))) := by
  have h1 := f_index0 F hF
  refine Fn.walk 9 Try.func89 rfl Try.ntmps89 (by simp) fun X => ?_
  repeat
    (first
     | (apply P_call (h1); exact rfl; (focus (repeat first | exact RefineL.refl _ _ | exact RL.nil | exact Rf.same | exact Rf.bs0 | exact Rf.sl0 | (apply Rf.fact; (focus (simp; done)); exact rfl) | apply Rf.tup | apply RL.cons)); (focus (intro _ _; simp [go_sem]; done)); (iterate 2 exact rfl))
     | (apply P_move; (iterate 3 exact rfl)) | (apply P_assign; (iterate 3 exact rfl))
     | (apply P_cmp (b := false); (iterate 2 exact rfl); (focus (first | (simp [cmpI]; done) | (simp [cmpI]; omega))); (iterate 2 exact rfl)) | apply EL.nil
     | ((with_reducible apply EK.then_normal); apply EK.code)
     | (with_reducible first | apply EC.seq | apply EC.region | apply EC.skip | apply EC.label | apply EC.block | apply EC.exit | apply EC.ret | apply EK.in_normal | apply EK.in_same | apply EK.in_ret | apply EK.then_ret | apply EK.then_exit))
  exact EK.ret1 rfl rfl rfl
theorem f_pairs0 : Fn 60 [.v (.slice none 0 0)] (· = .tpl [.v (.slice none 0 0), .v (.int .i64 0)]) := by
  have h1 := f_contains0 (.func (.func 90) #[] #[]) rfl
  have h2 := f_sortP0
  refine Fn.walk 56 Try.func60 rfl Try.ntmps60 (by simp) fun X => ?_
  repeat
    (first
     | (apply P_call (h1); exact rfl; (focus (repeat first | exact RefineL.refl _ _ | exact RL.nil | exact Rf.same | exact Rf.bs0 | exact Rf.sl0 | (apply Rf.fact; (focus (simp; done)); exact rfl) | apply Rf.tup | apply RL.cons)); (focus (intro _ _; simp [go_sem]; done)); (iterate 2 exact rfl))
     | (apply P_move; (iterate 3 exact rfl)) | (apply P_assign; (iterate 3 exact rfl)) | (apply P_pick; (iterate 4 exact rfl))
     | (apply P_cmp (b := false); (iterate 2 exact rfl); (focus (first | (simp [cmpI]; done) | (simp [cmpI]; omega))); (iterate 2 exact rfl)) | (apply P_lenv; (iterate 4 exact rfl)) | apply EL.nil
     | ((with_reducible apply EK.then_normal); apply EK.code) | (apply EC.cond_false; exact rfl)
     | (with_reducible first | apply EC.seq | apply EC.region | apply EC.skip | apply EC.label | apply EC.block | apply EC.exit | apply EC.ret | apply EK.in_normal | apply EK.in_same | apply EK.in_ret | apply EK.then_ret | apply EK.then_exit))
  refine EC.loopN 1 (EK.round ?_)
  repeat
    (first
     | (apply P_call (h2); exact rfl; (focus (repeat first | exact RefineL.refl _ _ | exact RL.nil | exact Rf.same | exact Rf.bs0 | exact Rf.sl0 | (apply Rf.fact; (focus (simp; done)); exact rfl) | apply Rf.tup | apply RL.cons)); (focus (intro _ _; simp [go_sem]; done)); (iterate 2 exact rfl))
     | (apply P_move; (iterate 3 exact rfl)) | (apply P_assign; (iterate 3 exact rfl))
     | (apply P_cmp (b := false); (iterate 2 exact rfl); (focus (first | (simp [cmpI]; done) | (simp [cmpI]; omega))); (iterate 2 exact rfl)) | apply EL.nil
     | ((with_reducible apply EK.then_normal); apply EK.code) | (apply EC.cond_false; exact rfl)
     | (with_reducible first | apply EC.seq | apply EC.region | apply EC.skip | apply EC.label | apply EC.block | apply EC.exit | apply EC.ret | apply EK.in_normal | apply EK.in_same | apply EK.in_ret | apply EK.then_ret | apply EK.then_exit))
  refine EC.loopN 1 (EK.round ?_)
  repeat
    (first
     | (apply P_move; (iterate 3 exact rfl)) | (apply P_assign; (iterate 3 exact rfl))
     | (apply P_cmp (b := false); (iterate 2 exact rfl); (focus (first | (simp [cmpI]; done) | (simp [cmpI]; omega))); (iterate 2 exact rfl)) | (apply P_lenv; (iterate 4 exact rfl)) | apply EL.nil
     | ((with_reducible apply EK.then_normal); apply EK.code) | (apply EC.cond_false; exact rfl)
     | (with_reducible first | apply EC.seq | apply EC.region | apply EC.skip | apply EC.label | apply EC.block | apply EC.exit | apply EC.ret | apply EK.in_normal | apply EK.in_same | apply EK.in_ret | apply EK.then_ret | apply EK.then_exit))
  exact EK.ret2 rfl rfl rfl rfl
theorem f_build0 : Fn 61 [.v (.slice none 0 0), .v (.int .i64 0)] (· = .val (.v .nilIface)) := by
  refine Fn.walk 114 Try.func61 rfl Try.ntmps61 (by simp) fun X => ?_
  repeat
    (first
     | (apply P_move; (iterate 3 exact rfl)) | (apply P_assign; (iterate 3 exact rfl))
     | (apply P_cmp (b := true); (iterate 2 exact rfl); (focus (first | (simp [cmpI]; done) | (simp [cmpI]; omega))); (iterate 2 exact rfl)) | (apply P_lenv; (iterate 4 exact rfl)) | apply EL.nil
     | ((with_reducible apply EK.then_normal); apply EK.code) | (apply EC.cond_true; exact rfl)
     | (with_reducible first | apply EC.seq | apply EC.region | apply EC.skip | apply EC.label | apply EC.block | apply EC.exit | apply EC.ret | apply EK.in_normal | apply EK.in_same | apply EK.in_ret | apply EK.then_ret | apply EK.then_exit))
  exact EK.ret1 rfl rfl rfl
theorem f_tree0 : Fn 32 [.v (.slice none 0 0)] (· = .tpl [.v .nilIface, .v (.int .i64 0)]) := by
  have h1 := f_pairs0
  have h2 := f_build0
  refine Fn.walk 16 Try.func32 rfl Try.ntmps32 (by simp) fun X => ?_
  repeat
    (first
     | (apply P_call (h1); exact rfl; (focus (repeat first | exact RefineL.refl _ _ | exact RL.nil | exact Rf.same | exact Rf.bs0 | exact Rf.sl0 | (apply Rf.fact; (focus (simp; done)); exact rfl) | apply Rf.tup | apply RL.cons)); (focus (intro _ _; simp [go_sem]; done)); (iterate 2 exact rfl))
     | (apply P_call (h2); exact rfl; (focus (repeat first | exact RefineL.refl _ _ | exact RL.nil | exact Rf.same | exact Rf.bs0 | exact Rf.sl0 | (apply Rf.fact; (focus (simp; done)); exact rfl) | apply Rf.tup | apply RL.cons)); (focus (intro _ _; simp [go_sem]; done)); (iterate 2 exact rfl))
     | (apply P_move; (iterate 3 exact rfl)) | (apply P_assign; (iterate 3 exact rfl)) | (apply P_extract; (iterate 4 exact rfl))
     | (apply P_cmp (b := false); (iterate 2 exact rfl); (focus (first | (simp [cmpI]; done) | (simp [cmpI]; omega))); (iterate 2 exact rfl)) | apply EL.nil
     | ((with_reducible apply EK.then_normal); apply EK.code) | (apply EC.cond_false; exact rfl)
     | (with_reducible first | apply EC.seq | apply EC.region | apply EC.skip | apply EC.label | apply EC.block | apply EC.exit | apply EC.ret | apply EK.in_normal | apply EK.in_same | apply EK.in_ret | apply EK.then_ret | apply EK.then_exit))
  exact EK.ret2 rfl rfl rfl rfl
theorem bin_ifcnil : Bin .eql 80 (.v .nilIface) (.v .nilIface) (.bool true) := by
  refine ⟨rfl, fun ok w p q hp hq => ?_⟩
  obtain rfl := (readV_v.1 hp).2
  obtain rfl := (readV_v.1 hq).2
  exact ⟨fun x y => by cases x <;> cases y <;> kernel_rfl, by kernel_rfl⟩
theorem f_shSum0 : Fn 33 [.v .nilIface] (· = .val (.arr 32 root0)) := by
  have h1 := f_shEmpty
  refine Fn.walk 19 Try.func33 rfl Try.ntmps33 (by simp) fun X => ?_
  repeat
    (first
     | (apply P_call (h1); exact rfl; (focus (repeat first | exact RefineL.refl _ _ | exact RL.nil | exact Rf.same | exact Rf.bs0 | exact Rf.sl0 | (apply Rf.fact; (focus (simp; done)); exact rfl) | apply Rf.tup | apply RL.cons)); (focus (intro _ _; simp [go_sem]; done)); (iterate 2 exact rfl))
     | (apply P_bin; (iterate 2 exact rfl); exact bin_ifcnil; (iterate 2 exact rfl)) | (apply P_move; (iterate 3 exact rfl)) | (apply P_alloc; exact rfl; exact rfl; exact rfl; intro _)
     | (apply P_store; exact rfl; (focus (repeat first | exact .z | apply SetAt.s | apply SetAtF.s)); (iterate 4 exact rfl)) | apply EL.nil | ((with_reducible apply EK.then_normal); apply EK.code)
     | (apply EC.cond_true; exact rfl)
     | (with_reducible first | apply EC.seq | apply EC.region | apply EC.skip | apply EC.label | apply EC.block | apply EC.exit | apply EC.ret | apply EK.in_normal | apply EK.in_same | apply EK.in_ret | apply EK.then_ret | apply EK.then_exit))
  refine EK.retc1r 0 rfl rfl rfl rfl ?_ rfl
  (repeat first | exact RefineL.refl _ _ | exact RL.nil | exact Rf.same | exact Rf.bs0 | exact Rf.sl0 | (apply Rf.fact; (focus (simp; done)); exact rfl) | apply Rf.tup | apply RL.cons)
theorem f_trieRoot0 : Fn 12 [.v (.slice none 0 0)] (· = .tpl [.arr 32 root0, .v (.int .i64 0)]) := by
  have h1 := f_tree0
  have h2 := f_shSum0
  refine Fn.walk 17 Try.func12 rfl Try.ntmps12 (by simp) fun X => ?_
  repeat
    (first
     | (apply P_call (h1); exact rfl; (focus (repeat first | exact RefineL.refl _ _ | exact RL.nil | exact Rf.same | exact Rf.bs0 | exact Rf.sl0 | (apply Rf.fact; (focus (simp; done)); exact rfl) | apply Rf.tup | apply RL.cons)); (focus (intro _ _; simp [go_sem]; done)); (iterate 2 exact rfl))
     | (apply P_call (h2); exact rfl; (focus (repeat first | exact RefineL.refl _ _ | exact RL.nil | exact Rf.same | exact Rf.bs0 | exact Rf.sl0 | (apply Rf.fact; (focus (simp; done)); exact rfl) | apply Rf.tup | apply RL.cons)); (focus (intro _ _; simp [go_sem]; done)); (iterate 2 exact rfl))
     | (apply P_move; (iterate 3 exact rfl)) | (apply P_assign; (iterate 3 exact rfl)) | (apply P_extract; (iterate 4 exact rfl))
     | (apply P_cmp (b := false); (iterate 2 exact rfl); (focus (first | (simp [cmpI]; done) | (simp [cmpI]; omega))); (iterate 2 exact rfl)) | (apply P_alloc; exact rfl; exact rfl; exact rfl; intro _)
     | (apply P_store; exact rfl; (focus (repeat first | exact .z | apply SetAt.s | apply SetAtF.s)); (iterate 4 exact rfl)) | apply EL.nil | ((with_reducible apply EK.then_normal); apply EK.code)
     | (apply EC.cond_false; exact rfl)
     | (with_reducible first | apply EC.seq | apply EC.region | apply EC.skip | apply EC.label | apply EC.block | apply EC.exit | apply EC.ret | apply EK.in_normal | apply EK.in_same | apply EK.in_ret | apply EK.then_ret | apply EK.then_exit))
  refine EK.retc2r 0 rfl rfl rfl rfl rfl ?_ rfl
  (repeat first | exact RefineL.refl _ _ | exact RL.nil | exact Rf.same | exact Rf.bs0 | exact Rf.sl0 | (apply Rf.fact; (focus (simp; done)); exact rfl) | apply Rf.tup | apply RL.cons)
theorem f_acctPairs0 : Fn 41 [.sl 55 []] (· = .tpl [.v (.slice none 0 0), .v (.int .i64 0)]) := by
  refine Fn.walk 64 Try.func41 rfl Try.ntmps41 (by simp) fun X => ?_
  repeat
    (first
     | (apply P_move; (iterate 3 exact rfl)) | (apply P_assign; (iterate 3 exact rfl)) | (apply P_lensl; (iterate 4 exact rfl)) | (apply P_makeMap; exact rfl; exact rfl; exact rfl; intro _) | apply EL.nil
     | ((with_reducible apply EK.then_normal); apply EK.code)
     | (with_reducible first | apply EC.seq | apply EC.region | apply EC.skip | apply EC.label | apply EC.block | apply EC.exit | apply EC.ret | apply EK.in_normal | apply EK.in_same | apply EK.in_ret | apply EK.then_ret | apply EK.then_exit))
  refine EC.loopN 1 (EK.round ?_)
  repeat
    (first
     | (apply P_move; (iterate 3 exact rfl)) | (apply P_assign; (iterate 3 exact rfl))
     | (apply P_cmp (b := false); (iterate 2 exact rfl); (focus (first | (simp [cmpI]; done) | (simp [cmpI]; omega))); (iterate 2 exact rfl)) | apply EL.nil
     | ((with_reducible apply EK.then_normal); apply EK.code) | (apply EC.cond_false; exact rfl)
     | (with_reducible first | apply EC.seq | apply EC.region | apply EC.skip | apply EC.label | apply EC.block | apply EC.exit | apply EC.ret | apply EK.in_normal | apply EK.in_same | apply EK.in_ret | apply EK.then_ret | apply EK.then_exit))
  exact EK.ret2 rfl rfl rfl rfl
theorem f_acctRoot0 : Fn 23 [.sl 55 []] (· = .tpl [.arr 32 root0, .v (.int .i64 0)]) := by
  have h1 := f_acctPairs0
  have h2 := f_trieRoot0
  refine Fn.walk 19 Try.func23 rfl Try.ntmps23 (by simp) fun X => ?_
  repeat
    (first
     | (apply P_call (h1); exact rfl; (focus (repeat first | exact RefineL.refl _ _ | exact RL.nil | exact Rf.same | exact Rf.bs0 | exact Rf.sl0 | (apply Rf.fact; (focus (simp; done)); exact rfl) | apply Rf.tup | apply RL.cons)); (focus (intro _ _; simp [go_sem]; done)); (iterate 2 exact rfl))
     | (apply P_call (h2); exact rfl; (focus (repeat first | exact RefineL.refl _ _ | exact RL.nil | exact Rf.same | exact Rf.bs0 | exact Rf.sl0 | (apply Rf.fact; (focus (simp; done)); exact rfl) | apply Rf.tup | apply RL.cons)); (focus (intro _ _; simp [go_sem]; done)); (iterate 2 exact rfl))
     | (apply P_move; (iterate 3 exact rfl)) | (apply P_assign; (iterate 3 exact rfl)) | (apply P_extract; (iterate 4 exact rfl))
     | (apply P_cmp (b := false); (iterate 2 exact rfl); (focus (first | (simp [cmpI]; done) | (simp [cmpI]; omega))); (iterate 2 exact rfl)) | (apply P_alloc; exact rfl; exact rfl; exact rfl; intro _)
     | (apply P_store; exact rfl; (focus (repeat first | exact .z | apply SetAt.s | apply SetAtF.s)); (iterate 4 exact rfl)) | apply EL.nil | ((with_reducible apply EK.then_normal); apply EK.code)
     | (apply EC.cond_false; exact rfl)
     | (with_reducible first | apply EC.seq | apply EC.region | apply EC.skip | apply EC.label | apply EC.block | apply EC.exit | apply EC.ret | apply EK.in_normal | apply EK.in_same | apply EK.in_ret | apply EK.then_ret | apply EK.then_exit))
  refine EK.retc2r 0 rfl rfl rfl rfl rfl ?_ rfl
  (repeat first | exact RefineL.refl _ _ | exact RL.nil | exact Rf.same | exact Rf.bs0 | exact Rf.sl0 | (apply Rf.fact; (focus (simp; done)); exact rfl) | apply Rf.tup | apply RL.cons)
end E
end Go.Proofs.Ytmlajcbabimkjaa
/-
  AcctBodies.
  Conditions: none.
-/
namespace Go.Proofs.Ytmlajcbabimkjaa
set_option linter.unusedVariables false
open Go.RowKit Mono Rlp
namespace E
theorem f_num9 (n : Int) : Fn 24 [.v (.int .i64 n)] (· = .val (.v (.int .i64 n))) := by
  refine Fn.walk 4 Try.func24 rfl Try.ntmps24 (by simp) fun X => ?_
  repeat
    (first
     | (apply P_move; (iterate 3 exact rfl)) | (apply P_assign; (iterate 3 exact rfl)) | apply EL.nil | ((with_reducible apply EK.then_normal); apply EK.code)
     | (with_reducible first | apply EC.seq | apply EC.region | apply EC.skip | apply EC.label | apply EC.block | apply EC.exit | apply EC.ret | apply EK.in_normal | apply EK.in_same | apply EK.in_ret | apply EK.then_ret | apply EK.then_exit))
  exact EK.ret1 rfl rfl rfl
set_option maxRecDepth 20000 in
set_option maxHeartbeats 4000000 in
theorem f_alive9 : Fn 20 [] (· = .val (.v (.bool true))) := by
  have h1 := f_acctRoot0
  have h2 := f_num9 0
  have h3 := f_rEmpty
  have hr := (bin_word root0 root0).1
  rw [show (root0 == root0) = true by simp] at hr
  refine Fn.walk 15 Try.func20 rfl Try.ntmps20 (by simp) fun X => ?_
  repeat
    (first
     | (apply P_call (h1); exact rfl; (focus (repeat first | exact RefineL.refl _ _ | exact RL.nil | exact Rf.same | exact Rf.bs0 | exact Rf.sl0 | (apply Rf.fact; (focus (simp; done)); exact rfl) | apply Rf.tup | apply RL.cons)); (focus (intro _ _; simp [go_sem]; done)); (iterate 2 exact rfl))
     | (apply P_move; (iterate 3 exact rfl)) | (apply P_assign; (iterate 3 exact rfl)) | (apply P_extract; (iterate 4 exact rfl)) | (apply P_alloc; exact rfl; exact rfl; exact rfl; intro _)
     | (apply P_store; exact rfl; (focus (repeat first | exact .z | apply SetAt.s | apply SetAtF.s)); (iterate 4 exact rfl)) | apply EL.nil | ((with_reducible apply EK.then_normal); apply EK.code)
     | (with_reducible first | apply EC.seq | apply EC.region | apply EC.skip | apply EC.label | apply EC.block | apply EC.exit | apply EC.ret | apply EK.in_normal | apply EK.in_same | apply EK.in_ret | apply EK.then_ret | apply EK.then_exit))
  refine EC.draw 8 (by kernel_rfl) ?_
  simp only [List.take_succ_cons, List.take_zero, List.drop_succ_cons, List.drop_zero]
  repeat
    (first
     | (apply H_call (h2); exact rfl; (focus (repeat first | exact RefineL.refl _ _ | exact RL.nil | exact Rf.same | exact Rf.bs0 | exact Rf.sl0 | (apply Rf.fact; (focus (simp; done)); exact rfl) | apply Rf.tup | apply RL.cons)); (focus (intro _ _; simp [go_sem]; done)); (iterate 2 exact rfl))
     | (apply H_call (h3); exact rfl; (focus (repeat first | exact RefineL.refl _ _ | exact RL.nil | exact Rf.same | exact Rf.bs0 | exact Rf.sl0 | (apply Rf.fact; (focus (simp; done)); exact rfl) | apply Rf.tup | apply RL.cons)); (focus (intro _ _; simp [go_sem]; done)); (iterate 2 exact rfl))
     | (apply H_bin; (iterate 2 exact rfl); exact hr; (iterate 2 exact rfl)) | (apply H_move; (iterate 3 exact rfl)) | (apply H_pick; (iterate 4 exact rfl))
     | (apply H_load; exact rfl; (first | exact I0 | exact I1 | exact I2 | exact I3 | exact I4 | exact I5 | exact I6); (iterate 4 exact rfl))
     | (apply H_cmp (b := true); (iterate 2 exact rfl); (focus (first | (simp [cmpI]; done) | (simp [cmpI]; omega))); (iterate 2 exact rfl)) | ((with_reducible apply EH.nil); exact rfl))
  repeat
    (first
     | (apply P_assign; (iterate 3 exact rfl)) | apply EL.nil | ((with_reducible apply EK.then_normal); apply EK.code)
     | (with_reducible first | apply EC.seq | apply EC.region | apply EC.skip | apply EC.label | apply EC.block | apply EC.exit | apply EC.ret | apply EK.in_normal | apply EK.in_same | apply EK.in_ret | apply EK.then_ret | apply EK.then_exit))
  exact EK.ret1 rfl rfl rfl
end E
end Go.Proofs.Ytmlajcbabimkjaa
