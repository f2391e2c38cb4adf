/-
  Merged (wip/tools/merge.py): TP4, ERet, AN0, TS1, SortP.
  Conditions: none.
-/
import Derived.Test.YtmlajcbabimkjaaGreatZO16
import Derived.Test.YtmlajcbabimkjaaGreatZO10
import Derived.Test.YtmlajcbabimkjaaGreatZO7
import Derived.Laws.Pointers
import Derived.Test.YtmlajcbabimkjaaGreatZO11
import Derived.Shelf.SlSortCmp.WholeK
import Derived.Shelf.SlSortCmp.NoneTotal
import Derived.Shelf.SlGeneric
import Derived.Ground.SlsfProg
import Derived.Test.YtmlajcbabimkjaaGreatRows
/-
  shape.Item of every node.
  Conditions: none.
-/
namespace Go.Proofs.YtmlajcbabimkjaaGreat
set_option linter.unusedVariables false
open Go.RowKit Mono Rlp
namespace E
theorem sizes_T (ks : Nat → Tn) (l : List Nat) : D.sizes (l.map fun i => dT (ks i)) = l.length := by
  induction l with
  | nil => rfl
  | cons i l ih => rw [List.map_cons, D.sizes, (dT_one _).1, ih, List.length_cons, Nat.add_comm]
theorem sub_one {d : D} (h : ∃ k : Tn, d = dT k) : d.sub 0 1 false = some d := by
  obtain ⟨k, rfl⟩ := h
  cases k <;> (rw [dT]; simp [D.sub])
theorem sub_ext0 (p : List UInt8) (k : Tn) : (D.tup [.bs p, dT k]).sub 0 1 false = some (.bs p) := by
  simp [D.sub, D.subL, D.size]
theorem sub_ext1 (p : List UInt8) (k : Tn) : (D.tup [.bs p, dT k]).sub 1 1 false = some (dT k) := by
  have := sub_one ⟨k, rfl⟩
  simp [D.sub, D.subL, D.size, (dT_one k).1, this]
theorem sub_br0 {ds : List D} (v : List UInt8) (h : D.sizes ds = 16) : (D.tup [.tup ds, .bs v]).sub 0 16 true = some (.tup ds) := by
  simp [D.sub, D.subL, D.size, D.sizes, h]
theorem sub_br1 {ds : List D} (v : List UInt8) (h : D.sizes ds = 16) : (D.tup [.tup ds, .bs v]).sub 16 1 false = some (.bs v) := by
  simp [D.sub, D.subL, D.size, D.sizes, h]
theorem sub_ks {ds : List D} (h : D.sizes ds = 16) : (D.tup ds).sub 0 16 true = some (.tup ds) := by
  simp [D.sub, h]
set_option maxRecDepth 20000 in
set_option maxHeartbeats 4000000 in
theorem item_leaf (p v : List UInt8) (hp : p.length ≤ 536870912) : Fn 107 [dT (.leaf p v)] (· = .val (dItem (itemT (.leaf p v)))) := by
  have h1 := f_pPack p true hp
  have h2 := f_texts2 (ppk p true) v
  rw [dT, itemT]
  refine Fn.walk 85 Tryz.func107 rfl Tryz.ntmps107 (by simp) fun X => ?_
  repeat
    (first
     | (apply P_call (h1); exact rfl; (focus (repeat first | exact RefineL.refl _ _ | exact RL.nil | exact Rf.same | exact Rf.bs0 | exact Rf.sl0 | (apply Rf.fact; (focus (simp; done)); exact rfl) | apply Rf.tup | apply RL.cons)); (focus (intro _ _; simp [go_sem]; done)); (iterate 2 exact rfl))
     | (apply P_call (h2); exact rfl; (focus (repeat first | exact RefineL.refl _ _ | exact RL.nil | exact Rf.same | exact Rf.bs0 | exact Rf.sl0 | (apply Rf.fact; (focus (simp; done)); exact rfl) | apply Rf.tup | apply RL.cons)); (focus (intro _ _; simp [go_sem]; done)); (iterate 2 exact rfl))
     | (apply P_move; (iterate 3 exact rfl)) | (apply P_assign; (iterate 3 exact rfl)) | (apply P_field; (iterate 6 exact rfl)) | (apply P_fieldpd; (iterate 7 exact rfl))
     | (apply P_extract; (iterate 4 exact rfl)) | (apply P_loadpd; (iterate 5 exact rfl))
     | (apply P_load; exact rfl; (first | exact I0 | exact I1 | exact I2 | exact I3 | exact I4 | exact I5 | exact I6); (iterate 4 exact rfl)) | (apply P_build; (iterate 7 exact rfl))
     | (apply P_lit; (iterate 9 exact rfl)) | (apply P_nilckpd; (iterate 3 exact rfl)) | (apply P_asYes; (iterate 4 exact rfl)) | (apply P_alloc; exact rfl; exact rfl; exact rfl; intro _)
     | (apply P_store; exact rfl; (focus (repeat first | exact .z | apply SetAt.s | apply SetAtF.s)); (iterate 4 exact rfl)) | apply EL.nil | ((with_reducible apply EK.then_normal); apply EK.code)
     | (apply EC.cond_true; exact rfl)
     | (with_reducible first | apply EC.seq | apply EC.region | apply EC.skip | apply EC.label | apply EC.block | apply EC.exit | apply EC.ret | apply EK.in_normal | apply EK.in_same | apply EK.in_ret | apply EK.then_ret | apply EK.then_exit))
  refine EK.retc1r 1 rfl rfl rfl rfl ?_ rfl
  (repeat first | exact RefineL.refl _ _ | exact RL.nil | exact Rf.same | exact Rf.bs0 | exact Rf.sl0 | (apply Rf.fact; (focus (simp; done)); exact rfl) | apply Rf.tup | apply RL.cons)
set_option maxRecDepth 20000 in
set_option maxHeartbeats 4000000 in
theorem item_ext (p : List UInt8) (k : Tn) (hp : p.length ≤ 536870912) (hk : Fn 132 [dT k] (· = .val (dItem (refT k)))) : Fn 107 [dT (.ext p k)] (· = .val (dItem (itemT (.ext p k)))) := by
  have h1 := f_pPack p false hp
  have h2 := texts1 (ppk p false)
  have he : itemT (.ext p k) = .mk true [] [.mk false (ppk p false) [], refT k] := by rw [itemT, refT]
  rw [he, dT]
  clear he
  generalize refT k = x at hk ⊢
  obtain ⟨xb, xl, xs⟩ := x
  rw [dItem] at hk
  rw [show dItem (.mk true [] [.mk false (ppk p false) [], .mk xb xl xs]) = .tup [.v (.bool true), .bs [], .sl 3 [dItem (.mk false (ppk p false) []), .tup [.v (.bool xb), .bs xl, .sl 3 (dItems xs)]]] from rfl]
  refine Fn.walk 85 Tryz.func107 rfl Tryz.ntmps107 (by simp) fun X => ?_
  repeat
    (first
     | (apply P_call (h1); exact rfl; (focus (repeat first | exact RefineL.refl _ _ | exact RL.nil | exact Rf.same | exact Rf.bs0 | exact Rf.sl0 | (apply Rf.fact; (focus (simp; done)); exact rfl) | apply Rf.tup | apply RL.cons)); (focus (intro _ _; simp [go_sem]; done)); (iterate 2 exact rfl))
     | (apply P_fieldpd; (iterate 4 exact rfl); exact sub_ext0 _ _; (iterate 2 exact rfl)) | (apply P_move; (iterate 3 exact rfl)) | (apply P_assign; (iterate 3 exact rfl))
     | (apply P_extract; (iterate 4 exact rfl)) | (apply P_loadpd; (iterate 5 exact rfl)) | (apply P_build; (iterate 7 exact rfl)) | (apply P_nilckpd; (iterate 3 exact rfl))
     | (apply P_asYes; (iterate 4 exact rfl)) | (apply P_asNo; (iterate 6 exact rfl)) | (apply P_alloc; exact rfl; exact rfl; exact rfl; intro _)
     | (apply P_store; exact rfl; (focus (repeat first | exact .z | apply SetAt.s | apply SetAtF.s)); (iterate 4 exact rfl)) | apply EL.nil | ((with_reducible apply EK.then_normal); apply EK.code)
     | (apply EC.cond_true; exact rfl) | (apply EC.cond_false; exact rfl)
     | (with_reducible first | apply EC.seq | apply EC.region | apply EC.skip | apply EC.label | apply EC.block | apply EC.exit | apply EC.ret | apply EK.in_normal | apply EK.in_same | apply EK.in_ret | apply EK.then_ret | apply EK.then_exit))
  refine EC.drawC 11 [0, 3, 4, 5, 6, 10] [1, 2, 7, 8, 9] [] _ (by kernel_rfl) (by kernel_rfl) rfl ?_
  simp only [pickL, List.filterMap_cons, List.filterMap_nil, List.getElem?_cons_zero, List.getElem?_cons_succ]
  repeat
    (first
     | (apply H_fieldpd; (iterate 4 exact rfl); exact sub_ext1 _ _; (iterate 2 exact rfl)) | (apply H_loadpd; (iterate 2 exact rfl); exact sub_one ⟨_, rfl⟩; (iterate 2 exact rfl))
     | (apply H_move; (iterate 3 exact rfl)) | (apply H_field; (iterate 6 exact rfl)) | (apply H_nilckpd; (iterate 3 exact rfl)))
  refine EM.nil ?_
  repeat (first | rw [List.cons_append] | rw [List.nil_append])
  refine CH.cut 1 ?_
  simp only [List.take_succ_cons, List.take_zero, List.drop_succ_cons, List.drop_zero]
  repeat
    (first
     | (apply H_lit; (iterate 9 exact rfl)))
  refine EM.nil ?_
  repeat (first | rw [List.cons_append] | rw [List.nil_append])
  refine CH.callM (os := []) (rest := []) h2 rfl rfl (RefineL.refl _ _) (by intro _ _; simp [go_sem]) rfl rfl ?_
  rintro _ _ ⟨v, rfl, rfl⟩
  try simp only [St.put]
  repeat (first | rw [List.cons_append] | rw [List.nil_append])
  refine CH.cut 2 ?_
  simp only [List.take_succ_cons, List.take_zero, List.drop_succ_cons, List.drop_zero]
  repeat
    (first
     | (apply H_call (hk); exact rfl; (focus (repeat first | exact RefineL.refl _ _ | exact RL.nil | exact Rf.same | exact Rf.bs0 | exact Rf.sl0 | (apply Rf.fact; (focus (simp; done)); exact rfl) | apply Rf.tup | apply RL.cons)); (focus (intro _ _; simp [go_sem]; done)); (iterate 2 exact rfl))
     | (apply H_lit; (iterate 9 exact rfl)))
  refine EM.nil ?_
  repeat (first | rw [List.cons_append] | rw [List.nil_append])
  refine CH.mut (os := [_]) (rest := []) rfl rfl (m_append rfl rfl rfl rfl rfl (by constructor <;> simp)) ?_
  rintro _ _ ⟨v', rfl, rfl⟩
  try simp only [St.put]
  repeat (first | rw [List.cons_append] | rw [List.nil_append])
  refine CH.nil ?_
  try simp only [List.drop_succ_cons, List.drop_zero]
  refine EL.le (Le.freeze (pre := []) rfl) ?_
  simp only [List.nil_append]
  repeat
    (first
     | (apply P_load; exact rfl; (first | exact I0 | exact I1 | exact I2 | exact I3 | exact I4 | exact I5 | exact I6); (iterate 4 exact rfl))
     | (apply P_store; exact rfl; (focus (repeat first | exact .z | apply SetAt.s | apply SetAtF.s)); (iterate 4 exact rfl)) | apply EL.nil | ((with_reducible apply EK.then_normal); apply EK.code)
     | (with_reducible first | apply EC.seq | apply EC.region | apply EC.skip | apply EC.label | apply EC.block | apply EC.exit | apply EC.ret | apply EK.in_normal | apply EK.in_same | apply EK.in_ret | apply EK.then_ret | apply EK.then_exit))
  refine EK.retc1r 1 rfl rfl rfl rfl ?_ rfl
  (repeat first | exact RefineL.refl _ _ | exact RL.nil | exact Rf.same | exact Rf.bs0 | exact Rf.sl0 | (apply Rf.fact; (focus (simp; done)); exact rfl) | apply Rf.tup | apply RL.cons)
set_option maxRecDepth 20000 in
set_option maxHeartbeats 8000000 in
theorem item_br (ks : Nat → Tn) (v : List UInt8) (hk : ∀ i, Fn 132 [dT (ks i)] (· = .val (dItem (refT (ks i))))) : Fn 107 [dT (.br ks v)] (· = .val (dItem (itemT (.br ks v)))) := by
  have h2 := f_texts1 v
  have he : itemT (.br ks v) = .mk true [] ((List.range 16).map (fun i => refT (ks i)) ++ [.mk false v []]) := by rw [itemT]; rfl
  have hsz : D.sizes ((List.range 16).map fun i => dT (ks i)) = 16 := by rw [sizes_T, List.length_range]
  have hat : ∀ i, i < 16 → ((List.range 16).map fun i => dT (ks i))[i]? = some (dT (ks i)) := fun i hi => by rw [List.getElem?_map, List.getElem?_range hi]; rfl
  have hall : ∀ d ∈ ((List.range 16).map fun i => dT (ks i)), d.size = 1 ∧ d.agg = false := fun d hd => by
    obtain ⟨i, _, rfl⟩ := List.mem_map.1 hd
    exact dT_one _
  have hlen : ((List.range 16).map fun i => dT (ks i)).length = 16 := by simp
  rw [he, dT, show dItem (.mk true [] ((List.range 16).map (fun i => refT (ks i)) ++ [.mk false v []])) = .tup [.v (.bool true), .bs [], .sl 3 ((List.range 16).map (fun i => dItem (refT (ks i))) ++ [dItem (.mk false v [])])] from by rw [dItem, dItems_map, List.map_append, List.map_map]; rfl]
  clear he
  generalize hE : ((List.range 16).map fun i => dT (ks i)) = K at *
  refine Fn.walk 85 Tryz.func107 rfl Tryz.ntmps107 (by simp) fun X => ?_
  repeat
    (first
     | (apply P_fieldpd; (iterate 4 exact rfl); exact sub_br0 _ hsz; (iterate 2 exact rfl)) | (apply P_loadpd; (iterate 2 exact rfl); exact sub_ks hsz; (iterate 2 exact rfl))
     | (apply P_move; (iterate 3 exact rfl)) | (apply P_assign; (iterate 3 exact rfl)) | (apply P_extract; (iterate 4 exact rfl)) | (apply P_build; (iterate 7 exact rfl))
     | (apply P_nilckpd; (iterate 3 exact rfl)) | (apply P_asYes; (iterate 4 exact rfl)) | (apply P_asNo; (iterate 6 exact rfl)) | (apply P_alloc; exact rfl; exact rfl; exact rfl; intro _)
     | (apply P_store; exact rfl; (focus (repeat first | exact .z | apply SetAt.s | apply SetAtF.s)); (iterate 4 exact rfl)) | apply EL.nil | ((with_reducible apply EK.then_normal); apply EK.code)
     | (apply EC.cond_true; exact rfl) | (apply EC.cond_false; exact rfl)
     | (with_reducible first | apply EC.seq | apply EC.region | apply EC.skip | apply EC.label | apply EC.block | apply EC.exit | apply EC.ret | apply EK.in_normal | apply EK.in_same | apply EK.in_ret | apply EK.then_ret | apply EK.then_exit))
  rename_i g1 g
  refine EC.le (Le.row 81 3) ?_
  refine EC.loop (ι := {p : Value × Nat // p.2 ≤ 16})
    (fun p => ⟨[(63, .val (.v (.int .i64 (p.1.2 : Int)))), (62, .val (.tup K)), (10, .val (.pd (.tup [.tup K, .bs v]))), (3, .val (.v (.pointer (some ⟨g, 0, none⟩)))), (2, .val (.v (.pointer (some ⟨g1, 0, none⟩))))],
      [.row p.1.1 81 3 ((List.range p.1.2).map fun i => dItem (refT (ks i))), .var g 81 (.tup [.v (.bool true), .v (.slice none 0 0), .v p.1.1]), .var g1 81 (.tup [.v (.bool false), .v (.slice none 0 0), .v (.slice none 0 0)])], []⟩)
    (fun p => 16 - p.1.2) ⟨(.slice none 0 0, 0), by decide⟩ ?_ ?_
  · exact (Le.keep (by repeat first | exact trivial | refine ⟨rfl, ?_⟩) (by repeat first | exact List.nil_sublist _ | apply List.Sublist.cons_cons | apply List.Sublist.cons) (by simp))
  rintro ⟨⟨rv, n⟩, hn⟩
  dsimp only at hn ⊢
  have hl : ((List.range n).map fun i => dItem (refT (ks i))).length = n := by simp
  by_cases hlt : n < 16
  · have hx := hk n
    have hnx : (List.range (n + 1)).map (fun i => dItem (refT (ks i))) = (List.range n).map (fun i => dItem (refT (ks i))) ++ [dItem (refT (ks n))] := by rw [List.range_succ, List.map_append]; rfl
    cases hr : refT (ks n) with
    | mk xb xl xs =>
      rw [hr, dItem] at hx
      rw [hr, dItem] at hnx
      repeat
        (first
         | (apply P_cmp (b := true); (iterate 2 exact rfl); (focus (first | (simp [cmpI]; done) | (simp [cmpI]; omega))); (iterate 2 exact rfl)) | apply EL.nil
         | ((with_reducible apply EK.then_normal); apply EK.code) | (apply EC.cond_true; exact rfl)
         | (with_reducible first | apply EC.seq | apply EC.region | apply EC.skip | apply EC.label | apply EC.block | apply EC.exit | apply EC.ret | apply EK.in_normal | apply EK.in_same | apply EK.in_ret | apply EK.then_ret | apply EK.then_exit))
      refine ES.still (g_indextup (k := (n : Int)) (d := dT (ks n)) rfl rfl rfl rfl rfl (fun w => by kernel_rfl) hall hlen ⟨by omega, by rw [Int.toNat_natCast]; exact hat n hlt⟩) rfl rfl rfl ?_
      repeat
        (first
         | (apply P_assign; (iterate 3 exact rfl)) | apply EL.nil | ((with_reducible apply EK.then_normal); apply EK.code))
      refine EC.drawC 7 [0, 1, 2, 6] [3, 4, 5] [_] _ (by kernel_rfl) (by kernel_rfl) rfl ?_
      simp only [pickL, List.filterMap_cons, List.filterMap_nil, List.getElem?_cons_zero, List.getElem?_cons_succ]
      repeat
        (first
         | (apply H_move; (iterate 3 exact rfl)) | (apply H_field; (iterate 6 exact rfl))
         | (apply H_load; exact rfl; (first | exact I0 | exact I1 | exact I2 | exact I3 | exact I4 | exact I5 | exact I6); (iterate 4 exact rfl)))
      refine EM.nil ?_
      repeat (first | rw [List.cons_append] | rw [List.nil_append])
      refine CH.cut 2 ?_
      simp only [List.take_succ_cons, List.take_zero, List.drop_succ_cons, List.drop_zero]
      repeat
        (first
         | (apply H_call (hx); exact rfl; (focus (repeat first | exact RefineL.refl _ _ | exact RL.nil | exact Rf.same | exact Rf.bs0 | exact Rf.sl0 | (apply Rf.fact; (focus (simp; done)); exact rfl) | apply Rf.tup | apply RL.cons)); (focus (intro _ _; simp [go_sem]; done)); (iterate 2 exact rfl))
         | (apply H_lit; (iterate 9 exact rfl)))
      refine EM.nil ?_
      repeat (first | rw [List.cons_append] | rw [List.nil_append])
      refine CH.mut (os := [_]) (rest := []) rfl rfl (m_append rfl rfl rfl rfl rfl (by rw [hl]; constructor <;> (simp; omega))) ?_
      rintro _ _ ⟨v', rfl, rfl⟩
      try simp only [St.put]
      repeat (first | rw [List.cons_append] | rw [List.nil_append])
      refine CH.nil ?_
      try simp only [List.drop_succ_cons, List.drop_zero]
      repeat
        (first
         | (apply P_move; (iterate 3 exact rfl)) | (apply P_ar; (iterate 3 exact rfl); (focus omega); (focus omega); (iterate 2 exact rfl))
         | (apply P_store; exact rfl; (focus (repeat first | exact .z | apply SetAt.s | apply SetAtF.s)); (iterate 4 exact rfl)) | apply EL.nil | ((with_reducible apply EK.then_normal); apply EK.code)
         | (with_reducible first | apply EC.seq | apply EC.region | apply EC.skip | apply EC.label | apply EC.block | apply EC.exit | apply EC.ret | apply EK.in_normal | apply EK.in_same | apply EK.in_ret | apply EK.then_ret | apply EK.then_exit))
      refine EK.again ⟨(v', n + 1), hlt⟩ (by dsimp only; omega) ?_
      dsimp only
      rw [hnx]
      simp only [Int.natCast_add]
      exact (Le.keep (by repeat first | exact trivial | refine ⟨rfl, ?_⟩) (by repeat first | exact List.nil_sublist _ | apply List.Sublist.cons_cons | apply List.Sublist.cons) (by simp))
  · obtain rfl : n = 16 := by omega
    repeat
      (first
       | (apply P_cmp (b := false); (iterate 2 exact rfl); (focus (first | (simp [cmpI]; done) | (simp [cmpI]; omega))); (iterate 2 exact rfl)) | apply EL.nil
       | ((with_reducible apply EK.then_normal); apply EK.code) | (apply EC.cond_false; exact rfl)
       | (with_reducible first | apply EC.seq | apply EC.region | apply EC.skip | apply EC.label | apply EC.block | apply EC.exit | apply EC.ret | apply EK.in_normal | apply EK.in_same | apply EK.in_ret | apply EK.then_ret | apply EK.then_exit))
    refine EC.drawC 10 [0, 1, 2, 3, 4, 5, 9] [6, 7, 8] [_] _ (by kernel_rfl) (by kernel_rfl) rfl ?_
    simp only [pickL, List.filterMap_cons, List.filterMap_nil, List.getElem?_cons_zero, List.getElem?_cons_succ]
    repeat
      (first
       | (apply H_fieldpd; (iterate 4 exact rfl); exact sub_br1 _ hsz; (iterate 2 exact rfl)) | (apply H_move; (iterate 3 exact rfl)) | (apply H_field; (iterate 6 exact rfl))
       | (apply H_loadpd; (iterate 5 exact rfl)) | (apply H_load; exact rfl; (first | exact I0 | exact I1 | exact I2 | exact I3 | exact I4 | exact I5 | exact I6); (iterate 4 exact rfl))
       | (apply H_nilckpd; (iterate 3 exact rfl)))
    refine EM.nil ?_
    repeat (first | rw [List.cons_append] | rw [List.nil_append])
    refine CH.cut 2 ?_
    simp only [List.take_succ_cons, List.take_zero, List.drop_succ_cons, List.drop_zero]
    repeat
      (first
       | (apply H_call (h2); exact rfl; (focus (repeat first | exact RefineL.refl _ _ | exact RL.nil | exact Rf.same | exact Rf.bs0 | exact Rf.sl0 | (apply Rf.fact; (focus (simp; done)); exact rfl) | apply Rf.tup | apply RL.cons)); (focus (intro _ _; simp [go_sem]; done)); (iterate 2 exact rfl))
       | (apply H_lit; (iterate 9 exact rfl)))
    refine EM.nil ?_
    repeat (first | rw [List.cons_append] | rw [List.nil_append])
    refine CH.mut (os := [_]) (rest := []) rfl rfl (m_append rfl rfl rfl rfl rfl (by rw [hl]; constructor <;> simp)) ?_
    rintro _ _ ⟨v', rfl, rfl⟩
    try simp only [St.put]
    repeat (first | rw [List.cons_append] | rw [List.nil_append])
    refine CH.nil ?_
    try simp only [List.drop_succ_cons, List.drop_zero]
    refine EL.le (Le.freeze (pre := []) rfl) ?_
    simp only [List.nil_append]
    repeat
      (first
       | (apply P_load; exact rfl; (first | exact I0 | exact I1 | exact I2 | exact I3 | exact I4 | exact I5 | exact I6); (iterate 4 exact rfl))
       | (apply P_store; exact rfl; (focus (repeat first | exact .z | apply SetAt.s | apply SetAtF.s)); (iterate 4 exact rfl)) | apply EL.nil | ((with_reducible apply EK.then_normal); apply EK.code)
       | (with_reducible first | apply EC.seq | apply EC.region | apply EC.skip | apply EC.label | apply EC.block | apply EC.exit | apply EC.ret | apply EK.in_normal | apply EK.in_same | apply EK.in_ret | apply EK.then_ret | apply EK.then_exit))
    refine EK.retc1r 1 rfl rfl rfl rfl ?_ rfl
    (repeat first | exact RefineL.refl _ _ | exact RL.nil | exact Rf.same | exact Rf.bs0 | exact Rf.sl0 | (apply Rf.fact; (focus (simp; done)); exact rfl) | apply Rf.tup | apply RL.cons)
theorem f_Item : ∀ t : Tn, t.ok → t.isNil = false → Fn 107 [dT t] (· = .val (dItem (itemT t)))
  | .leaf p v, h, _ => item_leaf p v h
  | .ext p k, h, _ => item_ext p k h.1 (f_Ref_of k fun hn => f_Item k h.2 hn)
  | .br ks v, h, _ => item_br ks v fun i => f_Ref_of (ks i) fun hn => f_Item (ks i) (h i) hn
theorem f_Sum (t : Tn) (h : t.ok) : Fn 51 [dT t] (· = .val (.arr 32 (sumT t))) := f_Sum_of t (f_Item t h)
theorem f_Bytes (t : Tn) (h : t.ok) (hn : t.isNil = false) : Fn 75 [dT t] (· = .val (.bs (pkB (itemT t)))) := f_Bytes_of t (f_Item t h hn)
end E
end Go.Proofs.YtmlajcbabimkjaaGreat
/-
  The abstract machine: more returns; pointers held against nil.
  Conditions: none.
-/
namespace Go.Proofs.YtmlajcbabimkjaaGreat
set_option linter.unusedVariables false
open Go.RowKit Mono Rlp
namespace E
section
variable {N : Nat} {X : Cx N} {rs : List (Tmp × R)} {os : List Obj} {fs : List (Value × D)}
variable {S : St} {fn : Func} {Φ : R → List Obj → Prop}
theorem ok_less {os' : List Obj} (h : os'.Sublist os) {w : World} {b : Nat} (hb : X.ok os w b) : X.ok os' w b := ⟨hb.1, hb.2.1, fun o ho => hb.2.2 o (h.subset ho)⟩
theorem EK.retM0s (os' : List Obj) (hres : fn.results = #[]) (ho : os'.Sublist S.objs) (hΦ : Φ (.tpl []) os') : EK X (bodyPost Tryz.prog fn (OutM X Φ) .ret) S := by
  constructor
  intro a w ha
  exact bodyPost_ret (results_none hres a.tmps Tryz.prog w) ha.defers ⟨_, _, os', rfl, hΦ, ha.mem.less ho (fun f hf => by cases hf), [], rfl, rfl⟩
theorem EK.retM1s {t : Tmp} {r : R} (os' : List Obj) (hres : fn.results = #[.tmp t]) (hl : look S.regs t = some r) (ho : os'.Sublist S.objs) (hΦ : Φ r os') : EK X (bodyPost Tryz.prog fn (OutM X Φ) .ret) S := by
  constructor
  intro a w ha
  exact bodyPost_ret (results_tmp hres a.tmps Tryz.prog w) ha.defers ⟨_, r, os', rfl, hΦ, ha.mem.less ho (fun f hf => by cases hf), (ha.regs t r hl).mono (fun b hb => ok_less ho hb) fun _ _ => rfl⟩
end
section
variable {N : Nat} {X : Cx N} {ops : Array Oper} {Q : Exit → Act → World → Prop}
theorem EK.retM1k {fn : Func} {Φ : R → List Obj → Prop} {S : St} {t : Tmp} {d d' : D} (os' : List Obj) (hres : fn.results = #[.tmp t]) (hl : look S.regs t = some (.val d)) (hR : RefineL S.facts [d] [d']) (ho : os'.Sublist S.objs) (hΦ : Φ (.val d') os') : EK X (bodyPost Tryz.prog fn (OutM X Φ) .ret) S := by
  refine EK.le (S' := ⟨S.regs, os', S.facts⟩) ?_ (EK.retM1r hres hl hR hΦ)
  exact fun a w h => ⟨h.mem.less ho (fun f hf => hf), fun t r ht => ReadR.mono (fun b hb => ok_less ho hb) (fun _ _ => rfl) (h.regs t r ht), h.size, h.defers⟩
end
end E
end Go.Proofs.YtmlajcbabimkjaaGreat
/-
  The abstract machine: 'clear' of a row's end whose elements are of one cell; a known array of such elements as a slice.
  Conditions: none.
-/
namespace Go.Proofs.YtmlajcbabimkjaaGreat
set_option linter.unusedVariables false
open Go.RowKit Mono Rlp
namespace E
section
variable {N : Nat} {X : Cx N} {S : St} {ops : Array Oper} {o : Oper} {Q : Exit → Act → World → Prop} {l : List Oper} {rs : List (Tmp × R)} {os os' : List Obj} {fs : List (Value × D)}
theorem EL.clearN {T e z b k : Nat} {x : Operand} {v : Value} {ds : List D} {dz : D} (i : Nat) (ho : o.op = .call { callee := .builtin .clear, args := #[x], argTypes := #[T] }) (hg : guardOf ops S o = some true) (hd : o.dst = none) (hx : ev S x = some (.val (.v (sufV k z v)))) (hi : S.objs[i]? = some (.row v e z ds)) (hT : assoc slL T = some (e, z, b)) (hz : assoc zeroL e = some dz) (hag : dz.agg = false) (hsz : dz.size = z) (hpos : Nat.blt 0 dz.size = true) (hk : k < ds.length) (kk : EL X ops Q l ⟨S.regs, S.objs.set i (.row v e z (ds.take k ++ List.replicate (ds.length - k) dz)), S.facts⟩) : EL X ops Q (o :: l) S := by
  constructor
  intro a w ha
  have hkn := ha.kn fun t => t ∈ o.looksAt ops
  have h1 := ev_v hkn hx (looks_op (by rw [ho]; simp [Op.operands, Call.operands]))
  have hmem := List.mem_of_getElem? hi
  have hat := ha.mem.at_ _ hmem
  obtain ⟨hu, _⟩ := slTI hT (by rw [← hsz]; exact hpos)
  obtain ⟨g, c, cur, rows, H⟩ := row_in hat (by omega)
  obtain ⟨zv, hz1, hz2⟩ := (zvI hz).get
  have hcs := (readV_one hag).1 (hz2 (X.ok S.objs w) w)
  have hzc : zv.cells = [zv].toArray := by
    have := Reads.one _ _ hcs zv (by simp)
    cases zv <;> first | rfl | (simp [Value.oneCell'] at this)
  generalize [zv] = cs at hcs hzc
  have hcl : cs.length = z := by rw [← hsz]; exact Reads.len _ _ hcs
  have hz0 : 0 < cs.length := by rw [hcl, ← hsz]; simpa using hpos
  have hmk : ds.length - k ≠ 0 := by omega
  obtain ⟨m, hm⟩ : ∃ m, ds.length - k = m := ⟨_, rfl⟩
  rw [hm] at hmk kk
  obtain ⟨hl1, hl2⟩ := ReadsRows.lens ds rows H.rows
  obtain ⟨sp, hsplit⟩ : ∃ sp, cur.toList = rows.flatten ++ sp := ⟨cur.toList.drop (ds.length * z), by rw [← H.cells, List.take_append_drop]⟩
  have hrs : rows.flatten = (rows.take k).flatten ++ (rows.drop k).flatten := by rw [← List.flatten_append, List.take_append_drop]
  have hA : (rows.take k).flatten.length = k * z := by
    rw [flat_len _ fun r hr => hl2 r (List.mem_of_mem_take hr), List.length_take, hl1, Nat.min_eq_left (by omega)]
  have hM : (rows.drop k).flatten.length = m * z := by
    rw [flat_len _ fun r hr => hl2 r (List.mem_of_mem_drop hr), List.length_drop, hl1, hm]
  have hN : (List.replicate m cs).flatten.length = m * z := by
    rw [flat_len _ (show ∀ r ∈ List.replicate m cs, r.length = z from fun r hr => by rw [List.eq_of_mem_replicate hr]; exact hcl), List.length_replicate]
  generalize hAe : (rows.take k).flatten = A at hrs hA
  generalize hMe : (rows.drop k).flatten = r at hrs hM
  have hcur : cur = (A ++ r ++ sp).toArray := by rw [← hrs, ← hsplit]
  have hv : sufV k z v = .slice (some ⟨g, 0 + k * z, none⟩) m (c - k) := by
    rw [H.val]
    have hle := H.le
    unfold sufV
    dsimp only
    rw [if_neg (by omega), hm, Option.map_some, add_none]
  have hheap := H.heap
  rw [hcur] at hheap
  have hset := setCells_row (List.replicate m cs).flatten A r sp w (by rw [hN, hM]) hheap
  rw [hA] at hset
  have hgr := grownBy_setCells g (List.replicate m cs).flatten (k * z) w
  have hno : ∀ b, X.ok S.objs w b → b ≠ g := fun b' hb' e' => hb'.2.2 _ hmem (by rw [e']; show v.ownBlock = some g; rw [H.val]; rfl)
  have hcell : ∀ q : Addr, X.ok S.objs w q.block → (w.setCells g (k * z) (List.replicate m cs).flatten).cell? q = w.cell? q := fun q hq => World.cell?_of_block (hgr.block _ hq.2.1 fun e' => hno _ hq (by injection e'))
  have hnl : (ds.take k ++ List.replicate m dz).length = ds.length := by rw [List.length_append, List.length_take, List.length_replicate]; omega
  have hrows := ReadsRows.append _ _ _ _ (ReadsRows.take ds rows k H.rows) (rows_repl hcs hcl m)
  have hrows' := ReadsRows.mono (fun _ h => h) hcell z _ _ hrows
  have hat' : Obj.At X.mine (X.ok S.objs w) (w.setCells g (k * z) (List.replicate m cs).flatten) (.row v e z (ds.take k ++ List.replicate m dz)) := RowIn.at (g := g) (c := c) (cur := (A ++ (List.replicate m cs).flatten ++ sp).toArray) (rows := rows.take k ++ List.replicate m cs) ⟨by rw [hnl]; exact H.val, hset, by
    rw [hnl, List.flatten_append, hAe]
    have : ds.length * z = (A ++ (List.replicate m cs).flatten).length := by
      rw [List.length_append, hA, hN, ← Nat.add_mul, show k + m = ds.length by omega]
    rw [this]
    exact List.take_left' rfl, by
    have := congrArg List.length hsplit
    rw [Array.length_toList, H.size, hrs] at this
    simp only [List.size_toArray, List.length_append] at this ⊢
    rw [hN, ← hM]
    omega, by rw [hnl]; exact H.le, H.max, hrows', H.mine⟩
  have hst : (storeCells ⟨g, 0 + k * z, none⟩ (Builtin.zeroCells zv.cells m).toList).run Tryz.prog w = .ok () (w.setCells g (k * z) (List.replicate m cs).flatten) := by
    rw [hzc, zeroCells_flat cs hz0 m]
    have := run_storeCells_cells (P := Tryz.prog) g (k * z) (List.replicate m cs).flatten 0 w (fun j hj => ?_) (fun j hj => ?_) (fun u hu => by
      obtain ⟨r', hr', hu'⟩ := List.mem_flatten.1 hu
      rw [List.eq_of_mem_replicate hr'] at hu'
      exact Reads.one _ _ hcs u hu')
    · simpa using this
    · rw [cell_of_row w g _ _ _ _ hheap, Option.isSome_iff_exists]
      have hsz2 : k * z + 0 + j < (A ++ r ++ sp).toArray.size := by
        simp only [List.size_toArray, List.length_append]
        rw [hN] at hj
        omega
      exact ⟨_, Array.getElem?_eq_getElem hsz2⟩
    · simp [World.frozen?, hheap]
  have hrun : (Builtin.clear_ #[T] o.type #[sufV k z v]).run Tryz.prog w = .ok (.tuple #[]) (w.setCells g (k * z) (List.replicate m cs).flatten) := by
    rw [hv]
    obtain ⟨m', rfl⟩ : ∃ m', m = m' + 1 := ⟨m - 1, by omega⟩
    rw [Nat.zero_add] at hst ⊢
    simp [Builtin.clear_, run_underlying hu, hz1, hst]
  unfold wpList
  rw [if_pos (wanted_of ha hg)]
  refine .inl ?_
  unfold Oper.wp execOp
  simp only [ho, resolve, invoke, builtin, Sem.run_bind, Sem.run_pure, Result.andThen_ok, List.map_toArray, List.map_cons, List.map_nil, h1, hrun]
  simp only [Oper.upon_value, hd, Act.put]
  exact kk.go _ _ (ha.turn hi (by rw [show (Obj.row v e z ds).blk = some g by show v.ownBlock = some g; rw [H.val]; rfl]; exact hgr) (.inl rfl) fun hok hcell => hat'.move hok (fun _ _ => rfl) fun _ _ => rfl)
theorem P_clearN {T e z b k ty : Nat} {pos : String} {af : Array Edge} {gd : Option (Nat × Bool)} {x : Operand} {v : Value} {ds : List D} {dz : D} (hx : ev (⟨rs, os, fs⟩ : St) x = some (.val (.v (sufV k z v)))) (hset : SetAt os (.row v e z ds) (.row v e z (ds.take k ++ List.replicate (ds.length - k) dz)) os') (hk : k < ds.length) (hT : assoc slL T = some (e, z, b)) (hz : assoc zeroL e = some dz) (hag : dz.agg = false) (hsz : dz.size = z) (hpos : Nat.blt 0 dz.size = true) (hg : guardOf ops ⟨rs, os, fs⟩ ⟨none, .call { callee := .builtin .clear, args := #[x], argTypes := #[T] }, ty, pos, af, gd⟩ = some true) (kk : EL X ops Q l ⟨rs, os', fs⟩) : EL X ops Q (⟨none, .call { callee := .builtin .clear, args := #[x], argTypes := #[T] }, ty, pos, af, gd⟩ :: l) ⟨rs, os, fs⟩ := by
  obtain ⟨i, hi, rfl⟩ := hset.ix
  exact EL.clearN i rfl hg rfl hx hi hT hz hag hsz hpos hk kk
theorem rows_ofL {ok : Nat → Prop} {w : World} : ∀ (ds : List D) (cs : List Value), (∀ d ∈ ds, d.size = 1) → ReadsL ok w ds cs → ReadsRows ok w 1 ds (cs.map fun c => [c])
  | [], cs, _, h => by
    rw [ReadsL] at h
    subst h
    rw [List.map_nil, ReadsRows]
  | d :: ds, cs, hd, h => by
    rw [ReadsL] at h
    obtain ⟨c1, c2, rfl, h1, h2⟩ := h
    obtain ⟨u, rfl⟩ : ∃ u, c1 = [u] := List.length_eq_one_iff.1 ((Reads.len _ _ h1).trans (hd d (by simp)))
    rw [List.singleton_append, List.map_cons, ReadsRows]
    exact ⟨[u], _, rfl, rfl, h1, rows_ofL ds c2 (fun d hd' => hd d (by simp [hd'])) h2⟩
theorem flat_one (cs : List Value) : (cs.map fun c => [c]).flatten = cs := by
  induction cs with
  | nil => rfl
  | cons c cs ih => rw [List.map_cons, List.flatten_cons, ih]; rfl
theorem g_sltup {x : Operand} {T n : Nat} {ds : List D} (hA : SliceA T n) (hn : Nat.ble n 4096 = true) (ho : o.op = .slice T x none none none) (hx : ev S x = some (.val (.pd (.tup ds)))) (hm : ds.length = n) (h1 : ∀ d ∈ ds, d.size = 1) : Still ops S o (.val (.sl 1 ds)) := fun base ok a w ha => by
  subst hm
  have h2 := (readV_one rfl).1 (ha.ev hx fun t e => looks_of e (by rw [ho]; simp [Op.operands]))
  rw [Reads] at h2
  obtain ⟨g, k, cs, e, hg, hr, h3⟩ := h2
  rw [Reads] at h3
  have e' : a.eval x = .pointer (some ⟨g, k, none⟩) := List.singleton_inj.1 e
  have hrw := rows_ofL ds cs h1 h3
  simp only [Nat.ble_eq] at hn
  refine ⟨.slice (some ⟨g, k, none⟩) ds.length ds.length, ?_, (readV_one rfl).2 ?_⟩
  · unfold execOp
    simp only [ho, e', Option.map_none, Sem.run_bind, hA.ok w g k, Result.andThen_ok, Sem.run_pure]
  · rw [Reads]
    exact ⟨some ⟨g, k, none⟩, ds.length, cs.map fun c => [c], rfl, Nat.le_refl _, by simp [maxLen]; omega, (fun h => by cases h), fun _ => ⟨g, k, rfl, hg, by rw [flat_one]; exact fun j u hu => hr j u hu⟩, hrw⟩
theorem P_sltup {t ty : Nat} {pos : String} {af : Array Edge} {gd : Option (Nat × Bool)} {x : Operand} {T n : Nat} {ds : List D} (hA : SliceA T n) (hn : Nat.ble n 4096 = true) (hx : ev (⟨rs, os, fs⟩ : St) x = some (.val (.pd (.tup ds)))) (hm : ds.length = n) (h1 : ∀ d ∈ ds, d.size = 1) (hg : guardOf ops ⟨rs, os, fs⟩ ⟨some t, .slice T x none none none, ty, pos, af, gd⟩ = some true) (hN : Nat.blt t N = true) (kk : EL X ops Q l ⟨(t, .val (.sl 1 ds)) :: rs, os, fs⟩) : EL X ops Q (⟨some t, .slice T x none none none, ty, pos, af, gd⟩ :: l) ⟨rs, os, fs⟩ := by
  refine ES.still (r := .val (.sl 1 ds)) ?_ hg rfl hN kk
  exact g_sltup hA hn rfl hx hm h1
end
theorem sl_kids : SliceA 188 16 := ⟨fun w g o => by
  have hn : Tryz.prog.arrayLen 188 = 16 := by kernel_rfl
  have hs : (sizeOf (Tryz.prog.elem 188)).run Tryz.prog w = .ok 1 w := by kernel_rfl
  rw [run_sliceAt_array_all (P := Tryz.prog) w 188 ⟨g, o, none⟩ (by kernel_rfl), hs]
  simp [slicedAt, hn, add_none, Result.andThen]⟩
end E
end Go.Proofs.YtmlajcbabimkjaaGreat
/-
  slices.SortFunc at rows of anything, by a key of bytes: a permutation in the keys' order.
  Conditions: none.
-/
namespace Go.Proofs.YtmlajcbabimkjaaGreat
set_option linter.unusedVariables false
open Go.RowKit Mono Rlp Go.Sort
namespace E
theorem heap_rowT {w : World} {g n : Nat} {os : Array Go.Obj} {cur : Array Value} {e : TypeId} {fr : Nat × Nat} (F : Array Value) (hb : w.heap[g]? = some (.cells cur e fr)) :
    (grow (putRow id (Sort.ahead w n) g 0 F) os).heap[g]? = some (.cells (putCells id 0 F cur) e fr) := by
  have hg : g < w.heap.size := (Array.getElem?_eq_some_iff.1 hb).1
  rw [heap_grow_old _ _ (by simpa using hg)]
  simp [putRow, mapBlock, Sort.ahead, Array.getElem?_modify, hb, onCells]
theorem grown_rowT {w : World} {g n : Nat} {os : Array Go.Obj} (F : Array Value) : w.grownBy (grow (putRow id (Sort.ahead w n) g 0 F) os) (some g) := by
  refine ⟨rfl, rfl, rfl, by simp, fun k hk hne => ?_⟩
  rw [heap_grow_old _ _ (by simpa using hk)]
  have : g ≠ k := fun e => hne (by rw [e])
  simp [putRow, mapBlock, Sort.ahead, Array.getElem?_modify, this]
theorem take_rowT (cur F : Array Value) (h : F.size ≤ cur.size) : (putCells id 0 F cur).toList.take F.size = F.toList := by
  apply List.ext_getElem?
  intro j
  by_cases hj : j < F.size
  · rw [List.getElem?_take_of_lt hj, Array.getElem?_toList]
    simp [putCells, hj, show j < cur.size by omega]
  · rw [List.getElem?_take_eq_none (by omega), List.getElem?_eq_none (by simp; omega)]
abbrev El {κ : Type} (dk : κ → D) (ok : Nat → Prop) (w : World) := {x : List Value × κ // Reads ok w (dk x.2) x.1}
theorem els {κ : Type} {dk : κ → D} {ok : Nat → Prop} {w : World} {z : Nat} : ∀ (ks : List κ) (rows : List (List Value)), ReadsRows ok w z (ks.map dk) rows → ∃ es : List (El dk ok w), es.map (·.1.1) = rows ∧ es.map (·.1.2) = ks
  | [], rows, h => by
    rw [List.map_nil, ReadsRows] at h
    exact ⟨[], h.symm, rfl⟩
  | k :: ks, rows, h => by
    rw [List.map_cons, ReadsRows] at h
    obtain ⟨r, rest, rfl, _, h2, h3⟩ := h
    obtain ⟨es, e1, e2⟩ := els ks rest h3
    exact ⟨⟨(r, k), h2⟩ :: es, by rw [List.map_cons, e1], by rw [List.map_cons, e2]⟩
theorem els_back {κ : Type} {dk : κ → D} {ok ok' : Nat → Prop} {w w' : World} {z : Nat} (hz : ∀ x, (dk x).size = z) (hm : ∀ d cs, Reads ok w d cs → Reads ok' w' d cs) : ∀ es : List (El dk ok w), ReadsRows ok' w' z ((es.map (·.1.2)).map dk) (es.map (·.1.1))
  | [] => by rw [List.map_nil, List.map_nil, List.map_nil, ReadsRows]
  | e :: es => by
    rw [List.map_cons, List.map_cons, List.map_cons, ReadsRows]
    exact ⟨_, _, rfl, (Reads.len _ _ e.2).trans (hz _), hm _ _ e.2, els_back hz hm es⟩
theorem flat_atE {α : Type} [Inhabited α] {enc : α → List Value} {n : Nat} (hn : 0 < n) (hk : ∀ x, (enc x).length = n) : ∀ (ks : List α) (t : Nat), t < ks.length * n → (ks.map enc).flatten[t]? = some ((enc (ks[t / n]!))[t % n]!)
  | [], t, h => by simp at h
  | k :: ks, t, h => by
    rw [List.map_cons, List.flatten_cons]
    by_cases ht : t < n
    · rw [List.getElem?_append_left (by rw [hk]; omega), Nat.div_eq_of_lt ht, Nat.mod_eq_of_lt ht]
      simp [hk, ht]
    · rw [List.getElem?_append_right (by rw [hk]; omega), hk, flat_atE hn hk ks (t - n) (by simp [Nat.add_mul] at h; omega)]
      have h1 : t / n = (t - n) / n + 1 := by
        conv => lhs; rw [show t = t - n + n by omega, Nat.add_div_right _ hn]
      have h2 : t % n = (t - n) % n := by
        conv => lhs; rw [show t = t - n + n by omega, Nat.add_mod_right]
      rw [h1, h2]
      simp
theorem flatE_list {α : Type} [Inhabited α] {enc : α → List Value} {n : Nat} (hn : 0 < n) (hk : ∀ x, (enc x).length = n) (ks : List α) : (flatK enc n ks.toArray).toList = (ks.map enc).flatten := by
  have hl : (ks.map enc).flatten.length = ks.length * n := by
    have : ∀ ks : List α, (ks.map enc).flatten.length = ks.length * n := fun ks => by
      induction ks with
      | nil => simp
      | cons k ks ih => rw [List.map_cons, List.flatten_cons, List.length_append, ih, hk, List.length_cons, Nat.add_mul, Nat.one_mul, Nat.add_comm]
    exact this ks
  refine List.ext_getElem? fun t => ?_
  by_cases ht : t < ks.length * n
  · rw [flat_atE hn hk ks t ht, Array.getElem?_toList]
    have hs : t < (flatK enc n ks.toArray).size := by simpa using ht
    have := get_flatK enc n ks.toArray t (by simpa using ht)
    rw [getElem!_pos _ t hs] at this
    rw [Array.getElem?_eq_getElem hs, this]
    simp
  · rw [List.getElem?_eq_none (by simp; omega), List.getElem?_eq_none (by omega)]
theorem swoE {α : Type} (key : α → List UInt8) : SWO (Go.Proofs.ltOf fun x y : α => cmpB (key x) (key y)) := by
  have h : ∀ x y : α, Go.Proofs.ltOf (fun x y : α => cmpB (key x) (key y)) x y = decide (key x < key y) := fun x y => cmpB_lt (key x) (key y)
  refine ⟨fun x => ?_, fun x y z h1 h2 => ?_, fun x y z h1 h2 => ?_⟩
  · rw [h]
    simp [List.lt_irrefl]
  · rw [h] at h1 h2 ⊢
    simp only [decide_eq_true_eq] at h1 h2 ⊢
    exact List.lt_trans h1 h2
  · rw [h] at h1 h2 ⊢
    simp only [decide_eq_false_iff_not, List.not_lt] at h1 h2 ⊢
    exact List.le_trans h2 h1
theorem sort_gen {κ : Type} {ρ : Go.Shelf.Ren} (L : SlLaysF0.n6 Tryz.prog ρ) (T z : Nat) (hz : 0 < z) (aE : ∀ w, (isAgg (ρ.t 24)).run Tryz.prog w = .ok true w) (zE : ∀ w, (Go.sizeOf (ρ.t 24)).run Tryz.prog w = .ok z w)
    (dk : κ → D) (hag : ∀ x, (dk x).agg = true) (hsz : ∀ x, (dk x).size = z) (key : κ → List UInt8) (x0 : κ) (cs0 : List Value) (hx0 : ∀ ok w, Reads ok w (dk x0) cs0) (cf : FuncId)
    (hc : ∀ (ok : Nat → Prop) (w : World), (∀ b, ok b → b < w.heap.size) → ∀ x y v u, ReadV ok w (dk x) v → ReadV ok w (dk y) u → Calls Tryz.prog cf #[v, u] w fun e w' => e = .returned (.int .i64 (cmpB (key x) (key y))) ∧ ∃ q os', w' = grow (w.drewN q) os')
    (ec : ∀ args w, (callFunc cf args).run Tryz.prog w = .ok (.enter cf args) w) (v : Value) (ks : List κ) (hl : ks.length < 4611686018427387904) :
    FnM (ρ.f 6) [.v v, .v (.func (.func cf) #[] #[])] [.row v T z (ks.map dk)] (fun r os' => r = .tpl [] ∧ ∃ ks' : List κ, ks'.Perm ks ∧ ks'.Pairwise (fun x y => key x ≤ key y) ∧ os' = [.row v T z (ks'.map dk)]) := by
  constructor
  intro ok w xs hok hown hr
  obtain ⟨x1, _, rfl, hx1, x2, _, rfl, hx2, rfl⟩ := hr
  obtain rfl := (readV_v.1 hx1).2
  obtain rfl := (readV_v.1 hx2).2
  obtain ⟨rows, ⟨hrow, hbase⟩, hrows⟩ := hown.at_ _ (List.mem_cons_self ..)
  rw [List.length_map] at hrow
  rcases hrow.2 with ⟨rfl, h0⟩ | ⟨g, cap, cur, rfl, _, hgb, r1, r2, r3, r4⟩
  · obtain rfl : ks = [] := List.eq_nil_of_length_eq_zero h0
    rw [List.map_nil] at hrows
    refine (AnyF.slices_SortFunc_none L none 0 (.func (.func cf) #[] #[]) w).mono ?_
    rintro e w' ⟨rfl, rfl⟩
    refine ⟨_, .tpl [], _, rfl, ⟨rfl, [], .nil, .nil, rfl⟩, ⟨.refl _, hown.apart, fun o ho => ?_⟩, [], rfl, rfl⟩
    obtain rfl := List.mem_singleton.1 ho
    exact ⟨[], ⟨⟨by simp, .inl ⟨rfl, rfl⟩⟩, fun b hb => by cases hb⟩, by rw [List.map_nil, ReadsRows]⟩
  · have hlt := (Array.getElem?_eq_some_iff.1 hgb).1
    have hng : ∀ b, ok b → b ≠ g := fun b hb e => hown.off b ⟨_, List.mem_cons_self .., by rw [e]; rfl⟩ hb
    obtain ⟨es, rfl, rfl⟩ := els ks rows hrows
    letI : Inhabited (El dk ok w) := ⟨⟨(cs0, x0), hx0 ok w⟩⟩
    have hk : ∀ x : El dk ok w, x.1.1.length = z := fun x => (Reads.len _ _ x.2).trans (hsz _)
    have hone : ∀ x : El dk ok w, ∀ u ∈ x.1.1, u.oneCell' = true := fun x => Reads.one _ _ x.2
    rw [List.length_map] at hl
    simp only [List.length_map] at r1 r3 r4 hrow
    have hH : HoldsK (fun x : El dk ok w => x.1.1) z w g 0 es.toArray := fun j hj => by
      have hj' : j < es.length * z := by simpa using hj
      have h1 : (cur.toList.take (es.length * z))[j]? = (es.map fun x : El dk ok w => x.1.1).flatten[j]? := by rw [r4]
      rw [List.getElem?_take_of_lt hj', ← flatE_list hz hk] at h1
      refine ⟨?_, by simp [World.frozen?, hgb]⟩
      rw [cell_of_row w g (0 + j) cur T (0, 0) hgb, Nat.zero_add, ← Array.getElem?_toList, h1, Array.getElem?_toList, Array.getElem?_eq_getElem hj, getElem!_pos _ j hj]
      rfl
    have hkeep : ∀ (n : Nat) (F : Array Value) (os : Array Go.Obj) (b : Nat), ok b → (grow (putRow id (Sort.ahead w n) g 0 F) os).heap[b]? = w.heap[b]? := fun n F os b hb => (grown_rowT (w := w) (g := g) (n := n) (os := os) F).block b (hok b hb) fun e => hng b hb (Option.some.inj e)
    have hcmp : CmpLays Tryz.prog cf #[] (fun x : El dk ok w => x.1.1) z (fun x y : El dk ok w => cmpB (key x.1.2) (key y.1.2)) g 0 es.toArray.size w := fun m os dk' hs x y => by
      have hm : ∀ d cs, Reads ok w d cs → Reads ok (sortWorldK (fun x : El dk ok w => x.1.1) z w g 0 m dk' os) d cs := fun d cs h => Reads.mono (fun _ h => h) (fun p hp => World.cell?_of_block (hkeep m _ os p.block hp)) d cs h
      refine (hc ok _ (fun b hb => Nat.lt_of_lt_of_le (hok b hb) (size_sortWorldK_c _ _ _ _ _ _ _ _)) x.1.2 y.1.2 _ _ ((readV_agg (hag _)).2 ⟨_, hm _ _ x.2, rfl⟩) ((readV_agg (hag _)).2 ⟨_, hm _ _ y.2, rfl⟩)).mono ?_
      rintro e w' ⟨rfl, h⟩
      exact ⟨rfl, h⟩
    have hsort := AnyQ.slices_SortFunc L z aE zE (fun x : El dk ok w => x.1.1) hk hone (fun x y : El dk ok w => cmpB (key x.1.2) (key y.1.2)) (swoE fun x : El dk ok w => key x.1.2) cf #[] g 0 cap es.toArray w ec hcmp hH hlt (by simpa using hl)
    have hl0 : (es.map fun x : El dk ok w => x.1.2).length = es.toArray.size := by simp
    rw [hl0]
    refine hsort.mono ?_
    rintro e w' ⟨rfl, d', n, os, hP, hS, rfl⟩
    have hd : d'.toList.Perm es := by
      obtain ⟨hs, _, hp⟩ := hP
      rw [show es.toArray.size = d'.size from hs.symm, Array.extract_size, hs, Array.extract_size] at hp
      simpa using hp
    have hdl : d'.toList.length = es.length := hd.length_eq
    have hsorted : (d'.toList.map fun x : El dk ok w => x.1.2).Pairwise fun x y => key x ≤ key y := by
      rw [List.pairwise_map, List.pairwise_iff_getElem]
      intro i j hi hj hij
      have := hS i j (Nat.zero_le _) hij (by simpa [hdl] using hj)
      have hi' : i < d'.size := by simpa using hi
      have hj' : j < d'.size := by simpa using hj
      rw [getElem!_pos d' j hj', getElem!_pos d' i hi', show ltOf (fun x y : El dk ok w => cmpB (key x.1.2) (key y.1.2)) d'[j] d'[i] = decide (key d'[j].1.2 < key d'[i].1.2) from cmpB_lt _ _] at this
      simpa using this
    have hg := grown_rowT (w := w) (g := g) (n := n) (os := os) (flatK (fun x : El dk ok w => x.1.1) z d')
    have hh := heap_rowT (n := n) (os := os) (flatK (fun x : El dk ok w => x.1.1) z d') hgb
    have hF : (flatK (fun x : El dk ok w => x.1.1) z d').size = es.length * z := by rw [size_flatK]; rw [show d'.size = es.length by simpa using hdl]
    have htk := take_rowT cur (flatK (fun x : El dk ok w => x.1.1) z d') (by rw [hF, r3]; exact Nat.mul_le_mul_right _ r1)
    have hfl : (flatK (fun x : El dk ok w => x.1.1) z d').toList = (d'.toList.map fun x : El dk ok w => x.1.1).flatten := by rw [← flatE_list hz hk d'.toList]
    rw [hF, hfl] at htk
    refine ⟨_, .tpl [], _, rfl, ⟨rfl, d'.toList.map fun x : El dk ok w => x.1.2, hd.map _, hsorted, rfl⟩, ⟨⟨hg.os, hg.tape, hg.output, hg.size, fun k hk hn => hg.block k hk fun e => hn ?_⟩, .cons (fun _ h => by simp at h) .nil, fun o ho => ?_⟩, [], rfl, rfl⟩
    · cases e
      exact ⟨_, List.mem_cons_self .., rfl⟩
    · obtain rfl := List.mem_singleton.1 ho
      have hlen : ((d'.toList.map fun x : El dk ok w => x.1.2).map dk).length = es.length := by simp [← hdl]
      have hrd : ReadsRows (okM ok [.row (.slice (some ⟨g, 0, none⟩) es.toArray.size cap) T z ((es.map fun x : El dk ok w => x.1.2).map dk)] w [.row (.slice (some ⟨g, 0, none⟩) es.toArray.size cap) T z ((d'.toList.map fun x : El dk ok w => x.1.2).map dk)] (sortWorldK (fun x : El dk ok w => x.1.1) z w g 0 n d' os)) (sortWorldK (fun x : El dk ok w => x.1.1) z w g 0 n d' os) z ((d'.toList.map fun x : El dk ok w => x.1.2).map dk) (d'.toList.map fun x : El dk ok w => x.1.1) :=
        els_back hsz (fun d cs h => Reads.mono (fun b hb => ⟨.inl hb, Nat.lt_of_lt_of_le (hok b hb) hg.size, fun o ho => by
          obtain rfl := List.mem_singleton.1 ho
          intro e
          cases e
          exact hng _ hb rfl⟩) (fun p hp => World.cell?_of_block (hkeep n _ os p.block hp)) d cs h) d'.toList
      refine ⟨d'.toList.map fun x : El dk ok w => x.1.1, ⟨⟨?_, .inr ⟨g, cap, _, ?_, Nat.zero_le _, hh, ?_, r2, ?_, ?_⟩⟩, fun b hb => .inl ⟨_, List.mem_cons_self .., hb⟩⟩, hrd⟩
      · rw [← hfl, Array.length_toList, hF, hlen]
      · rw [hlen]
        rfl
      · rw [hlen]
        exact r1
      · simp [putCells, r3]
      · rw [hlen]
        exact htk
end E
end Go.Proofs.YtmlajcbabimkjaaGreat
/-
  The laying of slices.SortFunc, printed by the shelf's own tool.
  Conditions: none.
-/
namespace Go.Proofs.YtmlajcbabimkjaaGreat
open Go.Shelf
def sortPair_ren : Go.Shelf.Ren := ⟨fun | 6 => 103 | 15 => 129 | 14 => 128 | 28 => 148 | 29 => 149 | 20 => 140 | 21 => 141 | 22 => 142 | 23 => 143 | 24 => 144 | 25 => 145 | 26 => 146 | 27 => 147 | 46 => 159 | 47 => 160 | 48 => 161 | 49 => 162 | 50 => 163 | 57 => 168 | n => n, fun | 22 => 144 | 24 => 178 | 25 => 180 | 3 => 3 | 39 => 92 | 0 => 0 | 53 => 236 | 55 => 115 | 4 => 4 | 46 => 230 | 45 => 229 | 50 => 206 | 5 => 5 | 9 => 9 | 66 => 243 | 70 => 247 | 76 => 251 | 77 => 252 | n => n, fun | n => n⟩
theorem sortPair : Go.Proofs.SlLaysF0.n6 Tryz.prog sortPair_ren := {
  mixed := by kernel_rfl
  f6 := ⟨Tryz.f103.name, by decide, Tryz.func103.trans (congrArg some (by kernel_rfl))⟩
  f14 := ⟨Tryz.f128.name, by decide, Tryz.func128.trans (congrArg some (by kernel_rfl))⟩
  f15 := Tryz.func129.trans (congrArg some (by kernel_rfl))
  f20 := ⟨Tryz.f140.name, by decide, Tryz.func140.trans (congrArg some (by kernel_rfl))⟩
  f21 := ⟨Tryz.f141.name, by decide, Tryz.func141.trans (congrArg some (by kernel_rfl))⟩
  f22 := ⟨Tryz.f142.name, by decide, Tryz.func142.trans (congrArg some (by kernel_rfl))⟩
  f23 := ⟨Tryz.f143.name, by decide, Tryz.func143.trans (congrArg some (by kernel_rfl))⟩
  f24 := ⟨Tryz.f144.name, by decide, Tryz.func144.trans (congrArg some (by kernel_rfl))⟩
  f25 := ⟨Tryz.f145.name, by decide, Tryz.func145.trans (congrArg some (by kernel_rfl))⟩
  f26 := ⟨Tryz.f146.name, by decide, Tryz.func146.trans (congrArg some (by kernel_rfl))⟩
  f27 := ⟨Tryz.f147.name, by decide, Tryz.func147.trans (congrArg some (by kernel_rfl))⟩
  f28 := Tryz.func148.trans (congrArg some (by kernel_rfl))
  f29 := Tryz.func149.trans (congrArg some (by kernel_rfl))
  f46 := ⟨Tryz.f159.name, by decide, Tryz.func159.trans (congrArg some (by kernel_rfl))⟩
  f47 := Tryz.func160.trans (congrArg some (by kernel_rfl))
  f48 := Tryz.func161.trans (congrArg some (by kernel_rfl))
  f49 := ⟨Tryz.f162.name, by decide, Tryz.func162.trans (congrArg some (by kernel_rfl))⟩
  f50 := ⟨Tryz.f163.name, by decide, Tryz.func163.trans (congrArg some (by kernel_rfl))⟩
  f57 := ⟨Tryz.f168.name, by decide, Tryz.func168.trans (congrArg some (by kernel_rfl))⟩
  t0 := Tryz.underlying0
  a0 := Tryz.isAgg0
  z0 := Tryz.sizeOf0
  v0 := Tryz.zeroValue0
  t3 := Tryz.underlying3
  a3 := Tryz.isAgg3
  z3 := Tryz.sizeOf3
  v3 := Tryz.zeroValue3
  t4 := Tryz.underlying4
  a4 := Tryz.isAgg4
  z4 := Tryz.sizeOf4
  v4 := Tryz.zeroValue4
  t5 := Tryz.underlying5
  a5 := Tryz.isAgg5
  z5 := Tryz.sizeOf5
  v5 := Tryz.zeroValue5
  t9 := Tryz.underlying9
  a9 := Tryz.isAgg9
  z9 := Tryz.sizeOf9
  v9 := Tryz.zeroValue9
  t22 := Tryz.underlying144
  a22 := Tryz.isAgg144
  z22 := Tryz.sizeOf144
  v22 := Tryz.zeroValue144
  t25 := Tryz.underlying180
  a25 := Tryz.isAgg180
  z25 := Tryz.sizeOf180
  v25 := Tryz.zeroValue180
  t39 := Tryz.underlying92
  a39 := Tryz.isAgg92
  z39 := Tryz.sizeOf92
  v39 := Tryz.zeroValue92
  t45 := Tryz.underlying229
  a45 := Tryz.isAgg229
  z45 := Tryz.sizeOf229
  v45 := Tryz.zeroValue229
  t46 := Tryz.underlying230
  a46 := Tryz.isAgg230
  z46 := Tryz.sizeOf230
  v46 := Tryz.zeroValue230
  t50 := Tryz.underlying206
  a50 := Tryz.isAgg206
  z50 := Tryz.sizeOf206
  v50 := Tryz.zeroValue206
  t53 := Tryz.underlying236
  a53 := Tryz.isAgg236
  z53 := Tryz.sizeOf236
  v53 := Tryz.zeroValue236
  t55 := Tryz.underlying115
  a55 := Tryz.isAgg115
  z55 := Tryz.sizeOf115
  v55 := Tryz.zeroValue115
  t66 := Tryz.underlying243
  a66 := Tryz.isAgg243
  z66 := Tryz.sizeOf243
  v66 := Tryz.zeroValue243
  t70 := Tryz.underlying247
  a70 := Tryz.isAgg247
  z70 := Tryz.sizeOf247
  v70 := Tryz.zeroValue247
  t76 := Tryz.underlying251
  a76 := Tryz.isAgg251
  z76 := Tryz.sizeOf251
  v76 := Tryz.zeroValue251
  t77 := Tryz.underlying252
  a77 := Tryz.isAgg252
  z77 := Tryz.sizeOf252
  v77 := Tryz.zeroValue252 }
end Go.Proofs.YtmlajcbabimkjaaGreat
