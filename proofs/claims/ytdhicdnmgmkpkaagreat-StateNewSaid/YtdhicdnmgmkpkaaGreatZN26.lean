/-
  Merged (wip/tools/merge.py): RT1, RT2, RT3.
  Conditions: none.
-/
import Derived.Test.YtdhicdnmgmkpkaaGreatZN23
import Derived.Test.YtdhicdnmgmkpkaaGreatZN24
/-
  The reference's state at accounts with code and slots: at.
  Conditions: none.
-/
namespace Go.Proofs.YtdhicdnmgmkpkaaGreat
set_option linter.unusedVariables false
open Go.RowKit Mono Rlp Wd
namespace E
mutual
theorem RefineL.rows {ok : Nat → Prop} {w : World} {F : List (Value × D)} (hF : ∀ f ∈ F, Reads ok w f.2 [f.1]) {z : Nat} : ∀ (ds ds' : List D) (rows : List (List Value)), RefineL F ds ds' → ReadsRows ok w z ds rows → ReadsRows ok w z ds' rows
  | [], l, rows, h, hr => by rw [RefineL] at h; subst h; exact hr
  | d :: ds, l, rows, h, hr => by
    rw [RefineL] at h
    obtain ⟨d', ds', rfl, h1, h2⟩ := h
    rw [ReadsRows] at hr ⊢
    obtain ⟨r, rest, rfl, h3, h4, h5⟩ := hr
    exact ⟨r, rest, rfl, h3, (Refine.reads hF d d' r h1 h4).1, RefineL.rows hF ds ds' rest h2 h5⟩
end
theorem RefineL.length {F : List (Value × D)} : ∀ {ds ds' : List D}, RefineL F ds ds' → ds'.length = ds.length
  | [], l, h => by rw [RefineL] at h; subst h; rfl
  | d :: ds, l, h => by
    rw [RefineL] at h
    obtain ⟨d', ds', rfl, h1, h2⟩ := h
    rw [List.length_cons, List.length_cons, RefineL.length h2]
theorem RL.append {F : List (Value × D)} : ∀ {ds ds' es es' : List D}, RefineL F ds ds' → RefineL F es es' → RefineL F (ds ++ es) (ds' ++ es')
  | [], l, es, es', h, k => by rw [RefineL] at h; subst h; exact k
  | d :: ds, l, es, es', h, k => by
    rw [RefineL] at h
    obtain ⟨d', ds', rfl, h1, h2⟩ := h
    exact RL.cons h1 (RL.append h2 k)
theorem Le.rowR {N : Nat} {X : Cx N} {rs : List (Tmp × R)} {os : List Obj} {fs : List (Value × D)} {v : Value} {e z : Nat} {ds ds' : List D} (h : RefineL fs ds ds') : Le X ⟨rs, .row v e z ds :: os, fs⟩ ⟨rs, .row v e z ds' :: os, fs⟩ := fun a w ha => by
  have hok : ∀ b, X.ok (.row v e z ds :: os) w b ↔ X.ok (.row v e z ds' :: os) w b := fun b => ⟨fun hb => ⟨hb.1, hb.2.1, fun o ho => by
      rcases List.mem_cons.1 ho with rfl | ho
      · exact hb.2.2 (.row v e z ds) List.mem_cons_self
      · exact hb.2.2 o (List.mem_cons_of_mem _ ho)⟩, fun hb => ⟨hb.1, hb.2.1, fun o ho => by
      rcases List.mem_cons.1 ho with rfl | ho
      · exact hb.2.2 (.row v e z ds') List.mem_cons_self
      · exact hb.2.2 o (List.mem_cons_of_mem _ ho)⟩⟩
  have hap := List.pairwise_cons.1 ha.mem.apart
  have hf : ∀ f ∈ fs, Reads (X.ok (.row v e z ds' :: os) w) w f.2 [f.1] := fun f hf => Reads.mono (fun b hb => (hok b).1 hb) (fun _ _ => rfl) _ _ (ha.mem.fact f hf)
  refine ⟨⟨ha.mem.gr, List.pairwise_cons.2 ⟨fun p hp b e => hap.1 p hp b e, hap.2⟩, fun o ho => ?_, hf⟩, fun t' r hr => (ha.regs t' r hr).mono (fun b hb => (hok b).1 hb) fun _ _ => rfl, ha.size, ha.defers⟩
  rcases List.mem_cons.1 ho with rfl | ho
  · obtain ⟨rows, h1, h2⟩ := ha.mem.at_ (.row v e z ds) List.mem_cons_self
    refine ⟨rows, by rw [RefineL.length h]; exact h1, RefineL.rows hf _ _ _ h (ReadsRows.mono (fun b hb => (hok b).1 hb) (fun _ _ => rfl) _ _ _ h2)⟩
  · exact (ha.mem.at_ o (List.mem_cons_of_mem _ ho)).move (fun b hb => (hok b).1 hb) (fun _ _ => rfl) fun _ _ => rfl
abbrev raA (L : Value) (l : List AcL) : Obj := .row L 74 55 (l.map dAcL)
def AcL.none (a : List UInt8) : AcL := ⟨a, 0, zero32, [], []⟩
set_option maxRecDepth 20000 in
set_option maxHeartbeats 8000000 in
theorem rat_in {g : Nat} {L k : Value} {n : Int} (l : List AcL) (a : List UInt8) (hll : l.length < 1099511627776) (kk : Nat) (hkk : kk < l.length) (hlo : ∀ j (hj : j < l.length), j < kk → Op.bytesLess l[j].a a = true) (he : l[kk].a = a) : FnM 113 [.v (ptr g), .arr 20 a] [rsO g L k n, raA L l] (fun r os' => r = .val (.v (elemPtr L ((kk : Int).toNat * 55))) ∧ os' = [rsO g L k n, raA L l]) := by
  have hml : (l.map dAcL).length = l.length := List.length_map _
  refine FnM.walk 78 Tryz.func113 rfl Tryz.ntmps113 (by simp) fun X => ?_
  repeat
    (first
     | (apply P_assign; (iterate 3 exact rfl)) | (apply P_box; exact rfl; exact rfl; exact rfl; intro _) | apply EL.nil | ((with_reducible apply EK.then_normal); apply EK.code)
     | (with_reducible first | apply EC.seq | apply EC.region | apply EC.skip | apply EC.label | apply EC.block | apply EC.exit | apply EC.ret | apply EK.in_normal | apply EK.in_same | apply EK.in_ret | apply EK.then_ret | apply EK.then_exit))
  rename_i g3
  refine EC.loop (ι := {i : Nat // i ≤ kk})
    (fun i => ⟨[(5, .val (.v (.int .i64 (i.1 : Int)))), (3, .val (.v (.pointer (some ⟨g3, 0, none⟩)))), (0, .val (.v (ptr g)))], [.var g3 32 (.arr 20 a), rsO g L k n, raA L l], []⟩)
    (fun i => kk - i.1) ⟨0, by omega⟩ ?_ ?_
  · exact (Le.keep (by repeat first | exact trivial | refine ⟨rfl, ?_⟩) (by repeat first | exact List.nil_sublist _ | apply List.Sublist.cons_cons | apply List.Sublist.cons) (by simp))
  rintro ⟨i, hi⟩
  dsimp only at hi ⊢
  have hil : i < l.length := by omega
  have hd : (l.map dAcL)[i]? = some (dAcL l[i]) := by rw [List.getElem?_map, List.getElem?_eq_getElem hil]; rfl
  have hb := bin_strlt l[i].a a
  by_cases hlt : i < kk
  · rw [hlo i hil hlt] at hb
    repeat
      (first
       | (with_reducible first | apply EC.seq | apply EC.region | apply EC.skip | apply EC.label | apply EC.block | apply EC.exit | apply EC.ret | apply EK.in_normal | apply EK.in_same | apply EK.in_ret | apply EK.then_ret | apply EK.then_exit))
    refine EC.draw 21 (by kernel_rfl) ?_
    simp only [List.take_succ_cons, List.take_zero, List.drop_succ_cons, List.drop_zero]
    repeat
      (first
       | (apply H_slrow; exact sl_addr; exact rfl; exact I2; (rw [hml]; omega); (iterate 2 exact rfl))
       | (apply H_strrow (k := i) (off := 0) (d := dAcL l[i]); exact rfl; exact I2; exact ⟨by simp, hd⟩; (iterate 4 exact rfl)) | (apply H_slarr; exact sl_addr; (iterate 3 exact rfl))
       | (apply H_strvar; exact rfl; exact I0; (iterate 4 exact rfl)) | (apply H_bin; (iterate 2 exact rfl); exact hb; (iterate 2 exact rfl)) | (apply H_move; (iterate 3 exact rfl))
       | (apply H_field; (iterate 6 exact rfl)) | (apply H_pick; (iterate 4 exact rfl))
       | (apply H_load; exact rfl; (first | exact I0 | exact I1 | exact I2 | exact I3 | exact I4 | exact I5 | exact I6); (iterate 4 exact rfl))
       | (apply H_cmp (b := true); (iterate 2 exact rfl); (focus (first | (simp [cmpI]; done) | (simp [cmpI]; omega))); (iterate 2 exact rfl))
       | (apply H_lenrow; exact rfl; (first | exact I0 | exact I1 | exact I2 | exact I3 | exact I4 | exact I5 | exact I6); (iterate 3 exact rfl)) | (apply H_nilck; (iterate 3 exact rfl))
       | (apply H_rowfield; exact rfl; (first | exact I0 | exact I1 | exact I2 | exact I3 | exact I4 | exact I5 | exact I6); (focus (first | omega | (simp; done) | (simp; omega))); (iterate 5 exact rfl))
       | (apply H_rowidx; exact rfl; (first | exact I0 | exact I1 | exact I2 | exact I3 | exact I4 | exact I5 | exact I6); (iterate 2 exact rfl); (focus (first | assumption | omega | (constructor <;> (first | (simp; done) | (simp; omega))))); (iterate 2 exact rfl))
       | ((with_reducible apply EH.nil); exact rfl))
    repeat
      (first
       | (apply P_move; (iterate 3 exact rfl)) | (apply P_assign; (iterate 3 exact rfl)) | (apply P_ar; (iterate 3 exact rfl); (focus omega); (focus omega); (iterate 2 exact rfl)) | apply EL.nil
       | ((with_reducible apply EK.then_normal); apply EK.code) | (apply EC.cond_true; exact rfl)
       | (with_reducible first | apply EC.seq | apply EC.region | apply EC.skip | apply EC.label | apply EC.block | apply EC.exit | apply EC.ret | apply EK.in_normal | apply EK.in_same | apply EK.in_ret | apply EK.then_ret | apply EK.then_exit))
    refine EK.again ⟨i + 1, by omega⟩ (by dsimp only; omega) ?_
    simp only [Int.natCast_add]
    exact (Le.keep (by repeat first | exact trivial | refine ⟨rfl, ?_⟩) (by repeat first | exact List.nil_sublist _ | apply List.Sublist.cons_cons | apply List.Sublist.cons) (by simp))
  · obtain rfl : i = kk := by omega
    rw [show Op.bytesLess l[i].a a = false by rw [he]; exact bl_irr _] at hb
    have hne := (bin_addr l[i].a a).2
    rw [show (l[i].a != a) = false by rw [he]; simp] at hne
    repeat
      (first
       | (with_reducible first | apply EC.seq | apply EC.region | apply EC.skip | apply EC.label | apply EC.block | apply EC.exit | apply EC.ret | apply EK.in_normal | apply EK.in_same | apply EK.in_ret | apply EK.then_ret | apply EK.then_exit))
    refine EC.draw 21 (by kernel_rfl) ?_
    simp only [List.take_succ_cons, List.take_zero, List.drop_succ_cons, List.drop_zero]
    repeat
      (first
       | (apply H_slrow; exact sl_addr; exact rfl; exact I2; (rw [hml]; omega); (iterate 2 exact rfl))
       | (apply H_strrow (k := i) (off := 0) (d := dAcL l[i]); exact rfl; exact I2; exact ⟨by simp, hd⟩; (iterate 4 exact rfl)) | (apply H_slarr; exact sl_addr; (iterate 3 exact rfl))
       | (apply H_strvar; exact rfl; exact I0; (iterate 4 exact rfl)) | (apply H_bin; (iterate 2 exact rfl); exact hb; (iterate 2 exact rfl)) | (apply H_move; (iterate 3 exact rfl))
       | (apply H_field; (iterate 6 exact rfl)) | (apply H_pick; (iterate 4 exact rfl))
       | (apply H_load; exact rfl; (first | exact I0 | exact I1 | exact I2 | exact I3 | exact I4 | exact I5 | exact I6); (iterate 4 exact rfl))
       | (apply H_cmp (b := true); (iterate 2 exact rfl); (focus (first | (simp [cmpI]; done) | (simp [cmpI]; omega))); (iterate 2 exact rfl))
       | (apply H_lenrow; exact rfl; (first | exact I0 | exact I1 | exact I2 | exact I3 | exact I4 | exact I5 | exact I6); (iterate 3 exact rfl)) | (apply H_nilck; (iterate 3 exact rfl))
       | (apply H_rowfield; exact rfl; (first | exact I0 | exact I1 | exact I2 | exact I3 | exact I4 | exact I5 | exact I6); (focus (first | omega | (simp; done) | (simp; omega))); (iterate 5 exact rfl))
       | (apply H_rowidx; exact rfl; (first | exact I0 | exact I1 | exact I2 | exact I3 | exact I4 | exact I5 | exact I6); (iterate 2 exact rfl); (focus (first | assumption | omega | (constructor <;> (first | (simp; done) | (simp; omega))))); (iterate 2 exact rfl))
       | ((with_reducible apply EH.nil); exact rfl))
    repeat
      (first
       | apply EL.nil | ((with_reducible apply EK.then_normal); apply EK.code) | (apply EC.cond_false; exact rfl)
       | (with_reducible first | apply EC.seq | apply EC.region | apply EC.skip | apply EC.label | apply EC.block | apply EC.exit | apply EC.ret | apply EK.in_normal | apply EK.in_same | apply EK.in_ret | apply EK.then_ret | apply EK.then_exit))
    refine EC.draw 19 (by kernel_rfl) ?_
    simp only [List.take_succ_cons, List.take_zero, List.drop_succ_cons, List.drop_zero]
    repeat
      (first
       | (apply H_rowload (k := i) (off := 0) (d := dAcL l[i]); exact rfl; exact I2; exact ⟨by simp, hd⟩; (iterate 4 exact rfl)) | (apply H_bin; (iterate 2 exact rfl); exact hne; (iterate 2 exact rfl))
       | (apply H_move; (iterate 3 exact rfl)) | (apply H_field; (iterate 6 exact rfl)) | (apply H_pick; (iterate 4 exact rfl))
       | (apply H_load; exact rfl; (first | exact I0 | exact I1 | exact I2 | exact I3 | exact I4 | exact I5 | exact I6); (iterate 4 exact rfl))
       | (apply H_cmp (b := false); (iterate 2 exact rfl); (focus (first | (simp [cmpI]; done) | (simp [cmpI]; omega))); (iterate 2 exact rfl))
       | (apply H_lenrow; exact rfl; (first | exact I0 | exact I1 | exact I2 | exact I3 | exact I4 | exact I5 | exact I6); (iterate 3 exact rfl)) | (apply H_nilck; (iterate 3 exact rfl))
       | (apply H_rowfield; exact rfl; (first | exact I0 | exact I1 | exact I2 | exact I3 | exact I4 | exact I5 | exact I6); (focus (first | omega | (simp; done) | (simp; omega))); (iterate 5 exact rfl))
       | (apply H_rowidx; exact rfl; (first | exact I0 | exact I1 | exact I2 | exact I3 | exact I4 | exact I5 | exact I6); (iterate 2 exact rfl); (focus (first | assumption | omega | (constructor <;> (first | (simp; done) | (simp; omega))))); (iterate 2 exact rfl))
       | ((with_reducible apply EH.nil); exact rfl))
    repeat
      (first
       | (apply P_move; (iterate 3 exact rfl)) | (apply P_assign; (iterate 3 exact rfl)) | (apply P_field; (iterate 6 exact rfl))
       | (apply P_load; exact rfl; (first | exact I0 | exact I1 | exact I2 | exact I3 | exact I4 | exact I5 | exact I6); (iterate 4 exact rfl)) | (apply P_nilck; (iterate 3 exact rfl))
       | (apply P_rowidx; exact rfl; (first | exact I0 | exact I1 | exact I2 | exact I3 | exact I4 | exact I5 | exact I6); (iterate 2 exact rfl); (focus (first | assumption | omega | (constructor <;> (first | (simp; done) | (simp; omega))))); (iterate 2 exact rfl))
       | apply EL.nil | ((with_reducible apply EK.then_normal); apply EK.code) | (apply EC.cond_false; exact rfl)
       | (with_reducible first | apply EC.seq | apply EC.region | apply EC.skip | apply EC.label | apply EC.block | apply EC.exit | apply EC.ret | apply EK.in_normal | apply EK.in_same | apply EK.in_ret | apply EK.then_ret | apply EK.then_exit))
    exact EK.retM1s [rsO g L k n, raA L l] rfl rfl (by (repeat first | exact List.nil_sublist _ | apply List.Sublist.cons_cons | apply List.Sublist.cons)) ⟨rfl, rfl⟩
set_option maxRecDepth 20000 in
set_option maxHeartbeats 8000000 in
theorem rat_out {g : Nat} {L k : Value} {n : Int} (l : List AcL) (a : List UInt8) (hll : l.length < 1099511627) (kk : Nat) (hkk : kk ≤ l.length) (hlo : ∀ j (hj : j < l.length), j < kk → Op.bytesLess l[j].a a = true) (hhi : ∀ hj : kk < l.length, Op.bytesLess l[kk].a a = false ∧ (l[kk].a != a) = true) : FnM 113 [.v (ptr g), .arr 20 a] [rsO g L k n, raA L l] (fun r os' => ∃ L', r = .val (.v (elemPtr L' ((kk : Int).toNat * 55))) ∧ os' = [rsO g L' k n, raA L' (l.take kk ++ AcL.none a :: l.drop kk)]) := by
  have hml : (l.map dAcL).length = l.length := List.length_map _
  refine FnM.walk 78 Tryz.func113 rfl Tryz.ntmps113 (by simp) fun X => ?_
  repeat
    (first
     | (apply P_assign; (iterate 3 exact rfl)) | (apply P_box; exact rfl; exact rfl; exact rfl; intro _) | apply EL.nil | ((with_reducible apply EK.then_normal); apply EK.code)
     | (with_reducible first | apply EC.seq | apply EC.region | apply EC.skip | apply EC.label | apply EC.block | apply EC.exit | apply EC.ret | apply EK.in_normal | apply EK.in_same | apply EK.in_ret | apply EK.then_ret | apply EK.then_exit))
  rename_i g3
  refine EC.loop (ι := {i : Nat // i ≤ kk})
    (fun i => ⟨[(5, .val (.v (.int .i64 (i.1 : Int)))), (3, .val (.v (.pointer (some ⟨g3, 0, none⟩)))), (0, .val (.v (ptr g)))], [.var g3 32 (.arr 20 a), rsO g L k n, raA L l], []⟩)
    (fun i => kk - i.1) ⟨0, by omega⟩ ?_ ?_
  · exact (Le.keep (by repeat first | exact trivial | refine ⟨rfl, ?_⟩) (by repeat first | exact List.nil_sublist _ | apply List.Sublist.cons_cons | apply List.Sublist.cons) (by simp))
  rintro ⟨i, hi⟩
  dsimp only at hi ⊢
  by_cases hlt : i < kk
  · have hil : i < l.length := by omega
    have hd : (l.map dAcL)[i]? = some (dAcL l[i]) := by rw [List.getElem?_map, List.getElem?_eq_getElem hil]; rfl
    have hb := bin_strlt l[i].a a
    rw [hlo i hil hlt] at hb
    repeat
      (first
       | (with_reducible first | apply EC.seq | apply EC.region | apply EC.skip | apply EC.label | apply EC.block | apply EC.exit | apply EC.ret | apply EK.in_normal | apply EK.in_same | apply EK.in_ret | apply EK.then_ret | apply EK.then_exit))
    refine EC.draw 21 (by kernel_rfl) ?_
    simp only [List.take_succ_cons, List.take_zero, List.drop_succ_cons, List.drop_zero]
    repeat
      (first
       | (apply H_slrow; exact sl_addr; exact rfl; exact I2; (rw [hml]; omega); (iterate 2 exact rfl))
       | (apply H_strrow (k := i) (off := 0) (d := dAcL l[i]); exact rfl; exact I2; exact ⟨by simp, hd⟩; (iterate 4 exact rfl)) | (apply H_slarr; exact sl_addr; (iterate 3 exact rfl))
       | (apply H_strvar; exact rfl; exact I0; (iterate 4 exact rfl)) | (apply H_bin; (iterate 2 exact rfl); exact hb; (iterate 2 exact rfl)) | (apply H_move; (iterate 3 exact rfl))
       | (apply H_field; (iterate 6 exact rfl)) | (apply H_pick; (iterate 4 exact rfl))
       | (apply H_load; exact rfl; (first | exact I0 | exact I1 | exact I2 | exact I3 | exact I4 | exact I5 | exact I6); (iterate 4 exact rfl))
       | (apply H_cmp (b := true); (iterate 2 exact rfl); (focus (first | (simp [cmpI]; done) | (simp [cmpI]; omega))); (iterate 2 exact rfl))
       | (apply H_lenrow; exact rfl; (first | exact I0 | exact I1 | exact I2 | exact I3 | exact I4 | exact I5 | exact I6); (iterate 3 exact rfl)) | (apply H_nilck; (iterate 3 exact rfl))
       | (apply H_rowfield; exact rfl; (first | exact I0 | exact I1 | exact I2 | exact I3 | exact I4 | exact I5 | exact I6); (focus (first | omega | (simp; done) | (simp; omega))); (iterate 5 exact rfl))
       | (apply H_rowidx; exact rfl; (first | exact I0 | exact I1 | exact I2 | exact I3 | exact I4 | exact I5 | exact I6); (iterate 2 exact rfl); (focus (first | assumption | omega | (constructor <;> (first | (simp; done) | (simp; omega))))); (iterate 2 exact rfl))
       | ((with_reducible apply EH.nil); exact rfl))
    repeat
      (first
       | (apply P_move; (iterate 3 exact rfl)) | (apply P_assign; (iterate 3 exact rfl)) | (apply P_ar; (iterate 3 exact rfl); (focus omega); (focus omega); (iterate 2 exact rfl)) | apply EL.nil
       | ((with_reducible apply EK.then_normal); apply EK.code) | (apply EC.cond_true; exact rfl)
       | (with_reducible first | apply EC.seq | apply EC.region | apply EC.skip | apply EC.label | apply EC.block | apply EC.exit | apply EC.ret | apply EK.in_normal | apply EK.in_same | apply EK.in_ret | apply EK.then_ret | apply EK.then_exit))
    refine EK.again ⟨i + 1, by omega⟩ (by dsimp only; omega) ?_
    simp only [Int.natCast_add]
    exact (Le.keep (by repeat first | exact trivial | refine ⟨rfl, ?_⟩) (by repeat first | exact List.nil_sublist _ | apply List.Sublist.cons_cons | apply List.Sublist.cons) (by simp))
  · obtain rfl : i = kk := by omega
    have hFr : ∀ F : List (Value × D), (L, D.sl 55 (l.map dAcL)) ∈ F → Refine F (.v L) (.sl 55 (l.map dAcL)) := fun F h => Rf.fact h rfl
    have hlen1 : ((l.map dAcL).drop i).length ≤ l.length := by rw [List.length_drop, hml]; omega
    have hlen2 : ((l.map dAcL).take i).length ≤ l.length := by rw [List.length_take, hml]; omega
    have hres : [] ++ (l.map dAcL).take i ++ [dAcL (AcL.none a)] ++ (l.map dAcL).drop i = (l.take i ++ AcL.none a :: l.drop i).map dAcL := by simp
    have hilen : i < ([] ++ (l.map dAcL).take i ++ [dAcL (AcL.none a)] ++ (l.map dAcL).drop i).length := by simp; omega
    by_cases hil : i < l.length
    · have hd : (l.map dAcL)[i]? = some (dAcL l[i]) := by rw [List.getElem?_map, List.getElem?_eq_getElem hil]; rfl
      have hb := bin_strlt l[i].a a
      rw [(hhi hil).1] at hb
      have hne := (bin_addr l[i].a a).2
      rw [(hhi hil).2] at hne
      repeat
        (first
         | (with_reducible first | apply EC.seq | apply EC.region | apply EC.skip | apply EC.label | apply EC.block | apply EC.exit | apply EC.ret | apply EK.in_normal | apply EK.in_same | apply EK.in_ret | apply EK.then_ret | apply EK.then_exit))
      refine EC.draw 21 (by kernel_rfl) ?_
      simp only [List.take_succ_cons, List.take_zero, List.drop_succ_cons, List.drop_zero]
      repeat
        (first
         | (apply H_slrow; exact sl_addr; exact rfl; exact I2; (rw [hml]; omega); (iterate 2 exact rfl))
         | (apply H_strrow (k := i) (off := 0) (d := dAcL l[i]); exact rfl; exact I2; exact ⟨by simp, hd⟩; (iterate 4 exact rfl)) | (apply H_slarr; exact sl_addr; (iterate 3 exact rfl))
         | (apply H_strvar; exact rfl; exact I0; (iterate 4 exact rfl)) | (apply H_bin; (iterate 2 exact rfl); exact hb; (iterate 2 exact rfl)) | (apply H_move; (iterate 3 exact rfl))
         | (apply H_field; (iterate 6 exact rfl)) | (apply H_pick; (iterate 4 exact rfl))
         | (apply H_load; exact rfl; (first | exact I0 | exact I1 | exact I2 | exact I3 | exact I4 | exact I5 | exact I6); (iterate 4 exact rfl))
         | (apply H_cmp (b := true); (iterate 2 exact rfl); (focus (first | (simp [cmpI]; done) | (simp [cmpI]; omega))); (iterate 2 exact rfl))
         | (apply H_lenrow; exact rfl; (first | exact I0 | exact I1 | exact I2 | exact I3 | exact I4 | exact I5 | exact I6); (iterate 3 exact rfl)) | (apply H_nilck; (iterate 3 exact rfl))
         | (apply H_rowfield; exact rfl; (first | exact I0 | exact I1 | exact I2 | exact I3 | exact I4 | exact I5 | exact I6); (focus (first | omega | (simp; done) | (simp; omega))); (iterate 5 exact rfl))
         | (apply H_rowidx; exact rfl; (first | exact I0 | exact I1 | exact I2 | exact I3 | exact I4 | exact I5 | exact I6); (iterate 2 exact rfl); (focus (first | assumption | omega | (constructor <;> (first | (simp; done) | (simp; omega))))); (iterate 2 exact rfl))
         | ((with_reducible apply EH.nil); exact rfl))
      repeat
        (first
         | apply EL.nil | ((with_reducible apply EK.then_normal); apply EK.code) | (apply EC.cond_false; exact rfl)
         | (with_reducible first | apply EC.seq | apply EC.region | apply EC.skip | apply EC.label | apply EC.block | apply EC.exit | apply EC.ret | apply EK.in_normal | apply EK.in_same | apply EK.in_ret | apply EK.then_ret | apply EK.then_exit))
      refine EC.draw 19 (by kernel_rfl) ?_
      simp only [List.take_succ_cons, List.take_zero, List.drop_succ_cons, List.drop_zero]
      repeat
        (first
         | (apply H_rowload (k := i) (off := 0) (d := dAcL l[i]); exact rfl; exact I2; exact ⟨by simp, hd⟩; (iterate 4 exact rfl)) | (apply H_bin; (iterate 2 exact rfl); exact hne; (iterate 2 exact rfl))
         | (apply H_move; (iterate 3 exact rfl)) | (apply H_field; (iterate 6 exact rfl)) | (apply H_pick; (iterate 4 exact rfl))
         | (apply H_load; exact rfl; (first | exact I0 | exact I1 | exact I2 | exact I3 | exact I4 | exact I5 | exact I6); (iterate 4 exact rfl))
         | (apply H_cmp (b := false); (iterate 2 exact rfl); (focus (first | (simp [cmpI]; done) | (simp [cmpI]; omega))); (iterate 2 exact rfl))
         | (apply H_lenrow; exact rfl; (first | exact I0 | exact I1 | exact I2 | exact I3 | exact I4 | exact I5 | exact I6); (iterate 3 exact rfl)) | (apply H_nilck; (iterate 3 exact rfl))
         | (apply H_rowfield; exact rfl; (first | exact I0 | exact I1 | exact I2 | exact I3 | exact I4 | exact I5 | exact I6); (focus (first | omega | (simp; done) | (simp; omega))); (iterate 5 exact rfl))
         | (apply H_rowidx; exact rfl; (first | exact I0 | exact I1 | exact I2 | exact I3 | exact I4 | exact I5 | exact I6); (iterate 2 exact rfl); (focus (first | assumption | omega | (constructor <;> (first | (simp; done) | (simp; omega))))); (iterate 2 exact rfl))
         | ((with_reducible apply EH.nil); exact rfl))
      repeat
        (first
         | (apply P_move; (iterate 3 exact rfl)) | (apply P_field; (iterate 6 exact rfl))
         | (apply P_load; exact rfl; (first | exact I0 | exact I1 | exact I2 | exact I3 | exact I4 | exact I5 | exact I6); (iterate 4 exact rfl)) | (apply P_nilck; (iterate 3 exact rfl)) | apply EL.nil
         | ((with_reducible apply EK.then_normal); apply EK.code) | (apply EC.cond_true; exact rfl)
         | (with_reducible first | apply EC.seq | apply EC.region | apply EC.skip | apply EC.label | apply EC.block | apply EC.exit | apply EC.ret | apply EK.in_normal | apply EK.in_same | apply EK.in_ret | apply EK.then_ret | apply EK.then_exit))
      refine EL.le (Le.freeze (pre := [_, _]) rfl) ?_
      refine EL.le (Le.pick [1, 0] [_, _] rfl (by decide) rfl) ?_
      refine EL.le (Le.varR (d' := .tup [.sl 55 (l.map dAcL), .v k, .v (.int .i64 n)]) (Rf.tup (RL.cons (hFr _ List.mem_cons_self) (RL.cons Rf.same (RL.cons Rf.same RL.nil))))) ?_
      refine EL.le (Le.refine (t := 52) rfl (hFr _ List.mem_cons_self)) ?_
      refine EL.le (Le.row 74 55) ?_
      repeat
        (first
         | (apply P_slfrom; (iterate 3 exact rfl); exact ⟨by omega, by rw [hml, Int.toNat_natCast]; omega⟩; (iterate 2 exact rfl)) | (apply P_assign; (iterate 3 exact rfl))
         | ((apply P_append; exact rfl; (focus (repeat first | exact .z | apply SetAt.s | apply SetAtF.s)); (iterate 5 exact rfl); (focus (constructor <;> (first | (simp; done) | (simp; omega))))); intro _)
         | apply EL.nil | ((with_reducible apply EK.then_normal); apply EK.code))
      rename_i v1
      dsimp only
      refine EC.le (Le.freeze (pre := []) rfl) ?_
      refine EC.le (Le.refine (t := 6) rfl (Rf.fact List.mem_cons_self rfl)) ?_
      refine EC.le (Le.row 74 55) ?_
      dsimp only
      refine EC.drawC 14 [0, 1, 2, 3, 4, 5, 6, 8, 9, 10, 12] [7, 11, 13] [_] _ (by kernel_rfl) (by kernel_rfl) rfl ?_
      simp only [pickL, List.filterMap_cons, List.filterMap_nil, List.getElem?_cons_zero, List.getElem?_cons_succ]
      repeat
        (first
         | (apply H_slto; (iterate 3 exact rfl); exact ⟨by omega, by rw [hml, Int.toNat_natCast]; omega⟩; (iterate 2 exact rfl)) | (apply H_move; (iterate 3 exact rfl)) | (apply H_field; (iterate 6 exact rfl))
         | (apply H_load; exact rfl; (first | exact I0 | exact I1 | exact I2 | exact I3 | exact I4 | exact I5 | exact I6); (iterate 4 exact rfl)) | (apply H_build; (iterate 7 exact rfl))
         | (apply H_lit; (iterate 9 exact rfl)) | (apply H_nilck; (iterate 3 exact rfl)))
      refine EM.nil ?_
      repeat (first | rw [List.cons_append] | rw [List.nil_append])
      refine CH.mut (os := [_]) (rest := []) rfl rfl (m_append rfl rfl rfl rfl rfl ⟨by simp; omega, by simp; omega⟩) ?_
      rintro _ _ ⟨v2, rfl, rfl⟩
      try simp only [St.put]
      repeat (first | rw [List.cons_append] | rw [List.nil_append])
      refine CH.mut (os := [_]) (rest := []) rfl rfl (m_append rfl rfl rfl rfl rfl ⟨by simp; omega, by simp; omega⟩) ?_
      rintro _ _ ⟨v3, rfl, rfl⟩
      try simp only [St.put]
      repeat (first | rw [List.cons_append] | rw [List.nil_append])
      refine CH.mut (os := [_]) (rest := []) rfl rfl (m_append rfl rfl rfl rfl rfl ⟨by simp; omega, by simp; omega⟩) ?_
      rintro _ _ ⟨v4, rfl, rfl⟩
      try simp only [St.put]
      repeat (first | rw [List.cons_append] | rw [List.nil_append])
      refine CH.nil ?_
      try simp only [List.drop_succ_cons, List.drop_zero]
      repeat
        (first
         | (apply P_move; (iterate 3 exact rfl)) | (apply P_assign; (iterate 3 exact rfl)) | (apply P_field; (iterate 6 exact rfl))
         | (apply P_load; exact rfl; (first | exact I0 | exact I1 | exact I2 | exact I3 | exact I4 | exact I5 | exact I6); (iterate 4 exact rfl)) | (apply P_nilck; (iterate 3 exact rfl))
         | (apply P_rowidx; exact rfl; (first | exact I0 | exact I1 | exact I2 | exact I3 | exact I4 | exact I5 | exact I6); (iterate 2 exact rfl); (focus (first | assumption | omega | (constructor <;> (first | (simp; done) | (simp; omega))))); (iterate 2 exact rfl))
         | (apply P_store; exact rfl; (focus (repeat first | exact .z | apply SetAt.s | apply SetAtF.s)); (iterate 4 exact rfl)) | apply EL.nil | ((with_reducible apply EK.then_normal); apply EK.code)
         | (with_reducible first | apply EC.seq | apply EC.region | apply EC.skip | apply EC.label | apply EC.block | apply EC.exit | apply EC.ret | apply EK.in_normal | apply EK.in_same | apply EK.in_ret | apply EK.then_ret | apply EK.then_exit))
      refine EK.le (Le.rowR (ds' := [] ++ (l.map dAcL).take i ++ [dAcL (AcL.none a)] ++ (l.map dAcL).drop i) (RL.append (RL.append (RefineL.refl _ _) (RL.cons (Rf.tup (RL.cons Rf.same (RL.cons Rf.same (RL.cons Rf.same (RL.cons Rf.bs0 (RL.cons Rf.sl0 RL.nil)))))) RL.nil)) (RefineL.refl _ _))) ?_
      refine EK.le (Le.pick [1, 0, 2] [_, _, _] rfl (by decide) rfl) ?_
      exact EK.retM1s [rsO g v4 k n, .row v4 74 55 ([] ++ (l.map dAcL).take i ++ [dAcL (AcL.none a)] ++ (l.map dAcL).drop i)] rfl rfl (by (repeat first | exact List.nil_sublist _ | apply List.Sublist.cons_cons | apply List.Sublist.cons)) ⟨v4, rfl, by rw [hres]⟩
    · skip
      repeat
        (first
         | (with_reducible first | apply EC.seq | apply EC.region | apply EC.skip | apply EC.label | apply EC.block | apply EC.exit | apply EC.ret | apply EK.in_normal | apply EK.in_same | apply EK.in_ret | apply EK.then_ret | apply EK.then_exit))
      refine EC.draw 21 (by kernel_rfl) ?_
      simp only [List.take_succ_cons, List.take_zero, List.drop_succ_cons, List.drop_zero]
      repeat
        (first
         | (apply H_skip; (iterate 2 exact rfl)) | (apply H_move; (iterate 3 exact rfl)) | (apply H_field; (iterate 6 exact rfl)) | (apply H_pick; (iterate 4 exact rfl))
         | (apply H_load; exact rfl; (first | exact I0 | exact I1 | exact I2 | exact I3 | exact I4 | exact I5 | exact I6); (iterate 4 exact rfl))
         | (apply H_cmp (b := false); (iterate 2 exact rfl); (focus (first | (simp [cmpI]; done) | (simp [cmpI]; omega))); (iterate 2 exact rfl))
         | (apply H_lenrow; exact rfl; (first | exact I0 | exact I1 | exact I2 | exact I3 | exact I4 | exact I5 | exact I6); (iterate 3 exact rfl)) | (apply H_nilck; (iterate 3 exact rfl))
         | ((with_reducible apply EH.nil); exact rfl))
      repeat
        (first
         | apply EL.nil | ((with_reducible apply EK.then_normal); apply EK.code) | (apply EC.cond_false; exact rfl)
         | (with_reducible first | apply EC.seq | apply EC.region | apply EC.skip | apply EC.label | apply EC.block | apply EC.exit | apply EC.ret | apply EK.in_normal | apply EK.in_same | apply EK.in_ret | apply EK.then_ret | apply EK.then_exit))
      refine EC.draw 19 (by kernel_rfl) ?_
      simp only [List.take_succ_cons, List.take_zero, List.drop_succ_cons, List.drop_zero]
      repeat
        (first
         | (apply H_skip; (iterate 2 exact rfl)) | (apply H_move; (iterate 3 exact rfl)) | (apply H_field; (iterate 6 exact rfl)) | (apply H_pick; (iterate 4 exact rfl))
         | (apply H_load; exact rfl; (first | exact I0 | exact I1 | exact I2 | exact I3 | exact I4 | exact I5 | exact I6); (iterate 4 exact rfl))
         | (apply H_cmp (b := true); (iterate 2 exact rfl); (focus (first | (simp [cmpI]; done) | (simp [cmpI]; omega))); (iterate 2 exact rfl))
         | (apply H_lenrow; exact rfl; (first | exact I0 | exact I1 | exact I2 | exact I3 | exact I4 | exact I5 | exact I6); (iterate 3 exact rfl)) | (apply H_nilck; (iterate 3 exact rfl))
         | ((with_reducible apply EH.nil); exact rfl))
      repeat
        (first
         | (apply P_move; (iterate 3 exact rfl)) | (apply P_field; (iterate 6 exact rfl))
         | (apply P_load; exact rfl; (first | exact I0 | exact I1 | exact I2 | exact I3 | exact I4 | exact I5 | exact I6); (iterate 4 exact rfl)) | (apply P_nilck; (iterate 3 exact rfl)) | apply EL.nil
         | ((with_reducible apply EK.then_normal); apply EK.code) | (apply EC.cond_true; exact rfl)
         | (with_reducible first | apply EC.seq | apply EC.region | apply EC.skip | apply EC.label | apply EC.block | apply EC.exit | apply EC.ret | apply EK.in_normal | apply EK.in_same | apply EK.in_ret | apply EK.then_ret | apply EK.then_exit))
      refine EL.le (Le.freeze (pre := [_, _]) rfl) ?_
      refine EL.le (Le.pick [1, 0] [_, _] rfl (by decide) rfl) ?_
      refine EL.le (Le.varR (d' := .tup [.sl 55 (l.map dAcL), .v k, .v (.int .i64 n)]) (Rf.tup (RL.cons (hFr _ List.mem_cons_self) (RL.cons Rf.same (RL.cons Rf.same RL.nil))))) ?_
      refine EL.le (Le.refine (t := 52) rfl (hFr _ List.mem_cons_self)) ?_
      refine EL.le (Le.row 74 55) ?_
      repeat
        (first
         | (apply P_slfrom; (iterate 3 exact rfl); exact ⟨by omega, by rw [hml, Int.toNat_natCast]; omega⟩; (iterate 2 exact rfl)) | (apply P_assign; (iterate 3 exact rfl))
         | ((apply P_append; exact rfl; (focus (repeat first | exact .z | apply SetAt.s | apply SetAtF.s)); (iterate 5 exact rfl); (focus (constructor <;> (first | (simp; done) | (simp; omega))))); intro _)
         | apply EL.nil | ((with_reducible apply EK.then_normal); apply EK.code))
      rename_i v1
      dsimp only
      refine EC.le (Le.freeze (pre := []) rfl) ?_
      refine EC.le (Le.refine (t := 6) rfl (Rf.fact List.mem_cons_self rfl)) ?_
      refine EC.le (Le.row 74 55) ?_
      dsimp only
      refine EC.drawC 14 [0, 1, 2, 3, 4, 5, 6, 8, 9, 10, 12] [7, 11, 13] [_] _ (by kernel_rfl) (by kernel_rfl) rfl ?_
      simp only [pickL, List.filterMap_cons, List.filterMap_nil, List.getElem?_cons_zero, List.getElem?_cons_succ]
      repeat
        (first
         | (apply H_slto; (iterate 3 exact rfl); exact ⟨by omega, by rw [hml, Int.toNat_natCast]; omega⟩; (iterate 2 exact rfl)) | (apply H_move; (iterate 3 exact rfl)) | (apply H_field; (iterate 6 exact rfl))
         | (apply H_load; exact rfl; (first | exact I0 | exact I1 | exact I2 | exact I3 | exact I4 | exact I5 | exact I6); (iterate 4 exact rfl)) | (apply H_build; (iterate 7 exact rfl))
         | (apply H_lit; (iterate 9 exact rfl)) | (apply H_nilck; (iterate 3 exact rfl)))
      refine EM.nil ?_
      repeat (first | rw [List.cons_append] | rw [List.nil_append])
      refine CH.mut (os := [_]) (rest := []) rfl rfl (m_append rfl rfl rfl rfl rfl ⟨by simp; omega, by simp; omega⟩) ?_
      rintro _ _ ⟨v2, rfl, rfl⟩
      try simp only [St.put]
      repeat (first | rw [List.cons_append] | rw [List.nil_append])
      refine CH.mut (os := [_]) (rest := []) rfl rfl (m_append rfl rfl rfl rfl rfl ⟨by simp; omega, by simp; omega⟩) ?_
      rintro _ _ ⟨v3, rfl, rfl⟩
      try simp only [St.put]
      repeat (first | rw [List.cons_append] | rw [List.nil_append])
      refine CH.mut (os := [_]) (rest := []) rfl rfl (m_append rfl rfl rfl rfl rfl ⟨by simp; omega, by simp; omega⟩) ?_
      rintro _ _ ⟨v4, rfl, rfl⟩
      try simp only [St.put]
      repeat (first | rw [List.cons_append] | rw [List.nil_append])
      refine CH.nil ?_
      try simp only [List.drop_succ_cons, List.drop_zero]
      repeat
        (first
         | (apply P_move; (iterate 3 exact rfl)) | (apply P_assign; (iterate 3 exact rfl)) | (apply P_field; (iterate 6 exact rfl))
         | (apply P_load; exact rfl; (first | exact I0 | exact I1 | exact I2 | exact I3 | exact I4 | exact I5 | exact I6); (iterate 4 exact rfl)) | (apply P_nilck; (iterate 3 exact rfl))
         | (apply P_rowidx; exact rfl; (first | exact I0 | exact I1 | exact I2 | exact I3 | exact I4 | exact I5 | exact I6); (iterate 2 exact rfl); (focus (first | assumption | omega | (constructor <;> (first | (simp; done) | (simp; omega))))); (iterate 2 exact rfl))
         | (apply P_store; exact rfl; (focus (repeat first | exact .z | apply SetAt.s | apply SetAtF.s)); (iterate 4 exact rfl)) | apply EL.nil | ((with_reducible apply EK.then_normal); apply EK.code)
         | (with_reducible first | apply EC.seq | apply EC.region | apply EC.skip | apply EC.label | apply EC.block | apply EC.exit | apply EC.ret | apply EK.in_normal | apply EK.in_same | apply EK.in_ret | apply EK.then_ret | apply EK.then_exit))
      refine EK.le (Le.rowR (ds' := [] ++ (l.map dAcL).take i ++ [dAcL (AcL.none a)] ++ (l.map dAcL).drop i) (RL.append (RL.append (RefineL.refl _ _) (RL.cons (Rf.tup (RL.cons Rf.same (RL.cons Rf.same (RL.cons Rf.same (RL.cons Rf.bs0 (RL.cons Rf.sl0 RL.nil)))))) RL.nil)) (RefineL.refl _ _))) ?_
      refine EK.le (Le.pick [1, 0, 2] [_, _, _] rfl (by decide) rfl) ?_
      exact EK.retM1s [rsO g v4 k n, .row v4 74 55 ([] ++ (l.map dAcL).take i ++ [dAcL (AcL.none a)] ++ (l.map dAcL).drop i)] rfl rfl (by (repeat first | exact List.nil_sublist _ | apply List.Sublist.cons_cons | apply List.Sublist.cons)) ⟨v4, rfl, by rw [hres]⟩
end E
end Go.Proofs.YtdhicdnmgmkpkaaGreat
/-
  The reference's state at accounts with code and slots: SetBalance, SetNonce, SetCode, Kill.
  Conditions: none.
-/
namespace Go.Proofs.YtdhicdnmgmkpkaaGreat
set_option linter.unusedVariables false
open Go.RowKit Mono Rlp Wd
namespace E
def AcL.Small (N : Nat) (x : AcL) : Prop := x.sl.length ≤ N ∧ x.cd.length ≤ 140737488355328
theorem AcL.Small.mono {N M : Nat} {x : AcL} (h : x.Small N) (hm : N ≤ M) : x.Small M := ⟨Nat.le_trans h.1 hm, h.2⟩
structure RL (A : As) (N : Nat) (l : List AcL) : Prop where
  bd : ∀ x ∈ l, x.Small N
  ord : l.Pairwise fun x y => x.a < y.a
  mem : ∀ x ∈ l, x.Is (A x.a)
  out : ∀ a, a ∉ l.map AcL.a → A a = Ac.zero
theorem AcL.none_is (a : List UInt8) : (AcL.none a).Is Ac.zero := ⟨rfl, rfl, rfl, .nil, fun p hp => by simp [AcL.none] at hp, fun k hk => absurd rfl hk⟩
theorem lt_bl {a b : List UInt8} (h : a < b) : Op.bytesLess a b = true := by rw [bl_iff]; simpa using h
theorem ge_bl {a b : List UInt8} (h : ¬ a < b) : Op.bytesLess a b = false := by rw [bl_iff]; simpa using h
theorem place (a : List UInt8) : ∀ (l : List AcL), l.Pairwise (fun x y => x.a < y.a) → ∃ l1 l2, (∀ x ∈ l1, x.a < a) ∧ ((∃ x, l = l1 ++ x :: l2 ∧ x.a = a ∧ ∀ y ∈ l2, a < y.a) ∨ (l = l1 ++ l2 ∧ ∀ y ∈ l2, a < y.a))
  | [], _ => ⟨[], [], fun x hx => by simp at hx, .inr ⟨rfl, fun y hy => by simp at hy⟩⟩
  | x :: l, h => by
    obtain ⟨h1, h2⟩ := List.pairwise_cons.1 h
    by_cases hlt : x.a < a
    · obtain ⟨l1, l2, h3, h4⟩ := place a l h2
      refine ⟨x :: l1, l2, fun y hy => ?_, ?_⟩
      · rcases List.mem_cons.1 hy with rfl | hy
        · exact hlt
        · exact h3 y hy
      · rcases h4 with ⟨y, rfl, hy, hz⟩ | ⟨rfl, hz⟩
        · exact .inl ⟨y, rfl, hy, hz⟩
        · exact .inr ⟨rfl, hz⟩
    · by_cases he : x.a = a
      · exact ⟨[], l, fun y hy => by simp at hy, .inl ⟨x, rfl, he, fun y hy => he ▸ h1 y hy⟩⟩
      · refine ⟨[], x :: l, fun y hy => by simp at hy, .inr ⟨rfl, fun y hy => ?_⟩⟩
        have hxa : a < x.a := Classical.byContradiction fun hn => he (List.le_antisymm (List.not_lt.1 hn) (List.not_lt.1 hlt))
        rcases List.mem_cons.1 hy with rfl | hy
        · exact hxa
        · exact List.lt_trans hxa (h1 y hy)
structure Amid (A : As) (N : Nat) (a : List UInt8) (l1 : List AcL) (x : AcL) (l2 : List AcL) : Prop where
  ad : x.a = a
  lo : ∀ y ∈ l1, y.a < a
  hi : ∀ y ∈ l2, a < y.a
  o1 : l1.Pairwise fun x y => x.a < y.a
  o2 : l2.Pairwise fun x y => x.a < y.a
  m1 : ∀ y ∈ l1, y.Is (A y.a)
  m2 : ∀ y ∈ l2, y.Is (A y.a)
  is : x.Is (A a)
  b1 : ∀ y ∈ l1, y.Small N
  b2 : ∀ y ∈ l2, y.Small N
  bx : x.Small N
  out : ∀ b, b ∉ l1.map AcL.a → b ∉ l2.map AcL.a → b ≠ a → A b = Ac.zero
theorem Amid.upd {A : As} {N M : Nat} {a : List UInt8} {l1 l2 : List AcL} {x x' : AcL} {y : Ac} (h : Amid A N a l1 x l2) (hx : x'.a = a) (hi : x'.Is y) (hs : x'.Small M) (hm : N ≤ M) : RL (A.upd a y) M (l1 ++ x' :: l2) := by
  refine ⟨fun u hu => ?_, List.pairwise_append.2 ⟨h.o1, List.pairwise_cons.2 ⟨fun z hz => hx ▸ h.hi z hz, h.o2⟩, fun u hu z hz => ?_⟩, fun u hu => ?_, fun b hb => ?_⟩
  · rcases List.mem_append.1 hu with hu | hu
    · exact (h.b1 u hu).mono hm
    · rcases List.mem_cons.1 hu with rfl | hu
      · exact hs
      · exact (h.b2 u hu).mono hm
  · rcases List.mem_cons.1 hz with rfl | hz
    · exact hx ▸ h.lo u hu
    · exact List.lt_trans (h.lo u hu) (h.hi z hz)
  · unfold As.upd
    rcases List.mem_append.1 hu with hu | hu
    · rw [if_neg fun e => List.lt_irrefl a (by have := h.lo u hu; rwa [← e] at this)]
      exact h.m1 u hu
    · rcases List.mem_cons.1 hu with rfl | hu
      · rw [if_pos hx.symm]
        exact hi
      · rw [if_neg fun e => List.lt_irrefl a (by have := h.hi u hu; rwa [← e] at this)]
        exact h.m2 u hu
  · unfold As.upd
    simp only [List.map_append, List.map_cons, List.mem_append, List.mem_cons, not_or] at hb
    rw [if_neg fun e => hb.2.1 (hx.trans e).symm]
    exact h.out b hb.1 hb.2.2 fun e => hb.2.1 (e.trans hx.symm)
theorem rat {g N : Nat} {L k : Value} {n : Int} {A : As} {l : List AcL} (h : RL A N l) (a : List UInt8) (hll : l.length < 1099511627) : FnM 113 [.v (ptr g), .arr 20 a] [rsO g L k n, raA L l] (fun r os' => ∃ L' l1 x l2, Amid A N a l1 x l2 ∧ l1.length + 1 + l2.length ≤ l.length + 1 ∧ r = .val (.v (elemPtr L' ((l1.length : Int).toNat * 55))) ∧ os' = [rsO g L' k n, raA L' (l1 ++ x :: l2)]) := by
  obtain ⟨l1, l2, h1, h2⟩ := place a l h.ord
  have hlo : ∀ j (hj : j < l.length), j < l1.length → Op.bytesLess l[j].a a = true := fun j hj hjl => by
    have e : l[j] = l1[j] := by rcases h2 with ⟨x, rfl, _⟩ | ⟨rfl, _⟩ <;> rw [List.getElem_append_left hjl]
    rw [e]
    exact lt_bl (h1 _ (List.getElem_mem hjl))
  rcases h2 with ⟨x, rfl, hx, h3⟩ | ⟨rfl, h3⟩
  · have hkk : l1.length < (l1 ++ x :: l2).length := by simp
    have he : (l1 ++ x :: l2)[l1.length].a = a := by rw [List.getElem_append_right (Nat.le_refl _)]; simpa using hx
    refine FnM.mono (rat_in (g := g) (L := L) (k := k) (n := n) (l1 ++ x :: l2) a (by omega) l1.length hkk hlo he) ?_
    rintro r _ ⟨rfl, rfl⟩
    have ho := List.pairwise_append.1 h.ord
    refine ⟨L, l1, x, l2, ⟨hx, h1, h3, ho.1, (List.pairwise_cons.1 ho.2.1).2, fun y hy => h.mem y (List.mem_append_left _ hy), fun y hy => h.mem y (List.mem_append_right _ (List.mem_cons_of_mem _ hy)), hx ▸ h.mem x (by simp), fun y hy => h.bd y (List.mem_append_left _ hy), fun y hy => h.bd y (List.mem_append_right _ (List.mem_cons_of_mem _ hy)), h.bd x (by simp), fun b hb1 hb2 hb => h.out b ?_⟩, by simp; omega, rfl, rfl⟩
    simp only [List.map_append, List.map_cons, List.mem_append, List.mem_cons, not_or]
    exact ⟨hb1, fun e => hb (e.trans hx), hb2⟩
  · refine FnM.mono (rat_out (g := g) (L := L) (k := k) (n := n) (l1 ++ l2) a hll l1.length (by simp) hlo fun hj => ?_) ?_
    · have hj2 : 0 < l2.length := by simp at hj; exact hj
      have e : (l1 ++ l2)[l1.length] = l2[0] := by rw [List.getElem_append_right (Nat.le_refl _)]; simp
      rw [e]
      have h4 := h3 _ (List.getElem_mem hj2)
      refine ⟨ge_bl fun h5 => List.lt_irrefl _ (List.lt_trans h4 h5), ?_⟩
      simp only [bne_iff_ne, ne_eq]
      exact fun e => List.lt_irrefl a (by rwa [e] at h4)
    · rintro r _ ⟨L', rfl, rfl⟩
      have ho := List.pairwise_append.1 h.ord
      have hnl : a ∉ (l1 ++ l2).map AcL.a := fun hm => by
        obtain ⟨y, hy, e⟩ := List.mem_map.1 hm
        rcases List.mem_append.1 hy with hy | hy
        · exact List.lt_irrefl a (by have := h1 y hy; rwa [e] at this)
        · exact List.lt_irrefl a (by have := h3 y hy; rwa [e] at this)
      refine ⟨L', l1, AcL.none a, l2, ⟨rfl, h1, h3, ho.1, ho.2.1, fun y hy => h.mem y (List.mem_append_left _ hy), fun y hy => h.mem y (List.mem_append_right _ hy), by rw [h.out a hnl]; exact AcL.none_is a, fun y hy => h.bd y (List.mem_append_left _ hy), fun y hy => h.bd y (List.mem_append_right _ hy), ⟨Nat.zero_le _, Nat.zero_le _⟩, fun b hb1 hb2 hb => h.out b ?_⟩, by simp; omega, rfl, by simp⟩
      simp only [List.map_append, List.mem_append, not_or]
      exact ⟨hb1, hb2⟩
end E
end Go.Proofs.YtdhicdnmgmkpkaaGreat
/-
  The reference's state at accounts with code and slots: SetBalance, SetNonce, SetCode, Kill.
  Conditions: none.
-/
namespace Go.Proofs.YtdhicdnmgmkpkaaGreat
set_option linter.unusedVariables false
open Go.RowKit Mono Rlp Wd
namespace E
def RSt (g : Nat) (A : As) (N : Nat) (os : List Obj) : Prop := ∃ L k n l, os = [rsO g L k n, raA L l] ∧ RL A N l ∧ l.length ≤ N
theorem set_amid (l1 l2 : List AcL) (x x' : AcL) : ((l1 ++ x :: l2).map dAcL).set l1.length (dAcL x') = (l1 ++ x' :: l2).map dAcL := by simp
theorem get_amid (l1 l2 : List AcL) (x : AcL) : ((l1 ++ x :: l2).map dAcL)[l1.length]? = some (dAcL x) := by simp
variable {g N : Nat} {A : As} {os : List Obj} {a : List UInt8}
theorem RSt.of {L k : Value} {n : Int} {l1 l2 : List AcL} {x x' : AcL} {y : Ac} (h : Amid A N a l1 x l2) (hl : l1.length + 1 + l2.length ≤ N + 1) (hx : x'.a = a) (hs : x'.Small (N + 1)) (hi : x'.Is y) : RSt g (A.upd a y) (N + 1) [rsO g L k n, raA L (l1 ++ x' :: l2)] := ⟨L, k, n, _, rfl, h.upd hx hi hs (Nat.le_succ _), by simp; omega⟩
set_option maxRecDepth 20000 in
set_option maxHeartbeats 8000000 in
theorem rs_setBalance (h : RSt g A N os) (hN : N ≤ 1000000) (w : List UInt8) : FnM 63 [.v (ptr g), .arr 20 a, .arr 32 w] os (fun r os' => r = .tpl [] ∧ RSt g (A.upd a {A a with w := w}) (N + 1) os') := by
  obtain ⟨L, k, n, l, rfl, hR, hlN⟩ := h
  have h1 := rat (g := g) (L := L) (k := k) (n := n) hR a (by omega)
  refine FnM.walk 12 Tryz.func63 rfl Tryz.ntmps63 (by simp) fun X => ?_
  repeat
    (first
     | (apply P_box; exact rfl; exact rfl; exact rfl; intro _) | apply EL.nil | ((with_reducible apply EK.then_normal); apply EK.code)
     | (with_reducible first | apply EC.seq | apply EC.region | apply EC.skip | apply EC.label | apply EC.block | apply EC.exit | apply EC.ret | apply EK.in_normal | apply EK.in_same | apply EK.in_ret | apply EK.then_ret | apply EK.then_exit))
  refine EC.le (Le.pick [2, 3, 0, 1] [_, _, _, _] rfl (by decide) rfl) ?_
  refine EC.drawC 4 [0, 1, 3] [2] [_, _] _ (by kernel_rfl) (by kernel_rfl) rfl ?_
  simp only [pickL, List.filterMap_cons, List.filterMap_nil, List.getElem?_cons_zero, List.getElem?_cons_succ]
  repeat
    (first
     | (apply H_move; (iterate 3 exact rfl)) | (apply H_load; exact rfl; (first | exact I0 | exact I1 | exact I2 | exact I3 | exact I4 | exact I5 | exact I6); (iterate 4 exact rfl)))
  refine EM.nil ?_
  repeat (first | rw [List.cons_append] | rw [List.nil_append])
  refine CH.callM (rest := []) h1 rfl rfl (RefineL.refl _ _) (by intro _ _; simp [go_sem]) rfl rfl ?_
  rintro _ _ ⟨L', l1, x, l2, ha, hll, rfl, rfl⟩
  try simp only [St.put]
  repeat (first | rw [List.cons_append] | rw [List.nil_append])
  refine CH.nil ?_
  try simp only [List.drop_succ_cons, List.drop_zero]
  have hd := get_amid l1 l2 x
  obtain ⟨xa, xn, xw, xc, xs⟩ := x
  repeat
    (first
     | (apply P_rowstore (k := l1.length) (off := 21) (d := dAcL ⟨xa, xn, xw, xc, xs⟩) (d'' := dAcL ⟨xa, xn, w, xc, xs⟩); exact rfl; exact .s .z; exact ⟨by simp, hd⟩; (iterate 4 exact rfl))
     | (apply P_rownil; exact rfl; (first | exact I0 | exact I1 | exact I2 | exact I3 | exact I4 | exact I5 | exact I6); (focus (first | omega | (simp; done) | (simp; omega))); (iterate 2 exact rfl))
     | (apply P_rowfield; exact rfl; (first | exact I0 | exact I1 | exact I2 | exact I3 | exact I4 | exact I5 | exact I6); (focus (first | omega | (simp; done) | (simp; omega))); (iterate 5 exact rfl))
     | apply EL.nil)
  have hs := ha.is
  exact EK.retM0n [rsO g L' k n, .row L' 74 55 (((l1 ++ ⟨xa, xn, xw, xc, xs⟩ :: l2).map dAcL).set l1.length (dAcL ⟨xa, xn, w, xc, xs⟩))] rfl (by (repeat first | exact List.nil_sublist _ | apply List.Sublist.cons_cons | apply List.Sublist.cons)) ⟨rfl, by rw [set_amid]; exact RSt.of ha (by omega) ha.ad (ha.bx.mono (Nat.le_succ _)) ⟨hs.n, rfl, hs.cd, hs.ord, hs.val, hs.all⟩⟩
set_option maxRecDepth 20000 in
set_option maxHeartbeats 8000000 in
theorem rs_setNonce (h : RSt g A N os) (hN : N ≤ 1000000) (v : Int) : FnM 62 [.v (ptr g), .arr 20 a, .v (.int .i64 v)] os (fun r os' => r = .tpl [] ∧ RSt g (A.upd a {A a with n := if v > 0 then v else 0}) (N + 1) os') := by
  obtain ⟨L, k, n, l, rfl, hR, hlN⟩ := h
  have h1 := rat (g := g) (L := L) (k := k) (n := n) hR a (by omega)
  refine FnM.walk 14 Tryz.func62 rfl Tryz.ntmps62 (by simp) fun X => ?_
  by_cases hv : v < 0
  · rw [show (if v > 0 then v else 0) = 0 by rw [if_neg (by omega)]]
    repeat
      (first
       | (apply P_callT h1 [_] rfl rfl (RefineL.refl _ _) (by intro _ _; simp [go_sem]) rfl rfl; rintro _ _ ⟨L', l1, x, l2, ha, hll, rfl, rfl⟩; simp only [List.cons_append, List.nil_append]; have hd := get_amid l1 l2 x; obtain ⟨xa, xn, xw, xc, xs⟩ := x)
       | (apply P_rowstore (k := l1.length) (off := 20) (d := dAcL ⟨xa, xn, xw, xc, xs⟩) (d'' := dAcL ⟨xa, 0, xw, xc, xs⟩); exact rfl; exact .s (.s .z); exact ⟨by simp, hd⟩; (iterate 4 exact rfl))
       | (apply P_move; (iterate 3 exact rfl)) | (apply P_assign; (iterate 3 exact rfl))
       | (apply P_load; exact rfl; (first | exact I0 | exact I1 | exact I2 | exact I3 | exact I4 | exact I5 | exact I6); (iterate 4 exact rfl))
       | (apply P_cmp (b := true); (iterate 2 exact rfl); (focus (first | (simp [cmpI]; done) | (simp [cmpI]; omega))); (iterate 2 exact rfl))
       | (apply P_rownil; exact rfl; (first | exact I0 | exact I1 | exact I2 | exact I3 | exact I4 | exact I5 | exact I6); (focus (first | omega | (simp; done) | (simp; omega))); (iterate 2 exact rfl))
       | (apply P_rowfield; exact rfl; (first | exact I0 | exact I1 | exact I2 | exact I3 | exact I4 | exact I5 | exact I6); (focus (first | omega | (simp; done) | (simp; omega))); (iterate 5 exact rfl))
       | (apply P_box; exact rfl; exact rfl; exact rfl; intro _) | apply EL.nil | ((with_reducible apply EK.then_normal); apply EK.code) | (apply EC.cond_true; exact rfl)
       | (with_reducible first | apply EC.seq | apply EC.region | apply EC.skip | apply EC.label | apply EC.block | apply EC.exit | apply EC.ret | apply EK.in_normal | apply EK.in_same | apply EK.in_ret | apply EK.then_ret | apply EK.then_exit))
    have hs := ha.is
    exact EK.retM0n [rsO g L' k n, .row L' 74 55 (((l1 ++ ⟨xa, xn, xw, xc, xs⟩ :: l2).map dAcL).set l1.length (dAcL ⟨xa, 0, xw, xc, xs⟩))] rfl (by (repeat first | exact List.nil_sublist _ | apply List.Sublist.cons_cons | apply List.Sublist.cons)) ⟨rfl, by rw [set_amid]; exact RSt.of ha (by omega) ha.ad (ha.bx.mono (Nat.le_succ _)) ⟨rfl, hs.w, hs.cd, hs.ord, hs.val, hs.all⟩⟩
  · rw [show (if v > 0 then v else 0) = v by split <;> omega]
    repeat
      (first
       | (apply P_callT h1 [_] rfl rfl (RefineL.refl _ _) (by intro _ _; simp [go_sem]) rfl rfl; rintro _ _ ⟨L', l1, x, l2, ha, hll, rfl, rfl⟩; simp only [List.cons_append, List.nil_append]; have hd := get_amid l1 l2 x; obtain ⟨xa, xn, xw, xc, xs⟩ := x)
       | (apply P_rowstore (k := l1.length) (off := 20) (d := dAcL ⟨xa, xn, xw, xc, xs⟩) (d'' := dAcL ⟨xa, v, xw, xc, xs⟩); exact rfl; exact .s (.s .z); exact ⟨by simp, hd⟩; (iterate 4 exact rfl))
       | (apply P_move; (iterate 3 exact rfl)) | (apply P_load; exact rfl; (first | exact I0 | exact I1 | exact I2 | exact I3 | exact I4 | exact I5 | exact I6); (iterate 4 exact rfl))
       | (apply P_cmp (b := false); (iterate 2 exact rfl); (focus (first | (simp [cmpI]; done) | (simp [cmpI]; omega))); (iterate 2 exact rfl))
       | (apply P_rownil; exact rfl; (first | exact I0 | exact I1 | exact I2 | exact I3 | exact I4 | exact I5 | exact I6); (focus (first | omega | (simp; done) | (simp; omega))); (iterate 2 exact rfl))
       | (apply P_rowfield; exact rfl; (first | exact I0 | exact I1 | exact I2 | exact I3 | exact I4 | exact I5 | exact I6); (focus (first | omega | (simp; done) | (simp; omega))); (iterate 5 exact rfl))
       | (apply P_box; exact rfl; exact rfl; exact rfl; intro _) | apply EL.nil | ((with_reducible apply EK.then_normal); apply EK.code) | (apply EC.cond_false; exact rfl)
       | (with_reducible first | apply EC.seq | apply EC.region | apply EC.skip | apply EC.label | apply EC.block | apply EC.exit | apply EC.ret | apply EK.in_normal | apply EK.in_same | apply EK.in_ret | apply EK.then_ret | apply EK.then_exit))
    have hs := ha.is
    exact EK.retM0n [rsO g L' k n, .row L' 74 55 (((l1 ++ ⟨xa, xn, xw, xc, xs⟩ :: l2).map dAcL).set l1.length (dAcL ⟨xa, v, xw, xc, xs⟩))] rfl (by (repeat first | exact List.nil_sublist _ | apply List.Sublist.cons_cons | apply List.Sublist.cons)) ⟨rfl, by rw [set_amid]; exact RSt.of ha (by omega) ha.ad (ha.bx.mono (Nat.le_succ _)) ⟨rfl, hs.w, hs.cd, hs.ord, hs.val, hs.all⟩⟩
set_option maxRecDepth 20000 in
set_option maxHeartbeats 8000000 in
theorem rs_setCode (h : RSt g A N os) (hN : N ≤ 1000000) (v : List UInt8) (hv : v.length ≤ 140737488355328) : FnM 64 [.v (ptr g), .arr 20 a, .bs v] os (fun r os' => r = .tpl [] ∧ RSt g (A.upd a {A a with cd := v}) (N + 1) os') := by
  obtain ⟨L, k, n, l, rfl, hR, hlN⟩ := h
  have h1 := rat (g := g) (L := L) (k := k) (n := n) hR a (by omega)
  refine FnM.walk 13 Tryz.func64 rfl Tryz.ntmps64 (by simp) fun X => ?_
  repeat
    (first
     | (apply P_callT h1 [_] rfl rfl (RefineL.refl _ _) (by intro _ _; simp [go_sem]) rfl rfl; rintro _ _ ⟨L', l1, x, l2, ha, hll, rfl, rfl⟩; simp only [List.cons_append, List.nil_append]; have hd := get_amid l1 l2 x; obtain ⟨xa, xn, xw, xc, xs⟩ := x)
     | (apply P_apnew hv; (iterate 3 exact rfl))
     | (apply P_rowstore (k := l1.length) (off := 53) (d := dAcL ⟨xa, xn, xw, xc, xs⟩) (d'' := dAcL ⟨xa, xn, xw, v, xs⟩); exact rfl; exact .s (.s .z); exact ⟨by simp, hd⟩; (iterate 4 exact rfl))
     | (apply P_move; (iterate 3 exact rfl)) | (apply P_load; exact rfl; (first | exact I0 | exact I1 | exact I2 | exact I3 | exact I4 | exact I5 | exact I6); (iterate 4 exact rfl))
     | (apply P_rownil; exact rfl; (first | exact I0 | exact I1 | exact I2 | exact I3 | exact I4 | exact I5 | exact I6); (focus (first | omega | (simp; done) | (simp; omega))); (iterate 2 exact rfl))
     | (apply P_rowfield; exact rfl; (first | exact I0 | exact I1 | exact I2 | exact I3 | exact I4 | exact I5 | exact I6); (focus (first | omega | (simp; done) | (simp; omega))); (iterate 5 exact rfl))
     | (apply P_box; exact rfl; exact rfl; exact rfl; intro _) | apply EL.nil | ((with_reducible apply EK.then_normal); apply EK.code)
     | (with_reducible first | apply EC.seq | apply EC.region | apply EC.skip | apply EC.label | apply EC.block | apply EC.exit | apply EC.ret | apply EK.in_normal | apply EK.in_same | apply EK.in_ret | apply EK.then_ret | apply EK.then_exit))
  have hs := ha.is
  exact EK.retM0n [rsO g L' k n, .row L' 74 55 (((l1 ++ ⟨xa, xn, xw, xc, xs⟩ :: l2).map dAcL).set l1.length (dAcL ⟨xa, xn, xw, v, xs⟩))] rfl (by (repeat first | exact List.nil_sublist _ | apply List.Sublist.cons_cons | apply List.Sublist.cons)) ⟨rfl, by rw [set_amid]; exact RSt.of ha (by omega) ha.ad ⟨Nat.le_trans ha.bx.1 (Nat.le_succ _), hv⟩ ⟨hs.n, hs.w, rfl, hs.ord, hs.val, hs.all⟩⟩
set_option maxRecDepth 20000 in
set_option maxHeartbeats 8000000 in
theorem rs_kill (h : RSt g A N os) (hN : N ≤ 1000000) : FnM 61 [.v (ptr g), .arr 20 a] os (fun r os' => r = .tpl [] ∧ RSt g (A.upd a Ac.zero) (N + 1) os') := by
  obtain ⟨L, k, n, l, rfl, hR, hlN⟩ := h
  have h1 := rat (g := g) (L := L) (k := k) (n := n) hR a (by omega)
  refine FnM.walk 10 Tryz.func61 rfl Tryz.ntmps61 (by simp) fun X => ?_
  repeat
    (first
     | (apply P_box; exact rfl; exact rfl; exact rfl; intro _) | apply EL.nil | ((with_reducible apply EK.then_normal); apply EK.code)
     | (with_reducible first | apply EC.seq | apply EC.region | apply EC.skip | apply EC.label | apply EC.block | apply EC.exit | apply EC.ret | apply EK.in_normal | apply EK.in_same | apply EK.in_ret | apply EK.then_ret | apply EK.then_exit))
  refine EC.le (Le.pick [1, 2, 0] [_, _, _] rfl (by decide) rfl) ?_
  refine EC.drawC 5 [0, 1, 3, 4] [2] [_, _] _ (by kernel_rfl) (by kernel_rfl) rfl ?_
  simp only [pickL, List.filterMap_cons, List.filterMap_nil, List.getElem?_cons_zero, List.getElem?_cons_succ]
  repeat
    (first
     | (apply H_move; (iterate 3 exact rfl)) | (apply H_load; exact rfl; (first | exact I0 | exact I1 | exact I2 | exact I3 | exact I4 | exact I5 | exact I6); (iterate 4 exact rfl))
     | (apply H_build; (iterate 7 exact rfl)))
  refine EM.nil ?_
  repeat (first | rw [List.cons_append] | rw [List.nil_append])
  refine CH.callM (rest := []) h1 rfl rfl (RefineL.refl _ _) (by intro _ _; simp [go_sem]) rfl rfl ?_
  rintro _ _ ⟨L', l1, x, l2, ha, hll, rfl, rfl⟩
  try simp only [St.put]
  repeat (first | rw [List.cons_append] | rw [List.nil_append])
  refine CH.nil ?_
  try simp only [List.drop_succ_cons, List.drop_zero]
  have hd := get_amid l1 l2 x
  repeat
    (first
     | (apply P_rowstore (k := l1.length) (off := 0) (d := dAcL x) (d'' := .tup [.arr 20 a, .v (.int .i64 0), .arr 32 zero32, .v nilS, .v nilS]); exact rfl; exact .s .z; exact ⟨by simp, hd⟩; (iterate 4 exact rfl))
     | (apply P_rownil; exact rfl; (first | exact I0 | exact I1 | exact I2 | exact I3 | exact I4 | exact I5 | exact I6); (focus (first | omega | (simp; done) | (simp; omega))); (iterate 2 exact rfl))
     | apply EL.nil)
  have hR2 : ∀ F : List (Value × D), RefineL F (((l1 ++ x :: l2).map dAcL).set l1.length (.tup [.arr 20 a, .v (.int .i64 0), .arr 32 zero32, .v nilS, .v nilS])) ((l1 ++ AcL.none a :: l2).map dAcL) := fun F => by
    rw [show (((l1 ++ x :: l2).map dAcL).set l1.length (D.tup [.arr 20 a, .v (.int .i64 0), .arr 32 zero32, .v nilS, .v nilS])) = l1.map dAcL ++ ([D.tup [.arr 20 a, .v (.int .i64 0), .arr 32 zero32, .v nilS, .v nilS]] ++ l2.map dAcL) by simp, show (l1 ++ AcL.none a :: l2).map dAcL = l1.map dAcL ++ ([dAcL (AcL.none a)] ++ l2.map dAcL) by simp]
    exact RL.append (RefineL.refl _ _) (RL.append (RL.cons (Rf.tup (RL.cons Rf.same (RL.cons Rf.same (RL.cons Rf.same (RL.cons Rf.bs0 (RL.cons Rf.sl0 RL.nil)))))) RL.nil) (RefineL.refl _ _))
  refine EK.le (Le.pick [1, 0, 2] [_, _, _] rfl (by decide) rfl) ?_
  refine EK.le (Le.rowR (hR2 _)) ?_
  refine EK.le (Le.pick [1, 0, 2] [_, _, _] rfl (by decide) rfl) ?_
  exact EK.retM0n [rsO g L' k n, raA L' (l1 ++ AcL.none a :: l2)] rfl (by (repeat first | exact List.nil_sublist _ | apply List.Sublist.cons_cons | apply List.Sublist.cons)) ⟨rfl, RSt.of ha (by omega) rfl ⟨Nat.zero_le _, Nat.zero_le _⟩ (AcL.none_is a)⟩
end E
end Go.Proofs.YtdhicdnmgmkpkaaGreat
