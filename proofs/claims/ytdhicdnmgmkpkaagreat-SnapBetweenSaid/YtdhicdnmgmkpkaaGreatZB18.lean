/-
  Merged (wip/tools/merge.py): RT1, SU7.
  Conditions: none.
-/
import Derived.Test.YtdhicdnmgmkpkaaGreatZB17
/-
  The reference's state at accounts with code and slots: at.
  Conditions: none.
-/
namespace Go.Proofs.YtdhicdnmgmkpkaaGreat
set_option linter.unusedVariables false
open Go.RowKit Mono Rlp Wd
namespace E
mutual
theorem RefineL.rows {ok : Nat → Prop} {w : World} {F : List (Value × D)} (hF : ∀ f ∈ F, Reads ok w f.2 [f.1]) {z : Nat} : ∀ (ds ds' : List D) (rows : List (List Value)), RefineL F ds ds' → ReadsRows ok w z ds rows → ReadsRows ok w z ds' rows
  | [], l, rows, h, hr => by rw [RefineL] at h; subst h; exact hr
  | d :: ds, l, rows, h, hr => by
    rw [RefineL] at h
    obtain ⟨d', ds', rfl, h1, h2⟩ := h
    rw [ReadsRows] at hr ⊢
    obtain ⟨r, rest, rfl, h3, h4, h5⟩ := hr
    exact ⟨r, rest, rfl, h3, (Refine.reads hF d d' r h1 h4).1, RefineL.rows hF ds ds' rest h2 h5⟩
end
theorem RefineL.length {F : List (Value × D)} : ∀ {ds ds' : List D}, RefineL F ds ds' → ds'.length = ds.length
  | [], l, h => by rw [RefineL] at h; subst h; rfl
  | d :: ds, l, h => by
    rw [RefineL] at h
    obtain ⟨d', ds', rfl, h1, h2⟩ := h
    rw [List.length_cons, List.length_cons, RefineL.length h2]
theorem RL.append {F : List (Value × D)} : ∀ {ds ds' es es' : List D}, RefineL F ds ds' → RefineL F es es' → RefineL F (ds ++ es) (ds' ++ es')
  | [], l, es, es', h, k => by rw [RefineL] at h; subst h; exact k
  | d :: ds, l, es, es', h, k => by
    rw [RefineL] at h
    obtain ⟨d', ds', rfl, h1, h2⟩ := h
    exact RL.cons h1 (RL.append h2 k)
theorem Le.rowR {N : Nat} {X : Cx N} {rs : List (Tmp × R)} {os : List Obj} {fs : List (Value × D)} {v : Value} {e z : Nat} {ds ds' : List D} (h : RefineL fs ds ds') : Le X ⟨rs, .row v e z ds :: os, fs⟩ ⟨rs, .row v e z ds' :: os, fs⟩ := fun a w ha => by
  have hok : ∀ b, X.ok (.row v e z ds :: os) w b ↔ X.ok (.row v e z ds' :: os) w b := fun b => ⟨fun hb => ⟨hb.1, hb.2.1, fun o ho => by
      rcases List.mem_cons.1 ho with rfl | ho
      · exact hb.2.2 (.row v e z ds) List.mem_cons_self
      · exact hb.2.2 o (List.mem_cons_of_mem _ ho)⟩, fun hb => ⟨hb.1, hb.2.1, fun o ho => by
      rcases List.mem_cons.1 ho with rfl | ho
      · exact hb.2.2 (.row v e z ds') List.mem_cons_self
      · exact hb.2.2 o (List.mem_cons_of_mem _ ho)⟩⟩
  have hap := List.pairwise_cons.1 ha.mem.apart
  have hf : ∀ f ∈ fs, Reads (X.ok (.row v e z ds' :: os) w) w f.2 [f.1] := fun f hf => Reads.mono (fun b hb => (hok b).1 hb) (fun _ _ => rfl) _ _ (ha.mem.fact f hf)
  refine ⟨⟨ha.mem.gr, List.pairwise_cons.2 ⟨fun p hp b e => hap.1 p hp b e, hap.2⟩, fun o ho => ?_, hf⟩, fun t' r hr => (ha.regs t' r hr).mono (fun b hb => (hok b).1 hb) fun _ _ => rfl, ha.size, ha.defers⟩
  rcases List.mem_cons.1 ho with rfl | ho
  · obtain ⟨rows, h1, h2⟩ := ha.mem.at_ (.row v e z ds) List.mem_cons_self
    refine ⟨rows, by rw [RefineL.length h]; exact h1, RefineL.rows hf _ _ _ h (ReadsRows.mono (fun b hb => (hok b).1 hb) (fun _ _ => rfl) _ _ _ h2)⟩
  · exact (ha.mem.at_ o (List.mem_cons_of_mem _ ho)).move (fun b hb => (hok b).1 hb) (fun _ _ => rfl) fun _ _ => rfl
abbrev raA (L : Value) (l : List AcL) : Obj := .row L 74 55 (l.map dAcL)
def AcL.none (a : List UInt8) : AcL := ⟨a, 0, zero32, [], []⟩
set_option maxRecDepth 20000 in
set_option maxHeartbeats 8000000 in
theorem rat_in {g : Nat} {L k : Value} {n : Int} (l : List AcL) (a : List UInt8) (hll : l.length < 1099511627776) (kk : Nat) (hkk : kk < l.length) (hlo : ∀ j (hj : j < l.length), j < kk → Op.bytesLess l[j].a a = true) (he : l[kk].a = a) : FnM 113 [.v (ptr g), .arr 20 a] [rsO g L k n, raA L l] (fun r os' => r = .val (.v (elemPtr L ((kk : Int).toNat * 55))) ∧ os' = [rsO g L k n, raA L l]) := by
  have hml : (l.map dAcL).length = l.length := List.length_map _
  refine FnM.walk 78 Tryz.func113 rfl Tryz.ntmps113 (by simp) fun X => ?_
  repeat
    (first
     | (apply P_assign; (iterate 3 exact rfl)) | (apply P_box; exact rfl; exact rfl; exact rfl; intro _) | apply EL.nil | ((with_reducible apply EK.then_normal); apply EK.code)
     | (with_reducible first | apply EC.seq | apply EC.region | apply EC.skip | apply EC.label | apply EC.block | apply EC.exit | apply EC.ret | apply EK.in_normal | apply EK.in_same | apply EK.in_ret | apply EK.then_ret | apply EK.then_exit))
  rename_i g3
  refine EC.loop (ι := {i : Nat // i ≤ kk})
    (fun i => ⟨[(5, .val (.v (.int .i64 (i.1 : Int)))), (3, .val (.v (.pointer (some ⟨g3, 0, none⟩)))), (0, .val (.v (ptr g)))], [.var g3 32 (.arr 20 a), rsO g L k n, raA L l], []⟩)
    (fun i => kk - i.1) ⟨0, by omega⟩ ?_ ?_
  · exact (Le.keep (by repeat first | exact trivial | refine ⟨rfl, ?_⟩) (by repeat first | exact List.nil_sublist _ | apply List.Sublist.cons_cons | apply List.Sublist.cons) (by simp))
  rintro ⟨i, hi⟩
  dsimp only at hi ⊢
  have hil : i < l.length := by omega
  have hd : (l.map dAcL)[i]? = some (dAcL l[i]) := by rw [List.getElem?_map, List.getElem?_eq_getElem hil]; rfl
  have hb := bin_strlt l[i].a a
  by_cases hlt : i < kk
  · rw [hlo i hil hlt] at hb
    repeat
      (first
       | (with_reducible first | apply EC.seq | apply EC.region | apply EC.skip | apply EC.label | apply EC.block | apply EC.exit | apply EC.ret | apply EK.in_normal | apply EK.in_same | apply EK.in_ret | apply EK.then_ret | apply EK.then_exit))
    refine EC.draw 21 (by kernel_rfl) ?_
    simp only [List.take_succ_cons, List.take_zero, List.drop_succ_cons, List.drop_zero]
    repeat
      (first
       | (apply H_slrow; exact sl_addr; exact rfl; exact I2; (rw [hml]; omega); (iterate 2 exact rfl))
       | (apply H_strrow (k := i) (off := 0) (d := dAcL l[i]); exact rfl; exact I2; exact ⟨by simp, hd⟩; (iterate 4 exact rfl)) | (apply H_slarr; exact sl_addr; (iterate 3 exact rfl))
       | (apply H_strvar; exact rfl; exact I0; (iterate 4 exact rfl)) | (apply H_bin; (iterate 2 exact rfl); exact hb; (iterate 2 exact rfl)) | (apply H_move; (iterate 3 exact rfl))
       | (apply H_field; (iterate 6 exact rfl)) | (apply H_pick; (iterate 4 exact rfl))
       | (apply H_load; exact rfl; (first | exact I0 | exact I1 | exact I2 | exact I3 | exact I4 | exact I5 | exact I6); (iterate 4 exact rfl))
       | (apply H_cmp (b := true); (iterate 2 exact rfl); (focus (first | (simp [cmpI]; done) | (simp [cmpI]; omega))); (iterate 2 exact rfl))
       | (apply H_lenrow; exact rfl; (first | exact I0 | exact I1 | exact I2 | exact I3 | exact I4 | exact I5 | exact I6); (iterate 3 exact rfl)) | (apply H_nilck; (iterate 3 exact rfl))
       | (apply H_rowfield; exact rfl; (first | exact I0 | exact I1 | exact I2 | exact I3 | exact I4 | exact I5 | exact I6); (focus (first | omega | (simp; done) | (simp; omega))); (iterate 5 exact rfl))
       | (apply H_rowidx; exact rfl; (first | exact I0 | exact I1 | exact I2 | exact I3 | exact I4 | exact I5 | exact I6); (iterate 2 exact rfl); (focus (first | assumption | omega | (constructor <;> (first | (simp; done) | (simp; omega))))); (iterate 2 exact rfl))
       | ((with_reducible apply EH.nil); exact rfl))
    repeat
      (first
       | (apply P_move; (iterate 3 exact rfl)) | (apply P_assign; (iterate 3 exact rfl)) | (apply P_ar; (iterate 3 exact rfl); (focus omega); (focus omega); (iterate 2 exact rfl)) | apply EL.nil
       | ((with_reducible apply EK.then_normal); apply EK.code) | (apply EC.cond_true; exact rfl)
       | (with_reducible first | apply EC.seq | apply EC.region | apply EC.skip | apply EC.label | apply EC.block | apply EC.exit | apply EC.ret | apply EK.in_normal | apply EK.in_same | apply EK.in_ret | apply EK.then_ret | apply EK.then_exit))
    refine EK.again ⟨i + 1, by omega⟩ (by dsimp only; omega) ?_
    simp only [Int.natCast_add]
    exact (Le.keep (by repeat first | exact trivial | refine ⟨rfl, ?_⟩) (by repeat first | exact List.nil_sublist _ | apply List.Sublist.cons_cons | apply List.Sublist.cons) (by simp))
  · obtain rfl : i = kk := by omega
    rw [show Op.bytesLess l[i].a a = false by rw [he]; exact bl_irr _] at hb
    have hne := (bin_addr l[i].a a).2
    rw [show (l[i].a != a) = false by rw [he]; simp] at hne
    repeat
      (first
       | (with_reducible first | apply EC.seq | apply EC.region | apply EC.skip | apply EC.label | apply EC.block | apply EC.exit | apply EC.ret | apply EK.in_normal | apply EK.in_same | apply EK.in_ret | apply EK.then_ret | apply EK.then_exit))
    refine EC.draw 21 (by kernel_rfl) ?_
    simp only [List.take_succ_cons, List.take_zero, List.drop_succ_cons, List.drop_zero]
    repeat
      (first
       | (apply H_slrow; exact sl_addr; exact rfl; exact I2; (rw [hml]; omega); (iterate 2 exact rfl))
       | (apply H_strrow (k := i) (off := 0) (d := dAcL l[i]); exact rfl; exact I2; exact ⟨by simp, hd⟩; (iterate 4 exact rfl)) | (apply H_slarr; exact sl_addr; (iterate 3 exact rfl))
       | (apply H_strvar; exact rfl; exact I0; (iterate 4 exact rfl)) | (apply H_bin; (iterate 2 exact rfl); exact hb; (iterate 2 exact rfl)) | (apply H_move; (iterate 3 exact rfl))
       | (apply H_field; (iterate 6 exact rfl)) | (apply H_pick; (iterate 4 exact rfl))
       | (apply H_load; exact rfl; (first | exact I0 | exact I1 | exact I2 | exact I3 | exact I4 | exact I5 | exact I6); (iterate 4 exact rfl))
       | (apply H_cmp (b := true); (iterate 2 exact rfl); (focus (first | (simp [cmpI]; done) | (simp [cmpI]; omega))); (iterate 2 exact rfl))
       | (apply H_lenrow; exact rfl; (first | exact I0 | exact I1 | exact I2 | exact I3 | exact I4 | exact I5 | exact I6); (iterate 3 exact rfl)) | (apply H_nilck; (iterate 3 exact rfl))
       | (apply H_rowfield; exact rfl; (first | exact I0 | exact I1 | exact I2 | exact I3 | exact I4 | exact I5 | exact I6); (focus (first | omega | (simp; done) | (simp; omega))); (iterate 5 exact rfl))
       | (apply H_rowidx; exact rfl; (first | exact I0 | exact I1 | exact I2 | exact I3 | exact I4 | exact I5 | exact I6); (iterate 2 exact rfl); (focus (first | assumption | omega | (constructor <;> (first | (simp; done) | (simp; omega))))); (iterate 2 exact rfl))
       | ((with_reducible apply EH.nil); exact rfl))
    repeat
      (first
       | apply EL.nil | ((with_reducible apply EK.then_normal); apply EK.code) | (apply EC.cond_false; exact rfl)
       | (with_reducible first | apply EC.seq | apply EC.region | apply EC.skip | apply EC.label | apply EC.block | apply EC.exit | apply EC.ret | apply EK.in_normal | apply EK.in_same | apply EK.in_ret | apply EK.then_ret | apply EK.then_exit))
    refine EC.draw 19 (by kernel_rfl) ?_
    simp only [List.take_succ_cons, List.take_zero, List.drop_succ_cons, List.drop_zero]
    repeat
      (first
       | (apply H_rowload (k := i) (off := 0) (d := dAcL l[i]); exact rfl; exact I2; exact ⟨by simp, hd⟩; (iterate 4 exact rfl)) | (apply H_bin; (iterate 2 exact rfl); exact hne; (iterate 2 exact rfl))
       | (apply H_move; (iterate 3 exact rfl)) | (apply H_field; (iterate 6 exact rfl)) | (apply H_pick; (iterate 4 exact rfl))
       | (apply H_load; exact rfl; (first | exact I0 | exact I1 | exact I2 | exact I3 | exact I4 | exact I5 | exact I6); (iterate 4 exact rfl))
       | (apply H_cmp (b := false); (iterate 2 exact rfl); (focus (first | (simp [cmpI]; done) | (simp [cmpI]; omega))); (iterate 2 exact rfl))
       | (apply H_lenrow; exact rfl; (first | exact I0 | exact I1 | exact I2 | exact I3 | exact I4 | exact I5 | exact I6); (iterate 3 exact rfl)) | (apply H_nilck; (iterate 3 exact rfl))
       | (apply H_rowfield; exact rfl; (first | exact I0 | exact I1 | exact I2 | exact I3 | exact I4 | exact I5 | exact I6); (focus (first | omega | (simp; done) | (simp; omega))); (iterate 5 exact rfl))
       | (apply H_rowidx; exact rfl; (first | exact I0 | exact I1 | exact I2 | exact I3 | exact I4 | exact I5 | exact I6); (iterate 2 exact rfl); (focus (first | assumption | omega | (constructor <;> (first | (simp; done) | (simp; omega))))); (iterate 2 exact rfl))
       | ((with_reducible apply EH.nil); exact rfl))
    repeat
      (first
       | (apply P_move; (iterate 3 exact rfl)) | (apply P_assign; (iterate 3 exact rfl)) | (apply P_field; (iterate 6 exact rfl))
       | (apply P_load; exact rfl; (first | exact I0 | exact I1 | exact I2 | exact I3 | exact I4 | exact I5 | exact I6); (iterate 4 exact rfl)) | (apply P_nilck; (iterate 3 exact rfl))
       | (apply P_rowidx; exact rfl; (first | exact I0 | exact I1 | exact I2 | exact I3 | exact I4 | exact I5 | exact I6); (iterate 2 exact rfl); (focus (first | assumption | omega | (constructor <;> (first | (simp; done) | (simp; omega))))); (iterate 2 exact rfl))
       | apply EL.nil | ((with_reducible apply EK.then_normal); apply EK.code) | (apply EC.cond_false; exact rfl)
       | (with_reducible first | apply EC.seq | apply EC.region | apply EC.skip | apply EC.label | apply EC.block | apply EC.exit | apply EC.ret | apply EK.in_normal | apply EK.in_same | apply EK.in_ret | apply EK.then_ret | apply EK.then_exit))
    exact EK.retM1s [rsO g L k n, raA L l] rfl rfl (by (repeat first | exact List.nil_sublist _ | apply List.Sublist.cons_cons | apply List.Sublist.cons)) ⟨rfl, rfl⟩
set_option maxRecDepth 20000 in
set_option maxHeartbeats 8000000 in
theorem rat_out {g : Nat} {L k : Value} {n : Int} (l : List AcL) (a : List UInt8) (hll : l.length < 1099511627) (kk : Nat) (hkk : kk ≤ l.length) (hlo : ∀ j (hj : j < l.length), j < kk → Op.bytesLess l[j].a a = true) (hhi : ∀ hj : kk < l.length, Op.bytesLess l[kk].a a = false ∧ (l[kk].a != a) = true) : FnM 113 [.v (ptr g), .arr 20 a] [rsO g L k n, raA L l] (fun r os' => ∃ L', r = .val (.v (elemPtr L' ((kk : Int).toNat * 55))) ∧ os' = [rsO g L' k n, raA L' (l.take kk ++ AcL.none a :: l.drop kk)]) := by
  have hml : (l.map dAcL).length = l.length := List.length_map _
  refine FnM.walk 78 Tryz.func113 rfl Tryz.ntmps113 (by simp) fun X => ?_
  repeat
    (first
     | (apply P_assign; (iterate 3 exact rfl)) | (apply P_box; exact rfl; exact rfl; exact rfl; intro _) | apply EL.nil | ((with_reducible apply EK.then_normal); apply EK.code)
     | (with_reducible first | apply EC.seq | apply EC.region | apply EC.skip | apply EC.label | apply EC.block | apply EC.exit | apply EC.ret | apply EK.in_normal | apply EK.in_same | apply EK.in_ret | apply EK.then_ret | apply EK.then_exit))
  rename_i g3
  refine EC.loop (ι := {i : Nat // i ≤ kk})
    (fun i => ⟨[(5, .val (.v (.int .i64 (i.1 : Int)))), (3, .val (.v (.pointer (some ⟨g3, 0, none⟩)))), (0, .val (.v (ptr g)))], [.var g3 32 (.arr 20 a), rsO g L k n, raA L l], []⟩)
    (fun i => kk - i.1) ⟨0, by omega⟩ ?_ ?_
  · exact (Le.keep (by repeat first | exact trivial | refine ⟨rfl, ?_⟩) (by repeat first | exact List.nil_sublist _ | apply List.Sublist.cons_cons | apply List.Sublist.cons) (by simp))
  rintro ⟨i, hi⟩
  dsimp only at hi ⊢
  by_cases hlt : i < kk
  · have hil : i < l.length := by omega
    have hd : (l.map dAcL)[i]? = some (dAcL l[i]) := by rw [List.getElem?_map, List.getElem?_eq_getElem hil]; rfl
    have hb := bin_strlt l[i].a a
    rw [hlo i hil hlt] at hb
    repeat
      (first
       | (with_reducible first | apply EC.seq | apply EC.region | apply EC.skip | apply EC.label | apply EC.block | apply EC.exit | apply EC.ret | apply EK.in_normal | apply EK.in_same | apply EK.in_ret | apply EK.then_ret | apply EK.then_exit))
    refine EC.draw 21 (by kernel_rfl) ?_
    simp only [List.take_succ_cons, List.take_zero, List.drop_succ_cons, List.drop_zero]
    repeat
      (first
       | (apply H_slrow; exact sl_addr; exact rfl; exact I2; (rw [hml]; omega); (iterate 2 exact rfl))
       | (apply H_strrow (k := i) (off := 0) (d := dAcL l[i]); exact rfl; exact I2; exact ⟨by simp, hd⟩; (iterate 4 exact rfl)) | (apply H_slarr; exact sl_addr; (iterate 3 exact rfl))
       | (apply H_strvar; exact rfl; exact I0; (iterate 4 exact rfl)) | (apply H_bin; (iterate 2 exact rfl); exact hb; (iterate 2 exact rfl)) | (apply H_move; (iterate 3 exact rfl))
       | (apply H_field; (iterate 6 exact rfl)) | (apply H_pick; (iterate 4 exact rfl))
       | (apply H_load; exact rfl; (first | exact I0 | exact I1 | exact I2 | exact I3 | exact I4 | exact I5 | exact I6); (iterate 4 exact rfl))
       | (apply H_cmp (b := true); (iterate 2 exact rfl); (focus (first | (simp [cmpI]; done) | (simp [cmpI]; omega))); (iterate 2 exact rfl))
       | (apply H_lenrow; exact rfl; (first | exact I0 | exact I1 | exact I2 | exact I3 | exact I4 | exact I5 | exact I6); (iterate 3 exact rfl)) | (apply H_nilck; (iterate 3 exact rfl))
       | (apply H_rowfield; exact rfl; (first | exact I0 | exact I1 | exact I2 | exact I3 | exact I4 | exact I5 | exact I6); (focus (first | omega | (simp; done) | (simp; omega))); (iterate 5 exact rfl))
       | (apply H_rowidx; exact rfl; (first | exact I0 | exact I1 | exact I2 | exact I3 | exact I4 | exact I5 | exact I6); (iterate 2 exact rfl); (focus (first | assumption | omega | (constructor <;> (first | (simp; done) | (simp; omega))))); (iterate 2 exact rfl))
       | ((with_reducible apply EH.nil); exact rfl))
    repeat
      (first
       | (apply P_move; (iterate 3 exact rfl)) | (apply P_assign; (iterate 3 exact rfl)) | (apply P_ar; (iterate 3 exact rfl); (focus omega); (focus omega); (iterate 2 exact rfl)) | apply EL.nil
       | ((with_reducible apply EK.then_normal); apply EK.code) | (apply EC.cond_true; exact rfl)
       | (with_reducible first | apply EC.seq | apply EC.region | apply EC.skip | apply EC.label | apply EC.block | apply EC.exit | apply EC.ret | apply EK.in_normal | apply EK.in_same | apply EK.in_ret | apply EK.then_ret | apply EK.then_exit))
    refine EK.again ⟨i + 1, by omega⟩ (by dsimp only; omega) ?_
    simp only [Int.natCast_add]
    exact (Le.keep (by repeat first | exact trivial | refine ⟨rfl, ?_⟩) (by repeat first | exact List.nil_sublist _ | apply List.Sublist.cons_cons | apply List.Sublist.cons) (by simp))
  · obtain rfl : i = kk := by omega
    have hFr : ∀ F : List (Value × D), (L, D.sl 55 (l.map dAcL)) ∈ F → Refine F (.v L) (.sl 55 (l.map dAcL)) := fun F h => Rf.fact h rfl
    have hlen1 : ((l.map dAcL).drop i).length ≤ l.length := by rw [List.length_drop, hml]; omega
    have hlen2 : ((l.map dAcL).take i).length ≤ l.length := by rw [List.length_take, hml]; omega
    have hres : [] ++ (l.map dAcL).take i ++ [dAcL (AcL.none a)] ++ (l.map dAcL).drop i = (l.take i ++ AcL.none a :: l.drop i).map dAcL := by simp
    have hilen : i < ([] ++ (l.map dAcL).take i ++ [dAcL (AcL.none a)] ++ (l.map dAcL).drop i).length := by simp; omega
    by_cases hil : i < l.length
    · have hd : (l.map dAcL)[i]? = some (dAcL l[i]) := by rw [List.getElem?_map, List.getElem?_eq_getElem hil]; rfl
      have hb := bin_strlt l[i].a a
      rw [(hhi hil).1] at hb
      have hne := (bin_addr l[i].a a).2
      rw [(hhi hil).2] at hne
      repeat
        (first
         | (with_reducible first | apply EC.seq | apply EC.region | apply EC.skip | apply EC.label | apply EC.block | apply EC.exit | apply EC.ret | apply EK.in_normal | apply EK.in_same | apply EK.in_ret | apply EK.then_ret | apply EK.then_exit))
      refine EC.draw 21 (by kernel_rfl) ?_
      simp only [List.take_succ_cons, List.take_zero, List.drop_succ_cons, List.drop_zero]
      repeat
        (first
         | (apply H_slrow; exact sl_addr; exact rfl; exact I2; (rw [hml]; omega); (iterate 2 exact rfl))
         | (apply H_strrow (k := i) (off := 0) (d := dAcL l[i]); exact rfl; exact I2; exact ⟨by simp, hd⟩; (iterate 4 exact rfl)) | (apply H_slarr; exact sl_addr; (iterate 3 exact rfl))
         | (apply H_strvar; exact rfl; exact I0; (iterate 4 exact rfl)) | (apply H_bin; (iterate 2 exact rfl); exact hb; (iterate 2 exact rfl)) | (apply H_move; (iterate 3 exact rfl))
         | (apply H_field; (iterate 6 exact rfl)) | (apply H_pick; (iterate 4 exact rfl))
         | (apply H_load; exact rfl; (first | exact I0 | exact I1 | exact I2 | exact I3 | exact I4 | exact I5 | exact I6); (iterate 4 exact rfl))
         | (apply H_cmp (b := true); (iterate 2 exact rfl); (focus (first | (simp [cmpI]; done) | (simp [cmpI]; omega))); (iterate 2 exact rfl))
         | (apply H_lenrow; exact rfl; (first | exact I0 | exact I1 | exact I2 | exact I3 | exact I4 | exact I5 | exact I6); (iterate 3 exact rfl)) | (apply H_nilck; (iterate 3 exact rfl))
         | (apply H_rowfield; exact rfl; (first | exact I0 | exact I1 | exact I2 | exact I3 | exact I4 | exact I5 | exact I6); (focus (first | omega | (simp; done) | (simp; omega))); (iterate 5 exact rfl))
         | (apply H_rowidx; exact rfl; (first | exact I0 | exact I1 | exact I2 | exact I3 | exact I4 | exact I5 | exact I6); (iterate 2 exact rfl); (focus (first | assumption | omega | (constructor <;> (first | (simp; done) | (simp; omega))))); (iterate 2 exact rfl))
         | ((with_reducible apply EH.nil); exact rfl))
      repeat
        (first
         | apply EL.nil | ((with_reducible apply EK.then_normal); apply EK.code) | (apply EC.cond_false; exact rfl)
         | (with_reducible first | apply EC.seq | apply EC.region | apply EC.skip | apply EC.label | apply EC.block | apply EC.exit | apply EC.ret | apply EK.in_normal | apply EK.in_same | apply EK.in_ret | apply EK.then_ret | apply EK.then_exit))
      refine EC.draw 19 (by kernel_rfl) ?_
      simp only [List.take_succ_cons, List.take_zero, List.drop_succ_cons, List.drop_zero]
      repeat
        (first
         | (apply H_rowload (k := i) (off := 0) (d := dAcL l[i]); exact rfl; exact I2; exact ⟨by simp, hd⟩; (iterate 4 exact rfl)) | (apply H_bin; (iterate 2 exact rfl); exact hne; (iterate 2 exact rfl))
         | (apply H_move; (iterate 3 exact rfl)) | (apply H_field; (iterate 6 exact rfl)) | (apply H_pick; (iterate 4 exact rfl))
         | (apply H_load; exact rfl; (first | exact I0 | exact I1 | exact I2 | exact I3 | exact I4 | exact I5 | exact I6); (iterate 4 exact rfl))
         | (apply H_cmp (b := false); (iterate 2 exact rfl); (focus (first | (simp [cmpI]; done) | (simp [cmpI]; omega))); (iterate 2 exact rfl))
         | (apply H_lenrow; exact rfl; (first | exact I0 | exact I1 | exact I2 | exact I3 | exact I4 | exact I5 | exact I6); (iterate 3 exact rfl)) | (apply H_nilck; (iterate 3 exact rfl))
         | (apply H_rowfield; exact rfl; (first | exact I0 | exact I1 | exact I2 | exact I3 | exact I4 | exact I5 | exact I6); (focus (first | omega | (simp; done) | (simp; omega))); (iterate 5 exact rfl))
         | (apply H_rowidx; exact rfl; (first | exact I0 | exact I1 | exact I2 | exact I3 | exact I4 | exact I5 | exact I6); (iterate 2 exact rfl); (focus (first | assumption | omega | (constructor <;> (first | (simp; done) | (simp; omega))))); (iterate 2 exact rfl))
         | ((with_reducible apply EH.nil); exact rfl))
      repeat
        (first
         | (apply P_move; (iterate 3 exact rfl)) | (apply P_field; (iterate 6 exact rfl))
         | (apply P_load; exact rfl; (first | exact I0 | exact I1 | exact I2 | exact I3 | exact I4 | exact I5 | exact I6); (iterate 4 exact rfl)) | (apply P_nilck; (iterate 3 exact rfl)) | apply EL.nil
         | ((with_reducible apply EK.then_normal); apply EK.code) | (apply EC.cond_true; exact rfl)
         | (with_reducible first | apply EC.seq | apply EC.region | apply EC.skip | apply EC.label | apply EC.block | apply EC.exit | apply EC.ret | apply EK.in_normal | apply EK.in_same | apply EK.in_ret | apply EK.then_ret | apply EK.then_exit))
      refine EL.le (Le.freeze (pre := [_, _]) rfl) ?_
      refine EL.le (Le.pick [1, 0] [_, _] rfl (by decide) rfl) ?_
      refine EL.le (Le.varR (d' := .tup [.sl 55 (l.map dAcL), .v k, .v (.int .i64 n)]) (Rf.tup (RL.cons (hFr _ List.mem_cons_self) (RL.cons Rf.same (RL.cons Rf.same RL.nil))))) ?_
      refine EL.le (Le.refine (t := 52) rfl (hFr _ List.mem_cons_self)) ?_
      refine EL.le (Le.row 74 55) ?_
      repeat
        (first
         | (apply P_slfrom; (iterate 3 exact rfl); exact ⟨by omega, by rw [hml, Int.toNat_natCast]; omega⟩; (iterate 2 exact rfl)) | (apply P_assign; (iterate 3 exact rfl))
         | ((apply P_append; exact rfl; (focus (repeat first | exact .z | apply SetAt.s | apply SetAtF.s)); (iterate 5 exact rfl); (focus (constructor <;> (first | (simp; done) | (simp; omega))))); intro _)
         | apply EL.nil | ((with_reducible apply EK.then_normal); apply EK.code))
      rename_i v1
      dsimp only
      refine EC.le (Le.freeze (pre := []) rfl) ?_
      refine EC.le (Le.refine (t := 6) rfl (Rf.fact List.mem_cons_self rfl)) ?_
      refine EC.le (Le.row 74 55) ?_
      dsimp only
      refine EC.drawC 14 [0, 1, 2, 3, 4, 5, 6, 8, 9, 10, 12] [7, 11, 13] [_] _ (by kernel_rfl) (by kernel_rfl) rfl ?_
      simp only [pickL, List.filterMap_cons, List.filterMap_nil, List.getElem?_cons_zero, List.getElem?_cons_succ]
      repeat
        (first
         | (apply H_slto; (iterate 3 exact rfl); exact ⟨by omega, by rw [hml, Int.toNat_natCast]; omega⟩; (iterate 2 exact rfl)) | (apply H_move; (iterate 3 exact rfl)) | (apply H_field; (iterate 6 exact rfl))
         | (apply H_load; exact rfl; (first | exact I0 | exact I1 | exact I2 | exact I3 | exact I4 | exact I5 | exact I6); (iterate 4 exact rfl)) | (apply H_build; (iterate 7 exact rfl))
         | (apply H_lit; (iterate 9 exact rfl)) | (apply H_nilck; (iterate 3 exact rfl)))
      refine EM.nil ?_
      repeat (first | rw [List.cons_append] | rw [List.nil_append])
      refine CH.mut (os := [_]) (rest := []) rfl rfl (m_append rfl rfl rfl rfl rfl ⟨by simp; omega, by simp; omega⟩) ?_
      rintro _ _ ⟨v2, rfl, rfl⟩
      try simp only [St.put]
      repeat (first | rw [List.cons_append] | rw [List.nil_append])
      refine CH.mut (os := [_]) (rest := []) rfl rfl (m_append rfl rfl rfl rfl rfl ⟨by simp; omega, by simp; omega⟩) ?_
      rintro _ _ ⟨v3, rfl, rfl⟩
      try simp only [St.put]
      repeat (first | rw [List.cons_append] | rw [List.nil_append])
      refine CH.mut (os := [_]) (rest := []) rfl rfl (m_append rfl rfl rfl rfl rfl ⟨by simp; omega, by simp; omega⟩) ?_
      rintro _ _ ⟨v4, rfl, rfl⟩
      try simp only [St.put]
      repeat (first | rw [List.cons_append] | rw [List.nil_append])
      refine CH.nil ?_
      try simp only [List.drop_succ_cons, List.drop_zero]
      repeat
        (first
         | (apply P_move; (iterate 3 exact rfl)) | (apply P_assign; (iterate 3 exact rfl)) | (apply P_field; (iterate 6 exact rfl))
         | (apply P_load; exact rfl; (first | exact I0 | exact I1 | exact I2 | exact I3 | exact I4 | exact I5 | exact I6); (iterate 4 exact rfl)) | (apply P_nilck; (iterate 3 exact rfl))
         | (apply P_rowidx; exact rfl; (first | exact I0 | exact I1 | exact I2 | exact I3 | exact I4 | exact I5 | exact I6); (iterate 2 exact rfl); (focus (first | assumption | omega | (constructor <;> (first | (simp; done) | (simp; omega))))); (iterate 2 exact rfl))
         | (apply P_store; exact rfl; (focus (repeat first | exact .z | apply SetAt.s | apply SetAtF.s)); (iterate 4 exact rfl)) | apply EL.nil | ((with_reducible apply EK.then_normal); apply EK.code)
         | (with_reducible first | apply EC.seq | apply EC.region | apply EC.skip | apply EC.label | apply EC.block | apply EC.exit | apply EC.ret | apply EK.in_normal | apply EK.in_same | apply EK.in_ret | apply EK.then_ret | apply EK.then_exit))
      refine EK.le (Le.rowR (ds' := [] ++ (l.map dAcL).take i ++ [dAcL (AcL.none a)] ++ (l.map dAcL).drop i) (RL.append (RL.append (RefineL.refl _ _) (RL.cons (Rf.tup (RL.cons Rf.same (RL.cons Rf.same (RL.cons Rf.same (RL.cons Rf.bs0 (RL.cons Rf.sl0 RL.nil)))))) RL.nil)) (RefineL.refl _ _))) ?_
      refine EK.le (Le.pick [1, 0, 2] [_, _, _] rfl (by decide) rfl) ?_
      exact EK.retM1s [rsO g v4 k n, .row v4 74 55 ([] ++ (l.map dAcL).take i ++ [dAcL (AcL.none a)] ++ (l.map dAcL).drop i)] rfl rfl (by (repeat first | exact List.nil_sublist _ | apply List.Sublist.cons_cons | apply List.Sublist.cons)) ⟨v4, rfl, by rw [hres]⟩
    · skip
      repeat
        (first
         | (with_reducible first | apply EC.seq | apply EC.region | apply EC.skip | apply EC.label | apply EC.block | apply EC.exit | apply EC.ret | apply EK.in_normal | apply EK.in_same | apply EK.in_ret | apply EK.then_ret | apply EK.then_exit))
      refine EC.draw 21 (by kernel_rfl) ?_
      simp only [List.take_succ_cons, List.take_zero, List.drop_succ_cons, List.drop_zero]
      repeat
        (first
         | (apply H_skip; (iterate 2 exact rfl)) | (apply H_move; (iterate 3 exact rfl)) | (apply H_field; (iterate 6 exact rfl)) | (apply H_pick; (iterate 4 exact rfl))
         | (apply H_load; exact rfl; (first | exact I0 | exact I1 | exact I2 | exact I3 | exact I4 | exact I5 | exact I6); (iterate 4 exact rfl))
         | (apply H_cmp (b := false); (iterate 2 exact rfl); (focus (first | (simp [cmpI]; done) | (simp [cmpI]; omega))); (iterate 2 exact rfl))
         | (apply H_lenrow; exact rfl; (first | exact I0 | exact I1 | exact I2 | exact I3 | exact I4 | exact I5 | exact I6); (iterate 3 exact rfl)) | (apply H_nilck; (iterate 3 exact rfl))
         | ((with_reducible apply EH.nil); exact rfl))
      repeat
        (first
         | apply EL.nil | ((with_reducible apply EK.then_normal); apply EK.code) | (apply EC.cond_false; exact rfl)
         | (with_reducible first | apply EC.seq | apply EC.region | apply EC.skip | apply EC.label | apply EC.block | apply EC.exit | apply EC.ret | apply EK.in_normal | apply EK.in_same | apply EK.in_ret | apply EK.then_ret | apply EK.then_exit))
      refine EC.draw 19 (by kernel_rfl) ?_
      simp only [List.take_succ_cons, List.take_zero, List.drop_succ_cons, List.drop_zero]
      repeat
        (first
         | (apply H_skip; (iterate 2 exact rfl)) | (apply H_move; (iterate 3 exact rfl)) | (apply H_field; (iterate 6 exact rfl)) | (apply H_pick; (iterate 4 exact rfl))
         | (apply H_load; exact rfl; (first | exact I0 | exact I1 | exact I2 | exact I3 | exact I4 | exact I5 | exact I6); (iterate 4 exact rfl))
         | (apply H_cmp (b := true); (iterate 2 exact rfl); (focus (first | (simp [cmpI]; done) | (simp [cmpI]; omega))); (iterate 2 exact rfl))
         | (apply H_lenrow; exact rfl; (first | exact I0 | exact I1 | exact I2 | exact I3 | exact I4 | exact I5 | exact I6); (iterate 3 exact rfl)) | (apply H_nilck; (iterate 3 exact rfl))
         | ((with_reducible apply EH.nil); exact rfl))
      repeat
        (first
         | (apply P_move; (iterate 3 exact rfl)) | (apply P_field; (iterate 6 exact rfl))
         | (apply P_load; exact rfl; (first | exact I0 | exact I1 | exact I2 | exact I3 | exact I4 | exact I5 | exact I6); (iterate 4 exact rfl)) | (apply P_nilck; (iterate 3 exact rfl)) | apply EL.nil
         | ((with_reducible apply EK.then_normal); apply EK.code) | (apply EC.cond_true; exact rfl)
         | (with_reducible first | apply EC.seq | apply EC.region | apply EC.skip | apply EC.label | apply EC.block | apply EC.exit | apply EC.ret | apply EK.in_normal | apply EK.in_same | apply EK.in_ret | apply EK.then_ret | apply EK.then_exit))
      refine EL.le (Le.freeze (pre := [_, _]) rfl) ?_
      refine EL.le (Le.pick [1, 0] [_, _] rfl (by decide) rfl) ?_
      refine EL.le (Le.varR (d' := .tup [.sl 55 (l.map dAcL), .v k, .v (.int .i64 n)]) (Rf.tup (RL.cons (hFr _ List.mem_cons_self) (RL.cons Rf.same (RL.cons Rf.same RL.nil))))) ?_
      refine EL.le (Le.refine (t := 52) rfl (hFr _ List.mem_cons_self)) ?_
      refine EL.le (Le.row 74 55) ?_
      repeat
        (first
         | (apply P_slfrom; (iterate 3 exact rfl); exact ⟨by omega, by rw [hml, Int.toNat_natCast]; omega⟩; (iterate 2 exact rfl)) | (apply P_assign; (iterate 3 exact rfl))
         | ((apply P_append; exact rfl; (focus (repeat first | exact .z | apply SetAt.s | apply SetAtF.s)); (iterate 5 exact rfl); (focus (constructor <;> (first | (simp; done) | (simp; omega))))); intro _)
         | apply EL.nil | ((with_reducible apply EK.then_normal); apply EK.code))
      rename_i v1
      dsimp only
      refine EC.le (Le.freeze (pre := []) rfl) ?_
      refine EC.le (Le.refine (t := 6) rfl (Rf.fact List.mem_cons_self rfl)) ?_
      refine EC.le (Le.row 74 55) ?_
      dsimp only
      refine EC.drawC 14 [0, 1, 2, 3, 4, 5, 6, 8, 9, 10, 12] [7, 11, 13] [_] _ (by kernel_rfl) (by kernel_rfl) rfl ?_
      simp only [pickL, List.filterMap_cons, List.filterMap_nil, List.getElem?_cons_zero, List.getElem?_cons_succ]
      repeat
        (first
         | (apply H_slto; (iterate 3 exact rfl); exact ⟨by omega, by rw [hml, Int.toNat_natCast]; omega⟩; (iterate 2 exact rfl)) | (apply H_move; (iterate 3 exact rfl)) | (apply H_field; (iterate 6 exact rfl))
         | (apply H_load; exact rfl; (first | exact I0 | exact I1 | exact I2 | exact I3 | exact I4 | exact I5 | exact I6); (iterate 4 exact rfl)) | (apply H_build; (iterate 7 exact rfl))
         | (apply H_lit; (iterate 9 exact rfl)) | (apply H_nilck; (iterate 3 exact rfl)))
      refine EM.nil ?_
      repeat (first | rw [List.cons_append] | rw [List.nil_append])
      refine CH.mut (os := [_]) (rest := []) rfl rfl (m_append rfl rfl rfl rfl rfl ⟨by simp; omega, by simp; omega⟩) ?_
      rintro _ _ ⟨v2, rfl, rfl⟩
      try simp only [St.put]
      repeat (first | rw [List.cons_append] | rw [List.nil_append])
      refine CH.mut (os := [_]) (rest := []) rfl rfl (m_append rfl rfl rfl rfl rfl ⟨by simp; omega, by simp; omega⟩) ?_
      rintro _ _ ⟨v3, rfl, rfl⟩
      try simp only [St.put]
      repeat (first | rw [List.cons_append] | rw [List.nil_append])
      refine CH.mut (os := [_]) (rest := []) rfl rfl (m_append rfl rfl rfl rfl rfl ⟨by simp; omega, by simp; omega⟩) ?_
      rintro _ _ ⟨v4, rfl, rfl⟩
      try simp only [St.put]
      repeat (first | rw [List.cons_append] | rw [List.nil_append])
      refine CH.nil ?_
      try simp only [List.drop_succ_cons, List.drop_zero]
      repeat
        (first
         | (apply P_move; (iterate 3 exact rfl)) | (apply P_assign; (iterate 3 exact rfl)) | (apply P_field; (iterate 6 exact rfl))
         | (apply P_load; exact rfl; (first | exact I0 | exact I1 | exact I2 | exact I3 | exact I4 | exact I5 | exact I6); (iterate 4 exact rfl)) | (apply P_nilck; (iterate 3 exact rfl))
         | (apply P_rowidx; exact rfl; (first | exact I0 | exact I1 | exact I2 | exact I3 | exact I4 | exact I5 | exact I6); (iterate 2 exact rfl); (focus (first | assumption | omega | (constructor <;> (first | (simp; done) | (simp; omega))))); (iterate 2 exact rfl))
         | (apply P_store; exact rfl; (focus (repeat first | exact .z | apply SetAt.s | apply SetAtF.s)); (iterate 4 exact rfl)) | apply EL.nil | ((with_reducible apply EK.then_normal); apply EK.code)
         | (with_reducible first | apply EC.seq | apply EC.region | apply EC.skip | apply EC.label | apply EC.block | apply EC.exit | apply EC.ret | apply EK.in_normal | apply EK.in_same | apply EK.in_ret | apply EK.then_ret | apply EK.then_exit))
      refine EK.le (Le.rowR (ds' := [] ++ (l.map dAcL).take i ++ [dAcL (AcL.none a)] ++ (l.map dAcL).drop i) (RL.append (RL.append (RefineL.refl _ _) (RL.cons (Rf.tup (RL.cons Rf.same (RL.cons Rf.same (RL.cons Rf.same (RL.cons Rf.bs0 (RL.cons Rf.sl0 RL.nil)))))) RL.nil)) (RefineL.refl _ _))) ?_
      refine EK.le (Le.pick [1, 0, 2] [_, _, _] rfl (by decide) rfl) ?_
      exact EK.retM1s [rsO g v4 k n, .row v4 74 55 ([] ++ (l.map dAcL).take i ++ [dAcL (AcL.none a)] ++ (l.map dAcL).drop i)] rfl rfl (by (repeat first | exact List.nil_sublist _ | apply List.Sublist.cons_cons | apply List.Sublist.cons)) ⟨v4, rfl, by rw [hres]⟩
end E
end Go.Proofs.YtdhicdnmgmkpkaaGreat
/-
  The program's state: its accounts, as a list.
  Conditions: none.
-/
namespace Go.Proofs.YtdhicdnmgmkpkaaGreat
set_option linter.unusedVariables false
open Go.RowKit Mono Rlp Wd Go.Sort
namespace E
theorem enters_c1 : ∀ args w, (callFunc 76 args).run Tryz.prog w = .ok (.enter 76 args) w := enters_of Tryz.func76 (by kernel_rfl) rfl
theorem enters_tc : ∀ args w, (callFunc 81 args).run Tryz.prog w = .ok (.enter 81 args) w := enters_of Tryz.func81 (by kernel_rfl) rfl
theorem perm_front {l rest p rest2 : List Obj} (h : rest.Perm (p ++ rest2)) : (l ++ rest).Perm (p ++ (l ++ rest2)) := by
  refine (List.Perm.append_left l h).trans ?_
  rw [← List.append_assoc, ← List.append_assoc]
  exact List.Perm.append_right _ List.perm_append_comm
set_option maxRecDepth 20000 in
set_option maxHeartbeats 16000000 in
theorem accounts0 {g m c M : Nat} {es : List Ent} {u k : Value} {n : Int} {us : List D} {ps : List PA} {A : As} (hi : PInv es ps A M) (hM : M ≤ 1000000) : FnM 21 [.v (ptr g)] (stO g m u k n :: smO m c es :: unO u us :: mkO k [] :: ps.flatMap PA.os) (fun r os' => (∃ L, Canon A L ∧ L.length ≤ M ∧ (∀ x ∈ L, x.sl.length ≤ M) ∧ r = .val (.sl 55 (L.map dAcL))) ∧ os' = stO g m u k n :: smO m c es :: unO u us :: mkO k [] :: ps.flatMap PA.os) := by
  have hlen := hi.len
  have h1 := keys_addr m
  have h2 := fun gk => sorted_addr 76 cmp_addr enters_c1 gk m c es (by omega)
  have hKl : (sortL (es.map (·.2.1))).length = es.length := by rw [(sortL_perm _).length_eq, List.length_map]
  have hKm : ∀ a, a ∈ sortL (es.map (·.2.1)) ↔ a ∈ es.map (·.2.1) := fun a => (sortL_perm _).mem_iff
  have hKo := sortL_lt hi.nod
  have hKc : ∀ a, A a ≠ Ac.zero → a ∈ sortL (es.map (·.2.1)) := fun a ha => (hKm a).2 (Classical.byContradiction fun hn => ha (hi.out a ((getE_none _ _).2 hn)))
  generalize hrest : ps.flatMap PA.os = rest
  generalize sortL (es.map (·.2.1)) = K at h2 hKl hKm hKo hKc
  have hml : (K.map (D.arr 20)).length = K.length := List.length_map _
  refine FnM.walk 75 Tryz.func21 rfl Tryz.ntmps21 (by simp) fun X => ?_
  repeat
    (first
     | (apply P_callM (os := []) h1; (iterate 2 exact rfl); exact RefineL.refl _ _; (focus (intro _ _; simp [go_sem]; done)); (iterate 2 exact rfl); rintro _ _ ⟨gk, rfl, rfl⟩)
     | (apply P_move; (iterate 3 exact rfl)) | (apply P_assign; (iterate 3 exact rfl)) | (apply P_field; (iterate 6 exact rfl))
     | (apply P_load; exact rfl; (first | exact I0 | exact I1 | exact I2 | exact I3 | exact I4 | exact I5 | exact I6); (iterate 4 exact rfl)) | (apply P_nilck; (iterate 3 exact rfl)) | apply EL.nil
     | ((with_reducible apply EK.then_normal); apply EK.code)
     | (with_reducible first | apply EC.seq | apply EC.region | apply EC.skip | apply EC.label | apply EC.block | apply EC.exit | apply EC.ret | apply EK.in_normal | apply EK.in_same | apply EK.in_ret | apply EK.then_ret | apply EK.then_exit))
  refine EL.le (Le.pickT [0, 2, 1, 3, 4] [_, _, _, _, _] [_, _, _, _, _] (rest) rfl rfl (by decide) rfl) ?_
  try simp only [List.cons_append, List.nil_append]
  repeat
    (first
     | (apply P_callM (os := [.var gk 106 (.v (.map (some m))), smO m c es]) (h2 gk); (iterate 2 exact rfl); exact RefineL.refl _ _; (focus (intro _ _; simp [go_sem]; done)); (iterate 2 exact rfl); rintro _ _ ⟨kv, rfl, rfl⟩; refine EL.le (Le.freeze (pre := []) rfl) ?_; refine EL.le (Le.refine (t := 15) (d' := .sl 20 (K.map (D.arr 20))) rfl (Rf.fact (by simp) rfl)) ?_; simp only [List.nil_append])
     | (apply P_move; (iterate 3 exact rfl)) | (apply P_lensl; (iterate 4 exact rfl)) | apply EL.nil | ((with_reducible apply EK.then_normal); apply EK.code)
     | (with_reducible first | apply EC.seq | apply EC.region | apply EC.skip | apply EC.label | apply EC.block | apply EC.exit | apply EC.ret | apply EK.in_normal | apply EK.in_same | apply EK.in_ret | apply EK.then_ret | apply EK.then_exit))
  refine EC.le (Le.pickT [2, 1, 3, 4, 0] [_, _, _, _, _] [_, _, _, _, _] (rest) rfl rfl (by decide) rfl) ?_
  try simp only [List.cons_append, List.nil_append]
  refine EC.le (Le.row 74 55) ?_
  refine EC.loop (ι := {x : Nat × List AcL × Value // x.1 ≤ K.length ∧ CU A (K.take x.1) x.2.1 ∧ x.2.1.length ≤ x.1 ∧ ∀ y ∈ x.2.1, y.sl.length ≤ M})
    (fun x => ⟨[(17, .val (.v (.int .i64 (x.1.1 : Int)))), (16, .val (.v (.int .i64 (K.map (D.arr 20)).length))), (15, .val (.sl 20 (K.map (D.arr 20)))), (3, .val (.v x.1.2.2)), (0, .val (.v (ptr g)))], .row x.1.2.2 74 55 (x.1.2.1.map dAcL) :: stO g m u k n :: smO m c es :: unO u us :: mkO k [] :: rest, []⟩)
    (fun x => K.length - x.1.1) ⟨(0, [], nilS), Nat.zero_le _, CU.nil, Nat.le_refl _, fun y hy => by simp at hy⟩ ?_ ?_
  · exact (Le.keep (by repeat first | exact trivial | refine ⟨rfl, ?_⟩) (by repeat first | exact List.Sublist.refl _ | apply List.Sublist.cons_cons | apply List.Sublist.cons) (by simp))
  rintro ⟨⟨i, L, v⟩, hiK, hCU, hLl, hsl⟩
  dsimp only at hiK hCU hLl hsl ⊢
  by_cases hlt : i < K.length
  · have hd : (K.map (D.arr 20))[i]? = some (D.arr 20 K[i]) := by rw [List.getElem?_map, List.getElem?_eq_getElem hlt]; rfl
    obtain ⟨d, hge⟩ := getE_some ((hKm K[i]).1 (List.getElem_mem hlt))
    obtain ⟨p, hp, rfl, his⟩ := hi.inn _ _ hge
    obtain ⟨ps1, ps2, rfl⟩ := List.append_of_mem hp
    have hg : (getE es K[i]).getD (.v (.pointer none)) = .v (ptr p.g) := by rw [hge]; rfl
    have hperm : rest.Perm (p.os ++ (ps1 ++ ps2).flatMap PA.os) := hrest ▸ flat_perm ps1 ps2 p
    generalize hrest2 : (ps1 ++ ps2).flatMap PA.os = rest2 at hperm
    have hsp := his.list K[i]
    have hse := his.sl
    have hempty := his.empty_iff
    have hem := empty_ p
    obtain ⟨pg, pn, pw, pc, pgs, psc, pss⟩ := p
    dsimp only at hg hsp hse
    refine EC.le (Le.perm (perm_front (l := [.row v 74 55 (L.map dAcL), stO g m u k n, smO m c es, unO u us, mkO k []]) hperm)) ?_
    simp only [PA.os, List.cons_append, List.nil_append]
    repeat
      (first
       | (apply P_loadpd; (iterate 5 exact rfl)) | (apply P_cmp (b := true); (iterate 2 exact rfl); (focus (first | (simp [cmpI]; done) | (simp [cmpI]; omega))); (iterate 2 exact rfl))
       | (apply P_index; (iterate 4 exact rfl); (focus (first | exact ⟨by decide, rfl⟩ | (refine ⟨by omega, ?_⟩; rw [Int.toNat_natCast]; assumption))); (iterate 2 exact rfl))
       | (apply P_alloc; exact rfl; exact rfl; exact rfl; intro _) | (apply P_store; exact rfl; (focus (repeat first | exact .z | apply SetAt.s | apply SetAtF.s)); (iterate 4 exact rfl)) | apply EL.nil
       | ((with_reducible apply EK.then_normal); apply EK.code) | (apply EC.cond_true; exact rfl)
       | (with_reducible first | apply EC.seq | apply EC.region | apply EC.skip | apply EC.label | apply EC.block | apply EC.exit | apply EC.ret | apply EK.in_normal | apply EK.in_same | apply EK.in_ret | apply EK.then_ret | apply EK.then_exit))
    rename_i g5
    refine EC.draw 6 (by kernel_rfl) ?_
    simp only [List.take_succ_cons, List.take_zero, List.drop_succ_cons, List.drop_zero]
    repeat
      (first
       | (apply H_lookup; exact hg; exact rfl; (first | exact I0 | exact I1 | exact I2 | exact I3 | exact I4 | exact I5); (iterate 5 exact rfl)) | (apply H_move; (iterate 3 exact rfl))
       | (apply H_field; (iterate 6 exact rfl)) | (apply H_load; exact rfl; (first | exact I0 | exact I1 | exact I2 | exact I3 | exact I4 | exact I5 | exact I6); (iterate 4 exact rfl))
       | (apply H_nilck; (iterate 3 exact rfl)) | ((with_reducible apply EH.nil); exact rfl))
    cases hpe : PA.empty ⟨pg, pn, pw, pc, pgs, psc, pss⟩ with
    | true =>
      rw [hpe] at hem
      repeat
        (first
         | (apply P_callAt hem [_] _ rfl rfl (RefineL.refl _ _) (by intro _ _; simp [go_sem]) rfl rfl; rintro _ _ ⟨rfl, rfl⟩; simp only [PA.os, List.cons_append, List.nil_append])
         | (apply P_move; (iterate 3 exact rfl)) | (apply P_assign; (iterate 3 exact rfl)) | (apply P_ar; (iterate 3 exact rfl); (focus omega); (focus omega); (iterate 2 exact rfl)) | apply EL.nil
         | ((with_reducible apply EK.then_normal); apply EK.code) | (apply EC.cond_true; exact rfl)
         | (with_reducible first | apply EC.seq | apply EC.region | apply EC.skip | apply EC.label | apply EC.block | apply EC.exit | apply EC.ret | apply EK.in_normal | apply EK.in_same | apply EK.in_ret | apply EK.then_ret | apply EK.then_exit))
      refine EK.le (Le.perm ((perm_front (l := [.row v 74 55 (L.map dAcL), stO g m u k n, smO m c es, unO u us, mkO k []]) hperm).symm.cons _)) ?_
      refine EK.again ⟨(i + 1, L, v), hlt, ?_, Nat.le_succ_of_le hLl, hsl⟩ (by dsimp only; omega) ?_
      · rw [List.take_succ_eq_append_getElem hlt]
        exact hCU.skip (hempty.1 hpe)
      · simp only [Int.natCast_add, List.cons_append, List.nil_append]
        exact (Le.keep (by repeat first | exact trivial | refine ⟨rfl, ?_⟩) (by repeat first | exact List.Sublist.refl _ | apply List.Sublist.cons_cons | apply List.Sublist.cons) (by simp))
    | false =>
      rw [hpe] at hem
      repeat
        (first
         | (apply P_callAt hem [_] _ rfl rfl (RefineL.refl _ _) (by intro _ _; simp [go_sem]) rfl rfl; rintro _ _ ⟨rfl, rfl⟩; simp only [PA.os, List.cons_append, List.nil_append])
         | (apply P_move; (iterate 3 exact rfl)) | (apply P_assign; (iterate 3 exact rfl)) | apply EL.nil | ((with_reducible apply EK.then_normal); apply EK.code) | (apply EC.cond_false; exact rfl)
         | (with_reducible first | apply EC.seq | apply EC.region | apply EC.skip | apply EC.label | apply EC.block | apply EC.exit | apply EC.ret | apply EK.in_normal | apply EK.in_same | apply EK.in_ret | apply EK.then_ret | apply EK.then_exit))
      have hcl := f_Clone pc his.cl
      refine EC.draw 16 (by kernel_rfl) ?_
      simp only [List.take_succ_cons, List.take_zero, List.drop_succ_cons, List.drop_zero]
      repeat
        (first
         | (apply H_call (hcl); exact rfl; (focus (repeat first | exact RefineL.refl _ _ | exact RL.nil | exact Rf.same | exact Rf.bs0 | exact Rf.sl0 | (apply Rf.fact; (focus (simp; done)); exact rfl) | apply Rf.tup | apply RL.cons)); (focus (intro _ _; simp [go_sem]; done)); (iterate 2 exact rfl))
         | (apply H_move; (iterate 3 exact rfl)) | (apply H_field; (iterate 6 exact rfl))
         | (apply H_load; exact rfl; (first | exact I0 | exact I1 | exact I2 | exact I3 | exact I4 | exact I5 | exact I6); (iterate 4 exact rfl)) | (apply H_build; (iterate 7 exact rfl))
         | (apply H_nilck; (iterate 3 exact rfl)) | (apply H_alloc; (iterate 3 exact rfl)) | ((with_reducible apply EH.nil1); exact rfl; intro _))
      have hpl := his.len
      dsimp only at hpl
      have h3 := keys_word pgs
      have h4 := fun gk => sorted_word 81 cmp_word enters_tc gk pgs psc pss (by omega)
      have hK2l : (sortL (pss.map (·.2.1))).length = pss.length := by rw [(sortL_perm _).length_eq, List.length_map]
      have hsx : slots (A K[i]) pss = (sortL (pss.map (·.2.1))).map fun k => (k, (A K[i]).sl k) := rfl
      generalize sortL (pss.map (·.2.1)) = K2 at h4 hK2l hsx
      have hm2 : (K2.map (D.arr 32)).length = K2.length := List.length_map _
      rename_i gy
      repeat
        (first
         | (apply P_callM (os := []) h3; (iterate 2 exact rfl); exact RefineL.refl _ _; (focus (intro _ _; simp [go_sem]; done)); (iterate 2 exact rfl); rintro _ _ ⟨gk2, rfl, rfl⟩; refine EL.le (Le.pickT [0, 4, 1, 2, 3] [_, _, _, _, _] [_, _, _, _, _] _ rfl rfl (by decide) rfl) ?_; simp only [List.cons_append, List.nil_append]; apply P_callM (os := [.var gk2 113 (.v (.map (some pgs))), .map pgs 32 psc pss]) (h4 gk2); (iterate 2 exact rfl); exact RefineL.refl _ _; (focus (intro _ _; simp [go_sem]; done)); (iterate 2 exact rfl); rintro _ _ ⟨kv2, rfl, rfl⟩; refine EL.le (Le.freeze (pre := []) rfl) ?_; refine EL.le (Le.refine (t := 49) (d' := .sl 32 (K2.map (D.arr 32))) rfl (Rf.fact (by simp) rfl)) ?_; simp only [List.nil_append])
         | (apply P_move; (iterate 3 exact rfl)) | (apply P_field; (iterate 6 exact rfl))
         | (apply P_load; exact rfl; (first | exact I0 | exact I1 | exact I2 | exact I3 | exact I4 | exact I5 | exact I6); (iterate 4 exact rfl)) | (apply P_lensl; (iterate 4 exact rfl))
         | (apply P_nilck; (iterate 3 exact rfl)) | (apply P_store; exact rfl; (focus (repeat first | exact .z | apply SetAt.s | apply SetAtF.s)); (iterate 4 exact rfl)) | apply EL.nil
         | ((with_reducible apply EK.then_normal); apply EK.code)
         | (with_reducible first | apply EC.seq | apply EC.region | apply EC.skip | apply EC.label | apply EC.block | apply EC.exit | apply EC.ret | apply EK.in_normal | apply EK.in_same | apply EK.in_ret | apply EK.then_ret | apply EK.then_exit))
      refine EC.le (Le.pickT [2, 1, 4, 0, 3] [_, _, _, _, _] [_, _, _, _, _] (_) rfl rfl (by decide) rfl) ?_
      try simp only [List.cons_append, List.nil_append]
      refine EC.le (Le.row 103 64) ?_
      refine EC.loop (ι := {x : Nat × Value // x.1 ≤ K2.length})
        (fun x => ⟨[(51, .val (.v (.int .i64 (x.1.1 : Int)))), (50, .val (.v (.int .i64 (K2.map (D.arr 32)).length))), (49, .val (.sl 32 (K2.map (D.arr 32)))), (17, .val (.v (.int .i64 (i : Int)))), (16, .val (.v (.int .i64 (K.map (D.arr 20)).length))), (15, .val (.sl 20 (K.map (D.arr 20)))), (7, .val (.v (ptr gy))), (6, .val (.v (ptr pg))), (3, .val (.v v)), (0, .val (.v (ptr g)))],
          .row x.1.2 103 64 ((K2.take x.1.1).map fun k => dSlL (k, (A K[i]).sl k)) :: .var gy 74 (.tup [.arr 20 K[i], .v (.int .i64 pn), .arr 32 pw, .bs pc, .v x.1.2]) :: .map pgs 32 psc pss :: acO pg pn pw pc (.map (some pgs)) :: .row v 74 55 (L.map dAcL) :: stO g m u k n :: smO m c es :: unO u us :: mkO k [] :: rest2, []⟩)
        (fun x => K2.length - x.1.1) ⟨(0, nilS), Nat.zero_le _⟩ ?_ ?_
      · exact (Le.keep (by repeat first | exact trivial | refine ⟨rfl, ?_⟩) (by repeat first | exact List.Sublist.refl _ | apply List.Sublist.cons_cons | apply List.Sublist.cons) (by simp))
      rintro ⟨⟨j, sv⟩, hjK⟩
      dsimp only at hjK ⊢
      by_cases hlj : j < K2.length
      · have hd2 : (K2.map (D.arr 32))[j]? = some (D.arr 32 K2[j]) := by rw [List.getElem?_map, List.getElem?_eq_getElem hlj]; rfl
        have hg2 : (getE pss K2[j]).getD (.arr 32 zero32) = .arr 32 ((A K[i]).sl K2[j]) := hse K2[j]
        repeat
          (first
           | (apply P_loadpd; (iterate 5 exact rfl)) | (apply P_cmp (b := true); (iterate 2 exact rfl); (focus (first | (simp [cmpI]; done) | (simp [cmpI]; omega))); (iterate 2 exact rfl))
           | (apply P_index; (iterate 4 exact rfl); (focus (first | exact ⟨by decide, rfl⟩ | (refine ⟨by omega, ?_⟩; rw [Int.toNat_natCast]; assumption))); (iterate 2 exact rfl))
           | (apply P_alloc; exact rfl; exact rfl; exact rfl; intro _) | (apply P_store; exact rfl; (focus (repeat first | exact .z | apply SetAt.s | apply SetAtF.s)); (iterate 4 exact rfl)) | apply EL.nil
           | ((with_reducible apply EK.then_normal); apply EK.code) | (apply EC.cond_true; exact rfl)
           | (with_reducible first | apply EC.seq | apply EC.region | apply EC.skip | apply EC.label | apply EC.block | apply EC.exit | apply EC.ret | apply EK.in_normal | apply EK.in_same | apply EK.in_ret | apply EK.then_ret | apply EK.then_exit))
        rename_i g9
        refine EC.le (Le.pickT [1, 0] [_, _] [_, _] (_) rfl rfl (by decide) rfl) ?_
        try simp only [List.cons_append, List.nil_append]
        refine EC.drawC 12 [0, 1, 2, 3, 4, 5, 6, 7, 8, 9] [10, 11] [_] _ (by kernel_rfl) (by kernel_rfl) rfl ?_
        simp only [pickL, List.filterMap_cons, List.filterMap_nil, List.getElem?_cons_zero, List.getElem?_cons_succ]
        repeat
          (first
           | (apply H_lookup; exact hg2; exact rfl; (first | exact I0 | exact I1 | exact I2 | exact I3 | exact I4 | exact I5); (iterate 5 exact rfl)) | (apply H_move; (iterate 3 exact rfl))
           | (apply H_field; (iterate 6 exact rfl)) | (apply H_load; exact rfl; (first | exact I0 | exact I1 | exact I2 | exact I3 | exact I4 | exact I5 | exact I6); (iterate 4 exact rfl))
           | (apply H_build; (iterate 7 exact rfl)) | (apply H_nilck; (iterate 3 exact rfl)))
        refine EM.nil ?_
        repeat (first | rw [List.cons_append] | rw [List.nil_append])
        refine CH.cut 1 ?_
        simp only [List.take_succ_cons, List.take_zero, List.drop_succ_cons, List.drop_zero]
        repeat
          (first
           | (apply H_lit; (iterate 9 exact rfl)))
        refine EM.nil ?_
        repeat (first | rw [List.cons_append] | rw [List.nil_append])
        have hl3 : ((K2.take j).map fun k => dSlL (k, (A K[i]).sl k)).length = j := by rw [List.length_map, List.length_take]; omega
        refine CH.mut (os := [_]) (rest := []) rfl rfl (m_append rfl rfl rfl rfl rfl ?_) ?_
        · rw [hl3]
          constructor <;> (simp; omega)
        rintro _ _ ⟨sv', rfl, rfl⟩
        try simp only [St.put]
        repeat (first | rw [List.cons_append] | rw [List.nil_append])
        refine CH.nil ?_
        try simp only [List.drop_succ_cons, List.drop_zero]
        repeat
          (first
           | (apply P_move; (iterate 3 exact rfl)) | (apply P_field; (iterate 6 exact rfl)) | (apply P_ar; (iterate 3 exact rfl); (focus omega); (focus omega); (iterate 2 exact rfl))
           | (apply P_store; exact rfl; (focus (repeat first | exact .z | apply SetAt.s | apply SetAtF.s)); (iterate 4 exact rfl)) | apply EL.nil | ((with_reducible apply EK.then_normal); apply EK.code)
           | (with_reducible first | apply EC.seq | apply EC.region | apply EC.skip | apply EC.label | apply EC.block | apply EC.exit | apply EC.ret | apply EK.in_normal | apply EK.in_same | apply EK.in_ret | apply EK.then_ret | apply EK.then_exit))
        refine EK.again ⟨(j + 1, sv'), hlj⟩ (by dsimp only; omega) ?_
        have htk : (K2.take (j + 1)).map (fun k => dSlL (k, (A K[i]).sl k)) = (K2.take j).map (fun k => dSlL (k, (A K[i]).sl k)) ++ [dSlL (K2[j], (A K[i]).sl K2[j])] := by rw [List.take_succ_eq_append_getElem hlj, List.map_append]; rfl
        dsimp only
        rw [htk]
        simp only [Int.natCast_add]
        exact (Le.keep (by repeat first | exact trivial | refine ⟨rfl, ?_⟩) (by repeat first | exact List.Sublist.refl _ | apply List.Sublist.cons_cons | apply List.Sublist.cons) (by simp))
      · have hjE : j = K2.length := by omega
        subst hjE
        refine EC.le (Le.freeze (pre := []) rfl) ?_
        simp only [List.nil_append]
        refine EC.le (Le.varR (d' := .tup [.arr 20 K[i], .v (.int .i64 pn), .arr 32 pw, .bs pc, .sl 64 ((K2.take K2.length).map fun k => dSlL (k, (A K[i]).sl k))]) (Rf.tup (RL.cons Rf.same (RL.cons Rf.same (RL.cons Rf.same (RL.cons Rf.same (RL.cons (Rf.fact (by simp) rfl) RL.nil))))))) ?_
        repeat
          (first
           | (apply P_move; (iterate 3 exact rfl)) | (apply P_assign; (iterate 3 exact rfl))
           | (apply P_load; exact rfl; (first | exact I0 | exact I1 | exact I2 | exact I3 | exact I4 | exact I5 | exact I6); (iterate 4 exact rfl))
           | (apply P_cmp (b := false); (iterate 2 exact rfl); (focus (first | (simp [cmpI]; done) | (simp [cmpI]; omega))); (iterate 2 exact rfl))
           | (apply P_ar; (iterate 3 exact rfl); (focus omega); (focus omega); (iterate 2 exact rfl)) | (apply P_lit; (iterate 9 exact rfl))
           | ((apply P_append; exact rfl; (focus (repeat first | exact .z | apply SetAt.s | apply SetAtF.s)); (iterate 5 exact rfl); (focus (constructor <;> (first | (simp; done) | (simp; omega))))); intro _)
           | apply EL.nil | ((with_reducible apply EK.then_normal); apply EK.code) | (apply EC.cond_false; exact rfl)
           | (with_reducible first | apply EC.seq | apply EC.region | apply EC.skip | apply EC.label | apply EC.block | apply EC.exit | apply EC.ret | apply EK.in_normal | apply EK.in_same | apply EK.in_ret | apply EK.then_ret | apply EK.then_exit))
        rename_i v'
        refine EK.le (Le.pickT [0, 2, 1] [_, _, _] [_, _, _] (_) rfl rfl (by decide) rfl) ?_
        try simp only [List.cons_append, List.nil_append]
        refine EK.le (Le.perm ((perm_front (l := [.row v' 74 55 (L.map dAcL ++ [.tup [.arr 20 K[i], .v (.int .i64 pn), .arr 32 pw, .bs pc, .sl 64 ((K2.take K2.length).map fun k => dSlL (k, (A K[i]).sl k))]]), stO g m u k n, smO m c es, unO u us, mkO k []]) hperm).symm.cons _)) ?_
        have hne : A K[i] ≠ Ac.zero := fun e => by
          have := hempty.2 e
          rw [hpe] at this
          cases this
        refine EK.again ⟨(i + 1, L ++ [⟨K[i], pn, pw, pc, slots (A K[i]) pss⟩], v'), hlt, ?_, ?_, ?_⟩ (by dsimp only; omega) ?_
        · rw [List.take_succ_eq_append_getElem hlt]
          refine hCU.take hsp hne fun b hb => ?_
          obtain ⟨j, hj, rfl⟩ := List.getElem_of_mem hb
          rw [List.length_take] at hj
          rw [List.getElem_take]
          exact List.pairwise_iff_getElem.1 hKo j i (by omega) hlt (by omega)
        · simp
          omega
        · intro y hy
          rcases List.mem_append.1 hy with hy | hy
          · exact hsl y hy
          · obtain rfl : y = _ := by simpa using hy
            show (slots (A K[i]) pss).length ≤ M
            rw [hsx, List.length_map, hK2l]
            exact hpl
        have hmp : (L ++ [(⟨K[i], pn, pw, pc, slots (A K[i]) pss⟩ : AcL)]).map dAcL = L.map dAcL ++ [.tup [.arr 20 K[i], .v (.int .i64 pn), .arr 32 pw, .bs pc, .sl 64 ((K2.take K2.length).map fun k => dSlL (k, (A K[i]).sl k))]] := by
          rw [List.map_append, List.take_length]
          simp only [List.map_cons, List.map_nil, dAcL]
          rw [hsx, List.map_map]
          rfl
        dsimp only
        rw [hmp]
        simp only [Int.natCast_add, List.cons_append, List.nil_append]
        exact (Le.keep (by repeat first | exact trivial | refine ⟨rfl, ?_⟩) (by repeat first | exact List.Sublist.refl _ | apply List.Sublist.cons_cons | apply List.Sublist.cons) (by simp))
  · have hiE : i = K.length := by omega
    subst hiE
    repeat
      (first
       | (apply P_move; (iterate 3 exact rfl)) | (apply P_assign; (iterate 3 exact rfl))
       | (apply P_cmp (b := false); (iterate 2 exact rfl); (focus (first | (simp [cmpI]; done) | (simp [cmpI]; omega))); (iterate 2 exact rfl)) | apply EL.nil
       | ((with_reducible apply EK.then_normal); apply EK.code) | (apply EC.cond_false; exact rfl)
       | (with_reducible first | apply EC.seq | apply EC.region | apply EC.skip | apply EC.label | apply EC.block | apply EC.exit | apply EC.ret | apply EK.in_normal | apply EK.in_same | apply EK.in_ret | apply EK.then_ret | apply EK.then_exit))
    refine EK.le (Le.freeze (pre := []) rfl) ?_
    refine EK.retM1k (stO g m u k n :: smO m c es :: unO u us :: mkO k [] :: rest) rfl rfl (RL.cons (Rf.fact (by simp) rfl) RL.nil) (by repeat first | exact List.Sublist.refl _ | apply List.Sublist.cons_cons | apply List.Sublist.cons) ⟨⟨L, ?_, by omega, hsl, rfl⟩, rfl⟩
    rw [List.take_length] at hCU
    exact hCU.canon hKc
theorem ps_accounts {g N : Nat} {A : As} {os : List Obj} (h : PSt g A N os) (hN : N ≤ 1000000) : FnM 21 [.v (ptr g)] os (fun r os' => (∃ L, Canon A L ∧ L.length ≤ N ∧ (∀ x ∈ L, x.sl.length ≤ N) ∧ r = .val (.sl 55 (L.map dAcL))) ∧ os' = os) := by
  obtain ⟨m, c, es, u, k, n, us, ps, rfl, hi, hu⟩ := h
  exact accounts0 hi hN
end E
end Go.Proofs.YtdhicdnmgmkpkaaGreat
