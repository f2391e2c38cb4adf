/-
  Merged (wip/tools/merge.py): SP8, SN5.
  Conditions: none.
-/
import Derived.Test.YtdhicdnmgmkpkaaGreatZC25
import Derived.Test.YtdhicdnmgmkpkaaGreatZC19
import Derived.Test.YtdhicdnmgmkpkaaGreatZC27
import Derived.Test.YtdhicdnmgmkpkaaGreatZC26
import Derived.Test.YtdhicdnmgmkpkaaGreatZC20
/-
  The program's snap.Between.
  Conditions: none.
-/
namespace Go.Proofs.YtdhicdnmgmkpkaaGreat
set_option linter.unusedVariables false
open Go.RowKit Mono Rlp Wd Go.Sort
namespace E
theorem enters_btw : ∀ args w, (callFunc 96 args).run Tryz.prog w = .ok (.enter 96 args) w := enters_of Tryz.func96 (by kernel_rfl) rfl
set_option maxRecDepth 100000 in
set_option maxHeartbeats 1000000 in
theorem cmp_btw (l m : List UInt8) (hl : l.length = 20) (hm : m.length = 20) (w : World) : Calls Tryz.prog 96 #[arrV l, arrV m] w fun e w' => e = .returned (.int .i64 (cmpB l m)) ∧ ∃ q os', w' = grow (w.drewN q) os' := by
  have mixed : Tryz.prog.follows .mixedOrders = true := by kernel_rfl
  go_enter Tryz.func96, Tryz.ntmps96
  go_wp2_with (guard_target = wpList _ _ _ (Oper.mk _ (Op.box _ _) _ _ _ _ :: _) _ _; refine wpL_boxE_addr rfl rfl rfl ?_)
  have h0 : ((w.alloc (.cells (bvs l).toArray 32)).alloc (.cells (bvs m).toArray 32)).heap[w.heap.size]? = some (.cells (bvs l).toArray 32 (0, 0)) := by
    rw [(MapKept.heap_alloc _ _).2 _ (by simp)]
    exact (MapKept.heap_alloc w _).1
  have h1 : ((w.alloc (.cells (bvs l).toArray 32)).alloc (.cells (bvs m).toArray 32)).heap[w.heap.size + 1]? = some (.cells (bvs m).toArray 32 (0, 0)) := by
    have := (MapKept.heap_alloc (w.alloc (.cells (bvs l).toArray 32)) (.cells (bvs m).toArray 32)).1
    simpa using this
  have hw : ∃ q os', (w.alloc (.cells (bvs l).toArray 32)).alloc (.cells (bvs m).toArray 32) = grow (w.drewN q) os' := ⟨0, _, by rw [alloc_eq_grow, alloc_eq_grow, grow_grow]; rfl⟩
  generalize (w.alloc (.cells (bvs l).toArray 32)).alloc (.cells (bvs m).toArray 32) = wq at h0 h1 hw ⊢
  have s0 : ∀ n, (Instr.sliceAt 32 (.pointer (some ⟨w.heap.size, 0, none⟩)) none none none).run Tryz.prog (wq.drewN n) = .ok (.slice (some ⟨w.heap.size, 0, none⟩) 20 20) (wq.drewN n) := fun n => run_slice_addr _ _
  have s1 : ∀ n, (Instr.sliceAt 32 (.pointer (some ⟨w.heap.size + 1, 0, none⟩)) none none none).run Tryz.prog (wq.drewN n) = .ok (.slice (some ⟨w.heap.size + 1, 0, none⟩) 20 20) (wq.drewN n) := fun n => run_slice_addr _ _
  have hc := Lib.hid fun n => bytes_CompareW _ _ l m (wq.drewN n) (isB_box h0 hl (by decide)) (isB_box h1 hm (by decide))
  clear h0 h1
  go_quiet_o ((go_at_call 77; exact (hc.out _).mono fun e w' ⟨he, hw⟩ => ⟨he, _, hw⟩))
  go_wp2_with fail
  obtain ⟨q, os', rfl⟩ := hw
  exact bodyPost_ret (results_tmp rfl _ _ _) rfl ⟨rfl, q + nq, os', by simp [grow, World.drewN, Nat.add_assoc]⟩
def fnd (L : List AcL) (a : List UInt8) : AcL := (L.find? fun x => x.a == a).getD (AcL.none a)
theorem fnd_is {A : As} {L : List AcL} (h : Canon A L) (a : List UInt8) : (fnd L a ∈ L ∨ fnd L a = AcL.none a) ∧ (fnd L a).a = a ∧ (fnd L a).Is (A a) := by
  unfold fnd
  cases hf : L.find? fun x => x.a == a with
  | some x =>
    have h1 := List.mem_of_find?_eq_some hf
    have h2 : x.a = a := by simpa using List.find?_some hf
    subst h2
    exact ⟨.inl h1, rfl, (h.mem x h1).1⟩
  | none =>
    have hz : A a = Ac.zero := Classical.byContradiction fun hne => by
      obtain ⟨x, hx, e⟩ := h.all a hne
      have := List.find?_eq_none.1 hf x hx
      simp [e] at this
    rw [hz]
    exact ⟨.inr rfl, rfl, none_is a⟩
theorem f_find {A : As} {L : List AcL} (h : Canon A L) (hl : L.length ≤ 1000000) (hb : ∀ x ∈ L, x.sl.length ≤ 1000000 ∧ x.cd.length ≤ 140737488355328) (a : List UInt8) : Fn 89 [.sl 55 (L.map dAcL), .arr 20 a] (· = .val (dAcL (fnd L a))) :=
  (find_ h hl hb a).fnE fun r ⟨x, _, h2, h3, h4⟩ => by
    obtain ⟨_, g2, g3⟩ := fnd_is h a
    rw [h4, h3.eq g3 (h2.trans g2.symm)]
theorem AcL.same_iff {x y : AcL} : x.same y = true ↔ x.n = y.n ∧ x.w = y.w ∧ x.cd = y.cd := by
  unfold AcL.same
  simp only [Bool.and_eq_true, decide_eq_true_eq, beq_iff_eq, and_assoc]
section
variable {x y : AcL} {p q : Ac} {L : List (List UInt8 × List UInt8)}
theorem same_eq (hx : x.Is p) (hy : y.Is q) (hs : x.same y = true) (hL : RiseF (slDiff x.sl y.sl) L) (h0 : L = []) : p = q := by
  obtain ⟨h1, h2, h3⟩ := AcL.same_iff.1 hs
  have h4 : p.sl = q.sl := by
    funext k
    refine Classical.byContradiction fun hne => ?_
    have := (hL.mem k (q.sl k)).2 ((slDiff_iff hx hy k _).2 ⟨hne, rfl⟩)
    rw [h0] at this
    cases this
  cases p
  cases q
  rw [hx.n, hy.n] at h1
  rw [hx.w, hy.w] at h2
  rw [hx.cd, hy.cd] at h3
  simp only [Ac.mk.injEq]
  exact ⟨h1, h2, h3, h4⟩
theorem same_ne (hx : x.Is p) (hy : y.Is q) (hL : RiseF (slDiff x.sl y.sl) L) (h : x.same y = false ∨ L ≠ []) : p ≠ q := by
  rintro rfl
  rcases h with h | h
  · have : x.same y = true := AcL.same_iff.2 ⟨hx.n.trans hy.n.symm, hx.w.trans hy.w.symm, hx.cd.trans hy.cd.symm⟩
    rw [h] at this
    cases this
  · obtain ⟨⟨k, v⟩, hm⟩ := List.exists_mem_of_ne_nil L h
    exact ((slDiff_iff hx hy k v).1 ((hL.mem k v).1 hm)).1 rfl
theorem gone_is (a : List UInt8) : (⟨a, true, 0, zero32, [], []⟩ : ChL).Is p Ac.zero := ⟨⟨fun _ => rfl, fun _ => rfl⟩, rfl, rfl, rfl, .nil, fun k v => ⟨fun h => by simp at h, fun h => absurd rfl h.1⟩⟩
theorem diff_is (a : List UInt8) (hx : x.Is p) (hy : y.Is q) (hL : RiseF (slDiff x.sl y.sl) L) (hq : q ≠ Ac.zero) : (⟨a, false, y.n, y.w, y.cd, L⟩ : ChL).Is p q :=
  ⟨⟨fun h => (by cases h), fun h => absurd h hq⟩, hy.n, hy.w, hy.cd, hL.ord, fun k v => (hL.mem k v).trans ((slDiff_iff hx hy k v).trans ⟨fun h => ⟨hq, h⟩, fun h => h.2⟩)⟩
end
theorem newF_from : ∀ (l : List AcL) (A : As) (a : List UInt8), l.foldl (fun A x => A.upd x.a x.take) A a = A a ∨ ∃ y ∈ l, l.foldl (fun A x => A.upd x.a x.take) A a = y.take
  | [], A, a => .inl rfl
  | x :: l, A, a => by
    rw [List.foldl_cons]
    rcases newF_from l (A.upd x.a x.take) a with h | ⟨y, hy, h⟩
    · rw [h]
      unfold As.upd
      split
      · exact .inr ⟨x, List.mem_cons_self, rfl⟩
      · exact .inl rfl
    · exact .inr ⟨y, List.mem_cons_of_mem _ hy, h⟩
theorem newA_from (l : List AcL) (a : List UInt8) : newA l a = Ac.zero ∨ ∃ y ∈ l, newA l a = y.take := newF_from l _ a
theorem AcL.Is.sl_len {x : AcL} {y : Ac} (h : x.Is y) (K : List (List UInt8)) (hK : ∀ k, y.sl k ≠ zero32 → k ∈ K) : x.sl.length ≤ K.length := by
  have h1 : (x.sl.map Prod.fst).Nodup := by
    have := h.ord
    unfold List.Nodup
    rw [List.pairwise_map]
    exact this.imp fun h e => by rw [e] at h; exact List.lt_irrefl _ h
  have := h1.length_le_of_subset (l₂ := K) fun k hk => hK k ((h.keys k).1 hk)
  simpa using this
theorem Canon.small {l L : List AcL} {n m : Nat} (h : Canon (newA l) L) (hl : ∀ x ∈ l, x.sl.length ≤ n ∧ x.cd.length ≤ m) : ∀ x ∈ L, x.sl.length ≤ n ∧ x.cd.length ≤ m := fun x hx => by
  obtain ⟨h1, h2⟩ := h.mem x hx
  rcases newA_from l x.a with e | ⟨y, hy, e⟩
  · exact absurd e h2
  · rw [e] at h1
    refine ⟨Nat.le_trans (h1.sl_len (y.sl.map Prod.fst) fun k hk => ?_) (by rw [List.length_map]; exact (hl y hy).1), by rw [h1.cd]; exact (hl y hy).2⟩
    refine Classical.byContradiction fun hn => hk ?_
    show slG y.sl (fun _ => zero32) k = zero32
    rw [slG_at zero32 y.sl _ k fun p hp e => absurd (List.mem_map.2 ⟨p, hp, e⟩) hn, if_neg hn]
structure ChSm (D : List ChL) (n s : Nat) : Prop where
  len : D.length ≤ n
  sl : ∀ c ∈ D, c.sl.length ≤ s ∧ c.cd.length ≤ 140737488355328
theorem ChSm.snoc {D : List ChL} {n s : Nat} (h : ChSm D n s) {c : ChL} (hc : c.sl.length ≤ s ∧ c.cd.length ≤ 140737488355328) : ChSm (D ++ [c]) (n + 1) s := ⟨by rw [List.length_append, List.length_singleton]; exact Nat.succ_le_succ h.len, fun x hx => by
  rcases List.mem_append.1 hx with hx | hx
  · exact h.sl x hx
  · obtain rfl : x = c := by simpa using hx
    exact hc⟩
set_option maxRecDepth 20000 in
set_option maxHeartbeats 16000000 in
theorem between_ (l m : List AcL) (s : Nat) (hl : l.length ≤ 1000) (hm : m.length ≤ 1000) (hs : s ≤ 1000) (hls : ∀ x ∈ l, x.sl.length ≤ s ∧ x.cd.length ≤ 140737488355328) (hms : ∀ x ∈ m, x.sl.length ≤ s ∧ x.cd.length ≤ 140737488355328) : FnM 43 [.sl 55 (l.map dAcL), .sl 55 (m.map dAcL)] [] (fun r os' => (∃ D, Btw (newA l) (newA m) D ∧ ChSm D (l.length + m.length) (2 * s) ∧ r = .val (.sl 56 (D.map dChL))) ∧ os' = []) := by
  have h1 := new0 l 1000 (by omega) (fun x hx => ⟨by have := (hls x hx).1; omega, (hls x hx).2⟩) (by omega)
  have h2 := new0 m 1000 (by omega) (fun x hx => ⟨by have := (hms x hx).1; omega, (hms x hx).2⟩) (by omega)
  refine FnM.walk 87 Tryz.func43 rfl Tryz.ntmps43 (by simp) fun X => ?_
  repeat
    (first
     | (apply P_callM (os := []) h1; (iterate 2 exact rfl); exact RefineL.refl _ _; (focus (intro _ _; simp [go_sem]; done)); (iterate 2 exact rfl); rintro _ os1 ⟨g, rfl, hp⟩; simp only [List.append_nil])
     | (apply P_callT (ps_accounts hp (by omega)).drop [] rfl rfl (RefineL.refl _ _) (by intro _ _; simp [go_sem]) rfl rfl; rintro _ _ ⟨⟨_, ⟨L, hL, _, _, rfl⟩, rfl⟩, rfl⟩; simp only [List.nil_append]; clear hp h1)
     | (apply P_callM (os := []) h2; (iterate 2 exact rfl); exact RefineL.refl _ _; (focus (intro _ _; simp [go_sem]; done)); (iterate 2 exact rfl); rintro _ os2 ⟨g2, rfl, hq⟩; simp only [List.append_nil])
     | (apply P_callT (ps_accounts hq (by omega)).drop [] rfl rfl (RefineL.refl _ _) (by intro _ _; simp [go_sem]) rfl rfl; rintro _ _ ⟨⟨_, ⟨M, hM, _, _, rfl⟩, rfl⟩, rfl⟩; simp only [List.nil_append]; clear hq h2)
     | (apply P_move; (iterate 3 exact rfl)) | (apply P_assign; (iterate 3 exact rfl)) | (apply P_lit; (iterate 9 exact rfl)) | apply EL.nil | ((with_reducible apply EK.then_normal); apply EK.code)
     | (with_reducible first | apply EC.seq | apply EC.region | apply EC.skip | apply EC.label | apply EC.block | apply EC.exit | apply EC.ret | apply EK.in_normal | apply EK.in_same | apply EK.in_ret | apply EK.then_ret | apply EK.then_exit))
  have hLl := hL.length_le
  have hMl := hM.length_le
  have hLs := hL.small hls
  have hMs := hM.small hms
  have hLm : (L.map dAcL).length = L.length := List.length_map _
  have hMm : (M.map dAcL).length = M.length := List.length_map _
  have hcc := concat_ (L.map dAcL) (M.map dAcL) (by omega) (by omega)
  rw [← List.map_append] at hcc
  have hUl : (L ++ M).length = L.length + M.length := List.length_append
  have hUm : ∀ a, a ∈ (L ++ M).map AcL.a ↔ newA l a ≠ Ac.zero ∨ newA m a ≠ Ac.zero := fun a => by
    rw [List.map_append, List.mem_append]
    constructor
    · rintro (h | h)
      · obtain ⟨x, hx, rfl⟩ := List.mem_map.1 h
        exact .inl (hL.mem x hx).2
      · obtain ⟨x, hx, rfl⟩ := List.mem_map.1 h
        exact .inr (hM.mem x hx).2
    · rintro (h | h)
      · obtain ⟨x, hx, e⟩ := hL.all a h
        exact .inl (List.mem_map.2 ⟨x, hx, e⟩)
      · obtain ⟨x, hx, e⟩ := hM.all a h
        exact .inr (List.mem_map.2 ⟨x, hx, e⟩)
  generalize L ++ M = U at hcc hUl hUm
  have hmU : (U.map dAcL).length = U.length := List.length_map _
  repeat
    (first
     | ((apply P_callMD (hcc); (iterate 2 exact rfl); (focus (repeat first | exact RefineL.refl _ _ | exact RL.nil | exact Rf.same | exact Rf.bs0 | exact Rf.sl0 | (apply Rf.fact; (focus (simp; done)); exact rfl) | apply Rf.tup | apply RL.cons)); (focus (intro _ _; simp [go_sem]; done)); (iterate 2 exact rfl)))
     | (apply P_move; (iterate 3 exact rfl)) | (apply P_lensl; (iterate 4 exact rfl)) | apply EL.nil | ((with_reducible apply EK.then_normal); apply EK.code)
     | (with_reducible first | apply EC.seq | apply EC.region | apply EC.skip | apply EC.label | apply EC.block | apply EC.exit | apply EC.ret | apply EK.in_normal | apply EK.in_same | apply EK.in_ret | apply EK.then_ret | apply EK.then_exit))
  refine EC.le (Le.row 32 20) ?_
  refine EC.loop (ι := {x : Nat × Value // x.1 ≤ U.length})
    (fun x => ⟨[(25, .val (.v (.int .i64 (x.1.1 : Int)))), (24, .val (.v (.int .i64 (U.map dAcL).length))), (23, .val (.sl 55 (U.map dAcL))), (5, .val (.v x.1.2)), (1, .val (.sl 55 (M.map dAcL))), (0, .val (.sl 55 (L.map dAcL)))], [.row x.1.2 32 20 (((U.take x.1.1).map AcL.a).map (D.arr 20))], []⟩)
    (fun x => U.length - x.1.1) ⟨(0, nilS), Nat.zero_le _⟩ ?_ ?_
  · exact (Le.keep (by repeat first | exact trivial | refine ⟨rfl, ?_⟩) (by repeat first | exact List.nil_sublist _ | apply List.Sublist.cons_cons | apply List.Sublist.cons) (by simp))
  rintro ⟨⟨i, v⟩, hi⟩
  dsimp only at hi ⊢
  by_cases hlt : i < U.length
  · have hd : (U.map dAcL)[i]? = some (dAcL U[i]) := by rw [List.getElem?_map, List.getElem?_eq_getElem hlt]; rfl
    have htk : ((U.take (i + 1)).map AcL.a).map (D.arr 20) = ((U.take i).map AcL.a).map (D.arr 20) ++ [.arr 20 U[i].a] := by rw [List.take_succ_eq_append_getElem hlt, List.map_append, List.map_append]; rfl
    have hlen : (((U.take i).map AcL.a).map (D.arr 20)).length = i := by rw [List.length_map, List.length_map, List.length_take]; omega
    generalize U[i] = x at hd htk
    generalize ((U.take i).map AcL.a).map (D.arr 20) = R at htk hlen ⊢
    obtain ⟨xa, xn, xw, xc, xs⟩ := x
    unfold dAcL at hd
    dsimp only at hd htk
    repeat
      (first
       | (apply P_move; (iterate 3 exact rfl)) | (apply P_assign; (iterate 3 exact rfl)) | (apply P_field; (iterate 6 exact rfl)) | (apply P_loadpd; (iterate 5 exact rfl))
       | (apply P_load; exact rfl; (first | exact I0 | exact I1 | exact I2 | exact I3 | exact I4 | exact I5 | exact I6); (iterate 4 exact rfl))
       | (apply P_cmp (b := true); (iterate 2 exact rfl); (focus (first | (simp [cmpI]; done) | (simp [cmpI]; omega))); (iterate 2 exact rfl))
       | (apply P_ar; (iterate 3 exact rfl); (focus omega); (focus omega); (iterate 2 exact rfl))
       | (apply P_index; (iterate 4 exact rfl); (focus (first | exact ⟨by decide, rfl⟩ | (refine ⟨by omega, ?_⟩; rw [Int.toNat_natCast]; assumption))); (iterate 2 exact rfl))
       | (apply P_lit; (iterate 9 exact rfl)) | (apply P_alloc; exact rfl; exact rfl; exact rfl; intro _)
       | (apply P_store; exact rfl; (focus (repeat first | exact .z | apply SetAt.s | apply SetAtF.s)); (iterate 4 exact rfl))
       | ((apply P_append; exact rfl; (focus (repeat first | exact .z | apply SetAt.s | apply SetAtF.s)); (iterate 5 exact rfl); (focus (constructor <;> (first | (simp; done) | (simp; omega))))); intro _)
       | apply EL.nil | ((with_reducible apply EK.then_normal); apply EK.code) | (apply EC.cond_true; exact rfl)
       | (with_reducible first | apply EC.seq | apply EC.region | apply EC.skip | apply EC.label | apply EC.block | apply EC.exit | apply EC.ret | apply EK.in_normal | apply EK.in_same | apply EK.in_ret | apply EK.then_ret | apply EK.then_exit))
    rename_i v'
    refine EK.again ⟨(i + 1, v'), hlt⟩ (by dsimp only; omega) ?_
    dsimp only
    rw [htk]
    simp only [Int.natCast_add]
    exact (Le.keep (by repeat first | exact trivial | refine ⟨rfl, ?_⟩) (by repeat first | exact List.nil_sublist _ | apply List.Sublist.cons_cons | apply List.Sublist.cons) (by simp))
  have hiE : i = U.length := by omega
  subst hiE
  rw [List.take_length]
  obtain ⟨K0, hK0⟩ : ∃ K0, U.map AcL.a = K0 := ⟨_, rfl⟩
  rw [hK0] at hUm
  have hK0l : K0.length = U.length := by rw [← hK0, List.length_map]
  rw [hK0]
  refine EC.rowLen 0 rfl fun hlen => ?_
  obtain ⟨ks, hks⟩ := ky_of (n := 20) K0 hlen
  have hkl : ks.length = K0.length := by rw [← hks, List.length_map]
  have hrow : K0.map (D.arr 20) = ks.map dK := by rw [val_dK, hks]
  have hs0 : (ks.mergeSort fun x y => decide (x.1 ≤ y.1)).map (·.1) = sortL K0 := by
    refine sortL_eq (((List.mergeSort_perm ks _).map (·.1)).trans (by rw [hks])) ?_
    have h := List.pairwise_mergeSort (le := fun x y : Ky 20 => decide (x.1 ≤ y.1)) (fun a b c h1 h2 => by simp only [decide_eq_true_eq] at h1 h2 ⊢; exact List.le_trans h1 h2) (fun a b => by simp only [Bool.or_eq_true, decide_eq_true_eq]; exact List.le_total a.1 b.1) ks
    rw [List.pairwise_map]
    exact h.imp fun h => by simpa using h
  have hso := sort_addr 96 cmp_btw enters_btw v ks (by omega)
  rw [val_dK (ks.mergeSort _), hs0, ← hrow] at hso
  have hSl : (sortL K0).length = K0.length := (sortL_perm K0).length_eq
  have hcp := compact_ v (sortL K0) (by omega)
  have hKo := ddF_sorted (sortL K0) (sortL_sorted K0)
  have hKm : ∀ a, a ∈ ddF (sortL K0) ↔ newA l a ≠ Ac.zero ∨ newA m a ≠ Ac.zero := fun a => by rw [ddF_mem, (sortL_perm K0).mem_iff, hUm]
  have hKl := ddF_len (sortL K0)
  generalize ddF (sortL K0) = K at hcp hKo hKm hKl
  have hKml : (K.map (D.arr 20)).length = K.length := List.length_map _
  repeat
    (first
     | (apply P_callM (os := [_]) hso; (iterate 2 exact rfl); exact RefineL.refl _ _; (focus (intro _ _; simp [go_sem]; done)); (iterate 2 exact rfl); rintro _ _ ⟨rfl, rfl⟩; simp only [List.cons_append, List.nil_append])
     | (apply P_callM (os := [_]) hcp; (iterate 2 exact rfl); exact RefineL.refl _ _; (focus (intro _ _; simp [go_sem]; done)); (iterate 2 exact rfl); rintro _ _ ⟨v2, rfl, rfl⟩; refine EL.le (Le.freeze (pre := []) rfl) ?_; refine EL.le (Le.refine (t := 38) (d' := .sl 20 (K.map (D.arr 20))) rfl (Rf.fact (by simp) rfl)) ?_; simp only [List.nil_append])
     | (apply P_move; (iterate 3 exact rfl)) | (apply P_assign; (iterate 3 exact rfl))
     | (apply P_cmp (b := false); (iterate 2 exact rfl); (focus (first | (simp [cmpI]; done) | (simp [cmpI]; omega))); (iterate 2 exact rfl)) | (apply P_lensl; (iterate 4 exact rfl)) | apply EL.nil
     | ((with_reducible apply EK.then_normal); apply EK.code) | (apply EC.cond_false; exact rfl)
     | (with_reducible first | apply EC.seq | apply EC.region | apply EC.skip | apply EC.label | apply EC.block | apply EC.exit | apply EC.ret | apply EK.in_normal | apply EK.in_same | apply EK.in_ret | apply EK.then_ret | apply EK.then_exit))
  refine EC.le (Le.row 150 56) ?_
  refine EC.loop (ι := {x : Nat × List ChL × Value // x.1 ≤ K.length ∧ BtwU (newA l) (newA m) (K.take x.1) x.2.1 ∧ ChSm x.2.1 x.1 (2 * s)})
    (fun x => ⟨[(40, .val (.v (.int .i64 (x.1.1 : Int)))), (39, .val (.v (.int .i64 (K.map (D.arr 20)).length))), (38, .val (.sl 20 (K.map (D.arr 20)))), (8, .val (.v x.1.2.2)), (1, .val (.sl 55 (M.map dAcL))), (0, .val (.sl 55 (L.map dAcL)))], [.row x.1.2.2 150 56 (x.1.2.1.map dChL)], []⟩)
    (fun x => K.length - x.1.1) ⟨(0, [], nilS), Nat.zero_le _, BtwU.nil, Nat.zero_le _, fun c hc => by simp at hc⟩ ?_ ?_
  · exact (Le.keep (by repeat first | exact trivial | refine ⟨rfl, ?_⟩) (by repeat first | exact List.nil_sublist _ | apply List.Sublist.cons_cons | apply List.Sublist.cons) (by simp))
  rintro ⟨⟨i, E, ev⟩, hi, hU, hsm⟩
  dsimp only at hi hU hsm ⊢
  by_cases hlt : i < K.length
  · have hd : (K.map (D.arr 20))[i]? = some (.arr 20 K[i]) := by rw [List.getElem?_map, List.getElem?_eq_getElem hlt]; rfl
    have htk : K.take (i + 1) = K.take i ++ [K[i]] := List.take_succ_eq_append_getElem hlt
    have hltK : ∀ b ∈ K.take i, b < K[i] := fun b hb => by
      obtain ⟨j, hj, rfl⟩ := List.getElem_of_mem hb
      rw [List.length_take] at hj
      rw [List.getElem_take]
      exact List.pairwise_iff_getElem.1 hKo j i (by omega) hlt (by omega)
    have hAB := (hKm K[i]).1 (List.getElem_mem hlt)
    generalize K[i] = k at hd htk hltK hAB
    have f1 := f_find hL (by omega) (fun x hx => ⟨by have := (hLs x hx).1; omega, (hLs x hx).2⟩) k
    have f2 := f_find hM (by omega) (fun x hx => ⟨by have := (hMs x hx).1; omega, (hMs x hx).2⟩) k
    obtain ⟨m1, e1, i1⟩ := fnd_is hL k
    obtain ⟨m2, e2, i2⟩ := fnd_is hM k
    have b1 : (fnd L k).sl.length ≤ s ∧ (fnd L k).cd.length ≤ 140737488355328 := by
      rcases m1 with h | h
      · exact hLs _ h
      · rw [h]
        exact ⟨Nat.zero_le _, Nat.zero_le _⟩
    have b2 : (fnd M k).sl.length ≤ s ∧ (fnd M k).cd.length ≤ 140737488355328 := by
      rcases m2 with h | h
      · exact hMs _ h
      · rw [h]
        exact ⟨Nat.zero_le _, Nat.zero_le _⟩
    clear m1 m2
    generalize fnd L k = x at f1 e1 i1 b1
    generalize fnd M k = y at f2 e2 i2 b2
    have hE := f_aEmpty y
    have hS := f_same x y
    have hsl := slots_ x.sl y.sl (by omega) (by omega)
    have hyz := i2.empty_iff
    have hse := fun (S : List (List UInt8 × List UInt8)) => same_eq (L := S) i1 i2
    have hsn := fun (S : List (List UInt8 × List UInt8)) => same_ne (L := S) i1 i2
    have hdi := fun (S : List (List UInt8 × List UInt8)) => diff_is (L := S) k i1 i2
    have hEl := hsm.len
    obtain ⟨xa, xn, xw, xc, xs⟩ := x
    obtain ⟨ya, yn, yw, yc, ys⟩ := y
    have hx : dAcL ⟨xa, xn, xw, xc, xs⟩ = .tup [.arr 20 xa, .v (.int .i64 xn), .arr 32 xw, .bs xc, .sl 64 (xs.map dSlL)] := rfl
    have hy : dAcL ⟨ya, yn, yw, yc, ys⟩ = .tup [.arr 20 ya, .v (.int .i64 yn), .arr 32 yw, .bs yc, .sl 64 (ys.map dSlL)] := rfl
    rw [hx] at f1 hS
    rw [hy] at f2 hS hE
    clear hx hy
    dsimp only at e1 e2 hsl b1 b2 hdi
    have hmE : (E.map dChL).length = E.length := List.length_map _
    repeat
      (first
       | (apply P_loadpd; (iterate 5 exact rfl)) | (apply P_cmp (b := true); (iterate 2 exact rfl); (focus (first | (simp [cmpI]; done) | (simp [cmpI]; omega))); (iterate 2 exact rfl))
       | (apply P_index; (iterate 4 exact rfl); (focus (first | exact ⟨by decide, rfl⟩ | (refine ⟨by omega, ?_⟩; rw [Int.toNat_natCast]; assumption))); (iterate 2 exact rfl))
       | (apply P_alloc; exact rfl; exact rfl; exact rfl; intro _) | (apply P_store; exact rfl; (focus (repeat first | exact .z | apply SetAt.s | apply SetAtF.s)); (iterate 4 exact rfl)) | apply EL.nil
       | ((with_reducible apply EK.then_normal); apply EK.code) | (apply EC.cond_true; exact rfl)
       | (with_reducible first | apply EC.seq | apply EC.region | apply EC.skip | apply EC.label | apply EC.block | apply EC.exit | apply EC.ret | apply EK.in_normal | apply EK.in_same | apply EK.in_ret | apply EK.then_ret | apply EK.then_exit))
    refine EC.draw 8 (by kernel_rfl) ?_
    simp only [List.take_succ_cons, List.take_zero, List.drop_succ_cons, List.drop_zero]
    repeat
      (first
       | (apply H_call (f1); exact rfl; (focus (repeat first | exact RefineL.refl _ _ | exact RL.nil | exact Rf.same | exact Rf.bs0 | exact Rf.sl0 | (apply Rf.fact; (focus (simp; done)); exact rfl) | apply Rf.tup | apply RL.cons)); (focus (intro _ _; simp [go_sem]; done)); (iterate 2 exact rfl))
       | (apply H_call (f2); exact rfl; (focus (repeat first | exact RefineL.refl _ _ | exact RL.nil | exact Rf.same | exact Rf.bs0 | exact Rf.sl0 | (apply Rf.fact; (focus (simp; done)); exact rfl) | apply Rf.tup | apply RL.cons)); (focus (intro _ _; simp [go_sem]; done)); (iterate 2 exact rfl))
       | (apply H_move; (iterate 3 exact rfl)) | (apply H_load; exact rfl; (first | exact I0 | exact I1 | exact I2 | exact I3 | exact I4 | exact I5 | exact I6); (iterate 4 exact rfl))
       | (apply H_alloc; (iterate 3 exact rfl)) | ((with_reducible apply EH.nil2); exact rfl; intro _ _))
    repeat
      (first
       | (apply P_callM (os := []) hsl; (iterate 2 exact rfl); exact RefineL.refl _ _; (focus (intro _ _; simp [go_sem]; done)); (iterate 2 exact rfl); rintro _ _ ⟨⟨S, hR, hSl, rfl⟩, rfl⟩; simp only [List.nil_append])
       | (apply P_call (hE); exact rfl; (focus (repeat first | exact RefineL.refl _ _ | exact RL.nil | exact Rf.same | exact Rf.bs0 | exact Rf.sl0 | (apply Rf.fact; (focus (simp; done)); exact rfl) | apply Rf.tup | apply RL.cons)); (focus (intro _ _; simp [go_sem]; done)); (iterate 2 exact rfl))
       | (apply P_assign; (iterate 3 exact rfl)) | (apply P_field; (iterate 6 exact rfl))
       | (apply P_load; exact rfl; (first | exact I0 | exact I1 | exact I2 | exact I3 | exact I4 | exact I5 | exact I6); (iterate 4 exact rfl))
       | (apply P_store; exact rfl; (focus (repeat first | exact .z | apply SetAt.s | apply SetAtF.s)); (iterate 4 exact rfl)) | apply EL.nil | ((with_reducible apply EK.then_normal); apply EK.code)
       | (with_reducible first | apply EC.seq | apply EC.region | apply EC.skip | apply EC.label | apply EC.block | apply EC.exit | apply EC.ret | apply EK.in_normal | apply EK.in_same | apply EK.in_ret | apply EK.then_ret | apply EK.then_exit))
    have hmS : (S.map dSlL).length = S.length := List.length_map _
    cases hye : (⟨ya, yn, yw, yc, ys⟩ : AcL).empty with
    | true =>
      have hz := hyz.1 hye
      have hne : newA l k ≠ newA m k := fun e => by
        rcases hAB with h | h
        · exact h (e.trans hz)
        · exact h hz
      have hgi := gone_is (p := newA l k) k
      rw [← hz] at hgi
      repeat
        (first
         | (apply P_move; (iterate 3 exact rfl)) | (apply P_assign; (iterate 3 exact rfl))
         | (apply P_load; exact rfl; (first | exact I0 | exact I1 | exact I2 | exact I3 | exact I4 | exact I5 | exact I6); (iterate 4 exact rfl))
         | (apply P_ar; (iterate 3 exact rfl); (focus omega); (focus omega); (iterate 2 exact rfl)) | (apply P_build; (iterate 7 exact rfl)) | (apply P_lit; (iterate 9 exact rfl))
         | ((apply P_append; exact rfl; (focus (repeat first | exact .z | apply SetAt.s | apply SetAtF.s)); (iterate 5 exact rfl); (focus (constructor <;> (first | (simp; done) | (simp; omega))))); intro _)
         | apply EL.nil | ((with_reducible apply EK.then_normal); apply EK.code) | (apply EC.cond_true; exact rfl)
         | (with_reducible first | apply EC.seq | apply EC.region | apply EC.skip | apply EC.label | apply EC.block | apply EC.exit | apply EC.ret | apply EK.in_normal | apply EK.in_same | apply EK.in_ret | apply EK.then_ret | apply EK.then_exit))
      rename_i v'
      refine EK.le (Le.pick [3, 0, 1, 2] [_, _, _, _] rfl (by decide) rfl) ?_
      have hmp : (E ++ [(⟨k, true, 0, zero32, [], []⟩ : ChL)]).map dChL = E.map dChL ++ [.tup [.arr 20 k, .v (.bool true), .v (.int .i64 0), .arr 32 zero32, .bs [], .sl 64 []]] := by rw [List.map_append]; rfl
      refine EK.le (Le.rowR (ds' := E.map dChL ++ [.tup [.arr 20 k, .v (.bool true), .v (.int .i64 0), .arr 32 zero32, .bs [], .sl 64 []]]) (RL.append (RefineL.refl _ _) (RL.cons (Rf.tup (RL.cons Rf.same (RL.cons Rf.same (RL.cons Rf.same (RL.cons Rf.same (RL.cons Rf.bs0 (RL.cons Rf.sl0 RL.nil))))))) RL.nil))) ?_
      refine EK.again ⟨(i + 1, E ++ [⟨k, true, 0, zero32, [], []⟩], v'), hlt, ?_, ?_⟩ (by dsimp only; omega) ?_
      · rw [htk]
        exact hU.take (c := ⟨k, true, 0, zero32, [], []⟩) hne hgi hltK
      · exact hsm.snoc ⟨Nat.zero_le _, Nat.zero_le _⟩
      dsimp only
      rw [hmp]
      simp only [Int.natCast_add]
      exact (Le.keep (by repeat first | exact trivial | refine ⟨rfl, ?_⟩) (by repeat first | exact List.nil_sublist _ | apply List.Sublist.cons_cons | apply List.Sublist.cons) (by simp))
    | false =>
      have hyn : newA m k ≠ Ac.zero := fun e => by
        rw [hyz.2 e] at hye
        cases hye
      cases hsa : (⟨xa, xn, xw, xc, xs⟩ : AcL).same ⟨ya, yn, yw, yc, ys⟩ with
      | true =>
        rw [hsa] at hS
        by_cases hS0 : S = []
        · subst hS0
          have he := hse [] hsa hR rfl
          repeat
            (first
             | (apply P_call (hS); exact rfl; (focus (repeat first | exact RefineL.refl _ _ | exact RL.nil | exact Rf.same | exact Rf.bs0 | exact Rf.sl0 | (apply Rf.fact; (focus (simp; done)); exact rfl) | apply Rf.tup | apply RL.cons)); (focus (intro _ _; simp [go_sem]; done)); (iterate 2 exact rfl))
             | (apply P_move; (iterate 3 exact rfl)) | (apply P_assign; (iterate 3 exact rfl)) | (apply P_pick; (iterate 4 exact rfl)) | (apply P_not; (iterate 3 exact rfl))
             | (apply P_load; exact rfl; (first | exact I0 | exact I1 | exact I2 | exact I3 | exact I4 | exact I5 | exact I6); (iterate 4 exact rfl))
             | (apply P_cmp (b := false); (iterate 2 exact rfl); (focus (first | (simp [cmpI]; done) | (simp [cmpI]; omega))); (iterate 2 exact rfl))
             | (apply P_ar; (iterate 3 exact rfl); (focus omega); (focus omega); (iterate 2 exact rfl)) | (apply P_lensl; (iterate 4 exact rfl)) | apply EL.nil
             | ((with_reducible apply EK.then_normal); apply EK.code) | (apply EC.cond_false; exact rfl)
             | (with_reducible first | apply EC.seq | apply EC.region | apply EC.skip | apply EC.label | apply EC.block | apply EC.exit | apply EC.ret | apply EK.in_normal | apply EK.in_same | apply EK.in_ret | apply EK.then_ret | apply EK.then_exit))
          refine EK.again ⟨(i + 1, E, ev), hlt, ?_, ⟨Nat.le_succ_of_le hEl, hsm.sl⟩⟩ (by dsimp only; omega) ?_
          · rw [htk]
            exact hU.skip he
          simp only [Int.natCast_add]
          exact (Le.keep (by repeat first | exact trivial | refine ⟨rfl, ?_⟩) (by repeat first | exact List.nil_sublist _ | apply List.Sublist.cons_cons | apply List.Sublist.cons) (by simp))
        · have hSp : S.length ≠ 0 := fun h => hS0 (List.eq_nil_of_length_eq_zero h)
          repeat
            (first
             | (apply P_call (hS); exact rfl; (focus (repeat first | exact RefineL.refl _ _ | exact RL.nil | exact Rf.same | exact Rf.bs0 | exact Rf.sl0 | (apply Rf.fact; (focus (simp; done)); exact rfl) | apply Rf.tup | apply RL.cons)); (focus (intro _ _; simp [go_sem]; done)); (iterate 2 exact rfl))
             | (apply P_move; (iterate 3 exact rfl)) | (apply P_assign; (iterate 3 exact rfl)) | (apply P_field; (iterate 6 exact rfl)) | (apply P_pick; (iterate 4 exact rfl)) | (apply P_not; (iterate 3 exact rfl))
             | (apply P_load; exact rfl; (first | exact I0 | exact I1 | exact I2 | exact I3 | exact I4 | exact I5 | exact I6); (iterate 4 exact rfl))
             | (apply P_cmp (b := true); (iterate 2 exact rfl); (focus (first | (simp [cmpI]; done) | (simp [cmpI]; omega))); (iterate 2 exact rfl))
             | (apply P_ar; (iterate 3 exact rfl); (focus omega); (focus omega); (iterate 2 exact rfl)) | (apply P_lensl; (iterate 4 exact rfl)) | (apply P_build; (iterate 7 exact rfl))
             | (apply P_lit; (iterate 9 exact rfl))
             | ((apply P_append; exact rfl; (focus (repeat first | exact .z | apply SetAt.s | apply SetAtF.s)); (iterate 5 exact rfl); (focus (constructor <;> (first | (simp; done) | (simp; omega))))); intro _)
             | apply EL.nil | ((with_reducible apply EK.then_normal); apply EK.code) | (apply EC.cond_true; exact rfl) | (apply EC.cond_false; exact rfl)
             | (with_reducible first | apply EC.seq | apply EC.region | apply EC.skip | apply EC.label | apply EC.block | apply EC.exit | apply EC.ret | apply EK.in_normal | apply EK.in_same | apply EK.in_ret | apply EK.then_ret | apply EK.then_exit))
          rename_i v'
          refine EK.le (Le.pick [3, 0, 1, 2] [_, _, _, _] rfl (by decide) rfl) ?_
          have hmp : (E ++ [(⟨k, false, yn, yw, yc, S⟩ : ChL)]).map dChL = E.map dChL ++ [.tup [.arr 20 k, .v (.bool false), .v (.int .i64 yn), .arr 32 yw, .bs yc, .sl 64 (S.map dSlL)]] := by rw [List.map_append]; rfl
          refine EK.again ⟨(i + 1, E ++ [⟨k, false, yn, yw, yc, S⟩], v'), hlt, ?_, ?_⟩ (by dsimp only; omega) ?_
          · rw [htk]
            exact hU.take (c := ⟨k, false, yn, yw, yc, S⟩) (hsn S hR (.inr hS0)) (hdi S hR hyn) hltK
          · exact hsm.snoc ⟨by dsimp only; omega, b2.2⟩
          dsimp only
          rw [hmp]
          simp only [Int.natCast_add]
          exact (Le.keep (by repeat first | exact trivial | refine ⟨rfl, ?_⟩) (by repeat first | exact List.nil_sublist _ | apply List.Sublist.cons_cons | apply List.Sublist.cons) (by simp))
      | false =>
        rw [hsa] at hS
        repeat
          (first
           | (apply P_skip; (iterate 2 exact rfl))
           | (apply P_call (hS); exact rfl; (focus (repeat first | exact RefineL.refl _ _ | exact RL.nil | exact Rf.same | exact Rf.bs0 | exact Rf.sl0 | (apply Rf.fact; (focus (simp; done)); exact rfl) | apply Rf.tup | apply RL.cons)); (focus (intro _ _; simp [go_sem]; done)); (iterate 2 exact rfl))
           | (apply P_move; (iterate 3 exact rfl)) | (apply P_assign; (iterate 3 exact rfl)) | (apply P_field; (iterate 6 exact rfl)) | (apply P_pick; (iterate 4 exact rfl)) | (apply P_not; (iterate 3 exact rfl))
           | (apply P_load; exact rfl; (first | exact I0 | exact I1 | exact I2 | exact I3 | exact I4 | exact I5 | exact I6); (iterate 4 exact rfl))
           | (apply P_ar; (iterate 3 exact rfl); (focus omega); (focus omega); (iterate 2 exact rfl)) | (apply P_build; (iterate 7 exact rfl)) | (apply P_lit; (iterate 9 exact rfl))
           | ((apply P_append; exact rfl; (focus (repeat first | exact .z | apply SetAt.s | apply SetAtF.s)); (iterate 5 exact rfl); (focus (constructor <;> (first | (simp; done) | (simp; omega))))); intro _)
           | apply EL.nil | ((with_reducible apply EK.then_normal); apply EK.code) | (apply EC.cond_true; exact rfl) | (apply EC.cond_false; exact rfl)
           | (with_reducible first | apply EC.seq | apply EC.region | apply EC.skip | apply EC.label | apply EC.block | apply EC.exit | apply EC.ret | apply EK.in_normal | apply EK.in_same | apply EK.in_ret | apply EK.then_ret | apply EK.then_exit))
        rename_i v'
        refine EK.le (Le.pick [3, 0, 1, 2] [_, _, _, _] rfl (by decide) rfl) ?_
        have hmp : (E ++ [(⟨k, false, yn, yw, yc, S⟩ : ChL)]).map dChL = E.map dChL ++ [.tup [.arr 20 k, .v (.bool false), .v (.int .i64 yn), .arr 32 yw, .bs yc, .sl 64 (S.map dSlL)]] := by rw [List.map_append]; rfl
        refine EK.again ⟨(i + 1, E ++ [⟨k, false, yn, yw, yc, S⟩], v'), hlt, ?_, ?_⟩ (by dsimp only; omega) ?_
        · rw [htk]
          exact hU.take (c := ⟨k, false, yn, yw, yc, S⟩) (hsn S hR (.inl hsa)) (hdi S hR hyn) hltK
        · exact hsm.snoc ⟨by dsimp only; omega, b2.2⟩
        dsimp only
        rw [hmp]
        simp only [Int.natCast_add]
        exact (Le.keep (by repeat first | exact trivial | refine ⟨rfl, ?_⟩) (by repeat first | exact List.nil_sublist _ | apply List.Sublist.cons_cons | apply List.Sublist.cons) (by simp))
  · have hiE : i = K.length := by omega
    subst hiE
    rw [List.take_length] at hU
    repeat
      (first
       | (apply P_move; (iterate 3 exact rfl)) | (apply P_assign; (iterate 3 exact rfl))
       | (apply P_cmp (b := false); (iterate 2 exact rfl); (focus (first | (simp [cmpI]; done) | (simp [cmpI]; omega))); (iterate 2 exact rfl)) | apply EL.nil
       | ((with_reducible apply EK.then_normal); apply EK.code) | (apply EC.cond_false; exact rfl)
       | (with_reducible first | apply EC.seq | apply EC.region | apply EC.skip | apply EC.label | apply EC.block | apply EC.exit | apply EC.ret | apply EK.in_normal | apply EK.in_same | apply EK.in_ret | apply EK.then_ret | apply EK.then_exit))
    refine EK.le (Le.freeze (pre := []) rfl) ?_
    exact EK.retM1k [] rfl rfl (RL.cons (Rf.fact List.mem_cons_self rfl) RL.nil) (List.nil_sublist _) ⟨⟨E, hU.btw fun a ha => (hKm a).2 (by
      by_cases h0 : newA l a = Ac.zero
      · exact .inr fun e => ha (h0.trans e.symm)
      · exact .inl h0), ⟨by have := hsm.len; omega, hsm.sl⟩, rfl⟩, rfl⟩
end E
end Go.Proofs.YtdhicdnmgmkpkaaGreat
/-
  The program's snap: Layers (slices.DeleteFunc of one word that stands once).
  Conditions: none.
-/
namespace Go.Proofs.YtdhicdnmgmkpkaaGreat
set_option linter.unusedVariables false
open Go.RowKit Mono Rlp Wd Go.Sort
namespace E
section
variable {g m c g1 : Nat} {base : List UInt8} {v : Value}
abbrev lyO (v : Value) (K : List (List UInt8)) : Obj := .row v 34 32 (K.map (D.arr 32))
abbrev lyF (g1 : Nat) : Value := .func (.func 93) #[] #[ptr g1]
abbrev lvO (g1 g : Nat) : Obj := .var g1 48 (.v (ptr g))
set_option maxRecDepth 20000 in
set_option maxHeartbeats 4000000 in
theorem isbase (x : List UInt8) : FnM 93 ([.arr 32 x] ++ [.v (ptr g1)]) [lvO g1 g, tO g m base] (fun r os' => r = .val (.v (.bool (x == base))) ∧ os' = [lvO g1 g, tO g m base]) := by
  have he := (bin_word x base).1
  refine FnM.walk 10 Tryz.func93 rfl Tryz.ntmps93 (by simp) fun X => ?_
  repeat
    (first
     | (apply P_assign; (iterate 3 exact rfl)) | (apply P_box; exact rfl; exact rfl; exact rfl; intro _) | apply EL.nil | ((with_reducible apply EK.then_normal); apply EK.code)
     | (with_reducible first | apply EC.seq | apply EC.region | apply EC.skip | apply EC.label | apply EC.block | apply EC.exit | apply EC.ret | apply EK.in_normal | apply EK.in_same | apply EK.in_ret | apply EK.then_ret | apply EK.then_exit))
  refine EC.draw 6 (by kernel_rfl) ?_
  simp only [List.take_succ_cons, List.take_zero, List.drop_succ_cons, List.drop_zero]
  repeat
    (first
     | (apply H_bin; (iterate 2 exact rfl); exact he; (iterate 2 exact rfl)) | (apply H_field; (iterate 6 exact rfl))
     | (apply H_load; exact rfl; (first | exact I0 | exact I1 | exact I2 | exact I3 | exact I4 | exact I5 | exact I6); (iterate 4 exact rfl)) | (apply H_nilck; (iterate 3 exact rfl))
     | ((with_reducible apply EH.nil); exact rfl))
  repeat
    (first
     | (apply P_assign; (iterate 3 exact rfl)) | apply EL.nil | ((with_reducible apply EK.then_normal); apply EK.code)
     | (with_reducible first | apply EC.seq | apply EC.region | apply EC.skip | apply EC.label | apply EC.block | apply EC.exit | apply EC.ret | apply EK.in_normal | apply EK.in_same | apply EK.in_ret | apply EK.then_ret | apply EK.then_exit))
  exact EK.retM1s [lvO g1 g, tO g m base] rfl rfl (by (repeat first | exact List.nil_sublist _ | apply List.Sublist.cons_cons | apply List.Sublist.cons)) ⟨rfl, rfl⟩
set_option maxRecDepth 20000 in
set_option maxHeartbeats 4000000 in
theorem index_ly (K1 K2 : List (List UInt8)) (h1 : ∀ k ∈ K1, k ≠ base) (hl : K1.length + K2.length < 1099511627776) : FnM 134 [.v v, .v (lyF g1)] [lvO g1 g, tO g m base, lyO v (K1 ++ base :: K2)] (fun r os' => r = .val (.v (.int .i64 (K1.length : Int))) ∧ os' = [lvO g1 g, tO g m base, lyO v (K1 ++ base :: K2)]) := by
  have hml : ((K1 ++ base :: K2).map (D.arr 32)).length = K1.length + 1 + K2.length := by simp; omega
  refine FnM.walk 19 Tryz.func134 rfl Tryz.ntmps134 (by simp) fun X => ?_
  repeat
    (first
     | (apply P_move; (iterate 3 exact rfl)) | (apply P_assign; (iterate 3 exact rfl))
     | (apply P_lenrow; exact rfl; (first | exact I0 | exact I1 | exact I2 | exact I3 | exact I4 | exact I5 | exact I6); (iterate 3 exact rfl)) | apply EL.nil
     | ((with_reducible apply EK.then_normal); apply EK.code)
     | (with_reducible first | apply EC.seq | apply EC.region | apply EC.skip | apply EC.label | apply EC.block | apply EC.exit | apply EC.ret | apply EK.in_normal | apply EK.in_same | apply EK.in_ret | apply EK.then_ret | apply EK.then_exit))
  refine EC.loop (ι := {i : Nat // i ≤ K1.length})
    (fun i => ⟨[(8, .val (.v (.int .i64 (i.1 : Int)))), (7, .val (.v (.int .i64 ((K1 ++ base :: K2).map (D.arr 32)).length))), (1, .val (.v (lyF g1))), (0, .val (.v v))], [lvO g1 g, tO g m base, lyO v (K1 ++ base :: K2)], []⟩)
    (fun i => K1.length - i.1) ⟨0, Nat.zero_le _⟩ ?_ ?_
  · exact (Le.keep (by repeat first | exact trivial | refine ⟨rfl, ?_⟩) (by repeat first | exact List.nil_sublist _ | apply List.Sublist.cons_cons | apply List.Sublist.cons) (by simp))
  rintro ⟨i, hi⟩
  dsimp only at hi ⊢
  by_cases hlt : i < K1.length
  · have hd : ((K1 ++ base :: K2).map (D.arr 32))[i]? = some (.arr 32 K1[i]) := by rw [List.getElem?_map, List.getElem?_append_left hlt, List.getElem?_eq_getElem hlt]; rfl
    have hb := isbase (g1 := g1) (g := g) (m := m) (base := base) K1[i]
    rw [show (K1[i] == base) = false by simpa using h1 _ (List.getElem_mem hlt)] at hb
    repeat
      (first
       | (apply P_rowload (k := i) (off := 0) (d := .arr 32 K1[i]); exact rfl; exact I2; exact ⟨by simp, hd⟩; (iterate 4 exact rfl))
       | (apply P_callMV (caps := [ptr g1]) hb; (exact fun base ok L a w _ => caps_v (caps := [ptr g1]) (by simp [Value.oneCell'])); (iterate 3 exact rfl); exact RefineL.refl _ _; (focus (intro _ _; simp [go_sem]; done)); (iterate 2 exact rfl); rintro _ _ ⟨rfl, rfl⟩)
       | (apply P_move; (iterate 3 exact rfl)) | (apply P_assign; (iterate 3 exact rfl))
       | (apply P_cmp (b := true); (iterate 2 exact rfl); (focus (first | (simp [cmpI]; done) | (simp [cmpI]; omega))); (iterate 2 exact rfl))
       | (apply P_ar; (iterate 3 exact rfl); (focus omega); (focus omega); (iterate 2 exact rfl))
       | (apply P_rowidx; exact rfl; (first | exact I0 | exact I1 | exact I2 | exact I3 | exact I4 | exact I5 | exact I6); (iterate 2 exact rfl); (focus (first | assumption | omega | (constructor <;> (first | (simp; done) | (simp; omega))))); (iterate 2 exact rfl))
       | apply EL.nil | ((with_reducible apply EK.then_normal); apply EK.code) | (apply EC.cond_true; exact rfl) | (apply EC.cond_false; exact rfl)
       | (with_reducible first | apply EC.seq | apply EC.region | apply EC.skip | apply EC.label | apply EC.block | apply EC.exit | apply EC.ret | apply EK.in_normal | apply EK.in_same | apply EK.in_ret | apply EK.then_ret | apply EK.then_exit))
    refine EK.again ⟨i + 1, hlt⟩ (by dsimp only; omega) ?_
    simp only [Int.natCast_add]
    exact (Le.keep (by repeat first | exact trivial | refine ⟨rfl, ?_⟩) (by repeat first | exact List.nil_sublist _ | apply List.Sublist.cons_cons | apply List.Sublist.cons) (by simp))
  · have hiE : i = K1.length := by omega
    subst hiE
    have hd : ((K1 ++ base :: K2).map (D.arr 32))[K1.length]? = some (.arr 32 base) := by simp
    have hb := isbase (g1 := g1) (g := g) (m := m) (base := base) base
    rw [beq_self_eq_true] at hb
    repeat
      (first
       | (apply P_rowload (k := K1.length) (off := 0) (d := .arr 32 base); exact rfl; exact I2; exact ⟨by simp, hd⟩; (iterate 4 exact rfl))
       | (apply P_callMV (caps := [ptr g1]) hb; (exact fun base ok L a w _ => caps_v (caps := [ptr g1]) (by simp [Value.oneCell'])); (iterate 3 exact rfl); exact RefineL.refl _ _; (focus (intro _ _; simp [go_sem]; done)); (iterate 2 exact rfl); rintro _ _ ⟨rfl, rfl⟩)
       | (apply P_move; (iterate 3 exact rfl)) | (apply P_assign; (iterate 3 exact rfl))
       | (apply P_cmp (b := true); (iterate 2 exact rfl); (focus (first | (simp [cmpI]; done) | (simp [cmpI]; omega))); (iterate 2 exact rfl))
       | (apply P_rowidx; exact rfl; (first | exact I0 | exact I1 | exact I2 | exact I3 | exact I4 | exact I5 | exact I6); (iterate 2 exact rfl); (focus (first | assumption | omega | (constructor <;> (first | (simp; done) | (simp; omega))))); (iterate 2 exact rfl))
       | apply EL.nil | ((with_reducible apply EK.then_normal); apply EK.code) | (apply EC.cond_true; exact rfl)
       | (with_reducible first | apply EC.seq | apply EC.region | apply EC.skip | apply EC.label | apply EC.block | apply EC.exit | apply EC.ret | apply EK.in_normal | apply EK.in_same | apply EK.in_ret | apply EK.then_ret | apply EK.then_exit))
    exact EK.retM1s [lvO g1 g, tO g m base, lyO v (K1 ++ base :: K2)] rfl rfl (by (repeat first | exact List.nil_sublist _ | apply List.Sublist.cons_cons | apply List.Sublist.cons)) ⟨rfl, rfl⟩
set_option maxRecDepth 20000 in
set_option maxHeartbeats 8000000 in
theorem delete_ly (K1 K2 : List (List UInt8)) (h1 : ∀ k ∈ K1, k ≠ base) (h2 : ∀ k ∈ K2, k ≠ base) (hl : K1.length + K2.length < 1099511627776) : FnM 92 [.v v, .v (lyF g1)] [lvO g1 g, tO g m base, lyO v (K1 ++ base :: K2)] (fun r os' => r = .val (.v (cutV v (K1.length + K2.length))) ∧ os' = [lvO g1 g, tO g m base, lyO (cutV v (K1.length + K2.length)) (K1 ++ K2)]) := by
  have hix := index_ly (v := v) (g := g) (m := m) (g1 := g1) K1 K2 h1 hl
  have hml : ((K1 ++ base :: K2).map (D.arr 32)).length = K1.length + 1 + K2.length := by simp; omega
  refine FnM.walk 42 Tryz.func92 rfl Tryz.ntmps92 (by simp) fun X => ?_
  repeat
    (first
     | ((apply P_callMD (hix); (iterate 2 exact rfl); (focus (repeat first | exact RefineL.refl _ _ | exact RL.nil | exact Rf.same | exact Rf.bs0 | exact Rf.sl0 | (apply Rf.fact; (focus (simp; done)); exact rfl) | apply Rf.tup | apply RL.cons)); (focus (intro _ _; simp [go_sem]; done)); (iterate 2 exact rfl)))
     | (apply P_move; (iterate 3 exact rfl)) | (apply P_assign; (iterate 3 exact rfl))
     | (apply P_cmp (b := false); (iterate 2 exact rfl); (focus (first | (simp [cmpI]; done) | (simp [cmpI]; omega))); (iterate 2 exact rfl))
     | (apply P_ar; (iterate 3 exact rfl); (focus omega); (focus omega); (iterate 2 exact rfl)) | apply EL.nil | ((with_reducible apply EK.then_normal); apply EK.code) | (apply EC.cond_false; exact rfl)
     | (with_reducible first | apply EC.seq | apply EC.region | apply EC.skip | apply EC.label | apply EC.block | apply EC.exit | apply EC.ret | apply EK.in_normal | apply EK.in_same | apply EK.in_ret | apply EK.then_ret | apply EK.then_exit))
  have hRl : ∀ i, i ≤ K2.length → ((K1 ++ K2.take i ++ (base :: K2).drop i).map (D.arr 32)).length = K1.length + 1 + K2.length := fun i hi => by
    simp only [List.length_map, List.length_append, List.length_take, List.length_drop, List.length_cons]
    omega
  refine EC.loop (ι := {i : Nat // i ≤ K2.length})
    (fun i => ⟨[(6, .val (.v (.int .i64 ((K1.length + 1 + i.1 : Nat) : Int)))), (5, .val (.v (.int .i64 ((K1.length + i.1 : Nat) : Int)))), (1, .val (.v (lyF g1))), (0, .val (.v v))], [lvO g1 g, tO g m base, lyO v (K1 ++ K2.take i.1 ++ (base :: K2).drop i.1)], []⟩)
    (fun i => K2.length - i.1) ⟨0, Nat.zero_le _⟩ ?_ ?_
  · simp only [Nat.add_zero, List.take_zero, List.append_nil, List.drop_zero, Int.natCast_add]
    exact (Le.keep (by repeat first | exact trivial | refine ⟨rfl, ?_⟩) (by repeat first | exact List.nil_sublist _ | apply List.Sublist.cons_cons | apply List.Sublist.cons) (by simp))
  rintro ⟨i, hi⟩
  dsimp only at hi ⊢
  have hRi := hRl i hi
  by_cases hlt : i < K2.length
  · have hl1 : (K1 ++ K2.take i).length = K1.length + i := by rw [List.length_append, List.length_take]; omega
    have hdr : (base :: K2).drop i = (base :: K2)[i]'(by simp; omega) :: K2.drop i := by rw [List.drop_eq_getElem_cons (by simp; omega), List.drop_succ_cons]
    have hdr2 : K2.drop i = K2[i] :: K2.drop (i + 1) := List.drop_eq_getElem_cons hlt
    have hget : (K1 ++ K2.take i ++ (base :: K2).drop i)[K1.length + 1 + i]? = some K2[i] := by
      rw [List.getElem?_append_right (by omega), hl1, hdr, show K1.length + 1 + i - (K1.length + i) = 1 by omega, hdr2]
      rfl
    have hset : (K1 ++ K2.take i ++ (base :: K2).drop i).set (K1.length + i) K2[i] = K1 ++ K2.take (i + 1) ++ (base :: K2).drop (i + 1) := by
      rw [List.set_append_right _ _ (by omega), hl1, Nat.sub_self, hdr, List.set_cons_zero, List.take_succ_eq_append_getElem hlt, List.drop_succ_cons]
      simp only [List.append_assoc, List.cons_append, List.nil_append]
    have hold : ∃ y, (K1 ++ K2.take i ++ (base :: K2).drop i)[K1.length + i]? = some y := by
      rw [List.getElem?_append_right (by omega), hl1, Nat.sub_self, hdr]
      exact ⟨_, rfl⟩
    obtain ⟨y, hy⟩ := hold
    have hR2 : (K1 ++ K2.take i ++ (base :: K2).drop i).length = K1.length + 1 + K2.length := by rw [← hRi, List.length_map]
    have hb := isbase (g1 := g1) (g := g) (m := m) (base := base) K2[i]
    rw [show (K2[i] == base) = false by simpa using h2 _ (List.getElem_mem hlt)] at hb
    clear hdr hdr2
    generalize K2[i] = x at hget hset hb
    generalize K1 ++ K2.take i ++ (base :: K2).drop i = R at hRi hR2 hget hset hy ⊢
    have hd : (R.map (D.arr 32))[K1.length + 1 + i]? = some (.arr 32 x) := by rw [List.getElem?_map, hget]; rfl
    have hd2 : (R.map (D.arr 32))[K1.length + i]? = some (.arr 32 y) := by rw [List.getElem?_map, hy]; rfl
    repeat
      (first
       | (apply P_rowload (k := K1.length + 1 + i) (off := 0) (d := .arr 32 x); exact rfl; exact I2; exact ⟨by rw [Int.toNat_natCast]; rfl, hd⟩; (iterate 4 exact rfl)) | (apply P_move; (iterate 3 exact rfl))
       | (apply P_load; exact rfl; (first | exact I0 | exact I1 | exact I2 | exact I3 | exact I4 | exact I5 | exact I6); (iterate 4 exact rfl))
       | (apply P_cmp (b := true); (iterate 2 exact rfl); (focus (first | (simp [cmpI]; done) | (simp [cmpI]; omega))); (iterate 2 exact rfl))
       | (apply P_lenrow; exact rfl; (first | exact I0 | exact I1 | exact I2 | exact I3 | exact I4 | exact I5 | exact I6); (iterate 3 exact rfl))
       | (apply P_rowidx; exact rfl; (first | exact I0 | exact I1 | exact I2 | exact I3 | exact I4 | exact I5 | exact I6); (iterate 2 exact rfl); (focus (first | assumption | omega | (constructor <;> (first | (simp; done) | (simp; omega))))); (iterate 2 exact rfl))
       | (apply P_alloc; exact rfl; exact rfl; exact rfl; intro _) | (apply P_store; exact rfl; (focus (repeat first | exact .z | apply SetAt.s | apply SetAtF.s)); (iterate 4 exact rfl)) | apply EL.nil
       | ((with_reducible apply EK.then_normal); apply EK.code) | (apply EC.cond_true; exact rfl)
       | (with_reducible first | apply EC.seq | apply EC.region | apply EC.skip | apply EC.label | apply EC.block | apply EC.exit | apply EC.ret | apply EK.in_normal | apply EK.in_same | apply EK.in_ret | apply EK.then_ret | apply EK.then_exit))
    refine EL.le (Le.pick [1, 2, 0, 3] [_, _, _, _] rfl (by decide) rfl) ?_
    repeat
      (first
       | (apply P_callMV (caps := [ptr g1]) hb; (exact fun base ok L a w _ => caps_v (caps := [ptr g1]) (by simp [Value.oneCell'])); (iterate 3 exact rfl); exact RefineL.refl _ _; (focus (intro _ _; simp [go_sem]; done)); (iterate 2 exact rfl); rintro _ _ ⟨rfl, rfl⟩; simp only [List.cons_append, List.nil_append])
       | (apply P_rowstore (k := K1.length + i) (off := 0) (d := .arr 32 y) (d'' := .arr 32 x); exact rfl; exact .s (.s (.s .z)); exact ⟨by rw [Int.toNat_natCast]; rfl, hd2⟩; (iterate 4 exact rfl))
       | (apply P_move; (iterate 3 exact rfl)) | (apply P_assign; (iterate 3 exact rfl)) | (apply P_not; (iterate 3 exact rfl))
       | (apply P_load; exact rfl; (first | exact I0 | exact I1 | exact I2 | exact I3 | exact I4 | exact I5 | exact I6); (iterate 4 exact rfl))
       | (apply P_ar; (iterate 3 exact rfl); (focus omega); (focus omega); (iterate 2 exact rfl))
       | (apply P_rowidx; exact rfl; (first | exact I0 | exact I1 | exact I2 | exact I3 | exact I4 | exact I5 | exact I6); (iterate 2 exact rfl); (focus (first | assumption | omega | (constructor <;> (first | (simp; done) | (simp; omega))))); (iterate 2 exact rfl))
       | apply EL.nil | ((with_reducible apply EK.then_normal); apply EK.code) | (apply EC.cond_true; exact rfl)
       | (with_reducible first | apply EC.seq | apply EC.region | apply EC.skip | apply EC.label | apply EC.block | apply EC.exit | apply EC.ret | apply EK.in_normal | apply EK.in_same | apply EK.in_ret | apply EK.then_ret | apply EK.then_exit))
    refine EK.again ⟨i + 1, hlt⟩ (by dsimp only; omega) ?_
    dsimp only
    rw [show (R.map (D.arr 32)).set (K1.length + i) (.arr 32 x) = (K1 ++ K2.take (i + 1) ++ (base :: K2).drop (i + 1)).map (D.arr 32) by rw [← hset, List.map_set]]
    rw [show ((K1.length + 1 + i : Nat) : Int) + 1 = ((K1.length + 1 + (i + 1) : Nat) : Int) by omega, show ((K1.length + i : Nat) : Int) + 1 = ((K1.length + (i + 1) : Nat) : Int) by omega]
    exact (Le.keep (by repeat first | exact trivial | refine ⟨rfl, ?_⟩) (by repeat first | exact List.nil_sublist _ | apply List.Sublist.cons_cons | apply List.Sublist.cons) (by simp))
  · have hiE : i = K2.length := by omega
    subst hiE
    rw [List.take_length]
    rw [List.take_length] at hRi
    have hR2 : (K1 ++ K2 ++ (base :: K2).drop K2.length).length = K1.length + 1 + K2.length := by rw [← hRi, List.length_map]
    have hcut : (((K1 ++ K2 ++ (base :: K2).drop K2.length).map (D.arr 32)).set (K1.length + K2.length) (.arr 32 zero32)).take (K1.length + K2.length) = (K1 ++ K2).map (D.arr 32) := by
      rw [List.take_set_of_le (Nat.le_refl _), ← List.map_take, List.take_left' (by rw [List.length_append])]
    generalize (K1 ++ K2 ++ (base :: K2).drop K2.length) = R at hRi hR2 hcut ⊢
    repeat
      (first
       | (apply P_rowsuf; exact rfl; exact I2; (iterate 2 exact rfl); exact ⟨by omega, by rw [Int.toNat_natCast, hRi]; omega⟩; (iterate 2 exact rfl)) | (apply P_move; (iterate 3 exact rfl))
       | (apply P_cmp (b := false); (iterate 2 exact rfl); (focus (first | (simp [cmpI]; done) | (simp [cmpI]; omega))); (iterate 2 exact rfl))
       | (apply P_lenrow; exact rfl; (first | exact I0 | exact I1 | exact I2 | exact I3 | exact I4 | exact I5 | exact I6); (iterate 3 exact rfl)) | apply EL.nil
       | ((with_reducible apply EK.then_normal); apply EK.code) | (apply EC.cond_false; exact rfl)
       | (with_reducible first | apply EC.seq | apply EC.region | apply EC.skip | apply EC.label | apply EC.block | apply EC.exit | apply EC.ret | apply EK.in_normal | apply EK.in_same | apply EK.in_ret | apply EK.then_ret | apply EK.then_exit))
    rw [Int.toNat_natCast]
    repeat
      (first
       | (apply P_clear1 (dz := .arr 32 zero32); exact rfl; exact .s (.s .z); (rw [hRi]; omega); (iterate 6 exact rfl))
       | (apply P_rowcut; exact rfl; exact I2; (iterate 2 exact rfl); exact ⟨by omega, by rw [Int.toNat_natCast, List.length_set, hRi]; omega⟩; (iterate 2 exact rfl)) | (apply P_move; (iterate 3 exact rfl))
       | (apply P_assign; (iterate 3 exact rfl)) | apply EL.nil | ((with_reducible apply EK.then_normal); apply EK.code)
       | (with_reducible first | apply EC.seq | apply EC.region | apply EC.skip | apply EC.label | apply EC.block | apply EC.exit | apply EC.ret | apply EK.in_normal | apply EK.in_same | apply EK.in_ret | apply EK.then_ret | apply EK.then_exit))
    rw [Int.toNat_natCast]
    refine EK.le (Le.cutRow (k := K1.length + K2.length) (v := v) (ds := (R.map (D.arr 32)).set (K1.length + K2.length) (.arr 32 zero32)) (by rw [List.length_set, hRi]; omega) (.s (.s .z))) ?_
    rw [hcut]
    exact EK.retM1s [lvO g1 g, tO g m base, lyO (cutV v (K1.length + K2.length)) (K1 ++ K2)] rfl rfl (by (repeat first | exact List.nil_sublist _ | apply List.Sublist.cons_cons | apply List.Sublist.cons)) ⟨rfl, rfl⟩
set_option maxRecDepth 20000 in
set_option maxHeartbeats 8000000 in
theorem slayers {es : List Ent} {K1 K2 : List (List UInt8)} (hK : sortL (es.map (·.2.1)) = K1 ++ base :: K2) (hn : (es.map (·.2.1)).Nodup) (hl : es.length ≤ 1000000) : FnM 41 [.v (ptr g)] [tO g m base, .map m 32 c es] (fun r os' => r = .val (.sl 32 ((K1 ++ K2).map (D.arr 32))) ∧ os' = [tO g m base, .map m 32 c es]) := by
  have hnd : (K1 ++ base :: K2).Nodup := by rw [← hK]; exact (sortL_perm _).nodup_iff.2 hn
  have hne1 : ∀ k ∈ K1, k ≠ base := fun k hk e => by
    have := (List.nodup_append.1 hnd).2.2 k hk base List.mem_cons_self
    exact this e
  have hne2 : ∀ k ∈ K2, k ≠ base := fun k hk e => by
    have := (List.nodup_cons.1 (List.nodup_append.1 hnd).2.1).1
    rw [← e] at this
    exact this hk
  have hKl : K1.length + 1 + K2.length = es.length := by
    have := (sortL_perm (es.map (·.2.1))).length_eq
    rw [hK, List.length_map] at this
    simp at this
    omega
  have hk := keys_lay m
  have hs := fun gk => sorted_lay 81 cmp_word enters_tc gk m c es (by omega)
  refine FnM.walk 13 Tryz.func41 rfl Tryz.ntmps41 (by simp) fun X => ?_
  repeat
    (first
     | (apply P_callM (os := []) hk; (iterate 2 exact rfl); exact RefineL.refl _ _; (focus (intro _ _; simp [go_sem]; done)); (iterate 2 exact rfl); rintro _ _ ⟨gk, rfl, rfl⟩; simp only [List.cons_append, List.nil_append])
     | (apply P_assign; (iterate 3 exact rfl)) | (apply P_field; (iterate 6 exact rfl))
     | (apply P_load; exact rfl; (first | exact I0 | exact I1 | exact I2 | exact I3 | exact I4 | exact I5 | exact I6); (iterate 4 exact rfl)) | (apply P_nilck; (iterate 3 exact rfl))
     | (apply P_box; exact rfl; exact rfl; exact rfl; intro _) | apply EL.nil | ((with_reducible apply EK.then_normal); apply EK.code)
     | (with_reducible first | apply EC.seq | apply EC.region | apply EC.skip | apply EC.label | apply EC.block | apply EC.exit | apply EC.ret | apply EK.in_normal | apply EK.in_same | apply EK.in_ret | apply EK.then_ret | apply EK.then_exit))
  rename_i g1
  refine EL.le (Le.pick [0, 3, 1, 2] [_, _, _, _] rfl (by decide) rfl) ?_
  repeat
    (first
     | (apply P_callM (os := [.var gk 144 (.v (.map (some m))), .map m 32 c es]) (hs gk); (iterate 2 exact rfl); exact RefineL.refl _ _; (focus (intro _ _; simp [go_sem]; done)); (iterate 2 exact rfl); rintro _ _ ⟨v, rfl, rfl⟩; rw [hK]; simp only [List.cons_append, List.nil_append])
     | (apply P_move; (iterate 3 exact rfl)) | (apply P_assign; (iterate 3 exact rfl)) | (apply P_mkfunc; (iterate 3 exact rfl)) | apply EL.nil | ((with_reducible apply EK.then_normal); apply EK.code)
     | (with_reducible first | apply EC.seq | apply EC.region | apply EC.skip | apply EC.label | apply EC.block | apply EC.exit | apply EC.ret | apply EK.in_normal | apply EK.in_same | apply EK.in_ret | apply EK.then_ret | apply EK.then_exit))
  refine EL.le (Le.pick [3, 4, 0, 1, 2] [_, _, _, _, _] rfl (by decide) rfl) ?_
  have hd := delete_ly (v := v) (g := g) (m := m) (g1 := g1) K1 K2 hne1 hne2 (by omega)
  repeat
    fail
  refine P_callM (os := [lvO g1 g, tO g m base, lyO v (K1 ++ base :: K2)]) hd rfl rfl (RefineL.refl _ _) (by intro _ _; simp [go_sem]) rfl rfl ?_
  rintro _ _ ⟨rfl, rfl⟩
  simp only [List.cons_append, List.nil_append]
  refine EL.le (Le.pick [2, 0, 1, 3, 4] [_, _, _, _, _] rfl (by decide) rfl) ?_
  refine EL.le (Le.freeze (pre := []) rfl) ?_
  refine EL.le (Le.refine (t := 12) (d' := .sl 32 ((K1 ++ K2).map (D.arr 32))) rfl (Rf.fact (by simp) rfl)) ?_
  simp only [List.nil_append]
  repeat
    (first
     | (apply P_assign; (iterate 3 exact rfl)) | apply EL.nil | ((with_reducible apply EK.then_normal); apply EK.code)
     | (with_reducible first | apply EC.seq | apply EC.region | apply EC.skip | apply EC.label | apply EC.block | apply EC.exit | apply EC.ret | apply EK.in_normal | apply EK.in_same | apply EK.in_ret | apply EK.then_ret | apply EK.then_exit))
  exact EK.retM1s [tO g m base, .map m 32 c es] rfl rfl (by (repeat first | exact List.nil_sublist _ | apply List.Sublist.cons_cons | apply List.Sublist.cons)) ⟨rfl, rfl⟩
end
end E
end Go.Proofs.YtdhicdnmgmkpkaaGreat
