/-
  Merged (wip/tools/merge.py): RT5, RT6, SP4, SP5, EPA, SP6, SP7, SN1, SN2, SN3, SK7, SN4, SP8.
  Conditions: none.
-/
import Derived.Test.YtdhicdnmgmkpkaaGreatZN27
import Derived.Test.YtdhicdnmgmkpkaaGreatZN25
import Derived.Test.YtdhicdnmgmkpkaaGreatZN21
import Derived.Test.YtdhicdnmgmkpkaaGreatZN12
import Derived.Test.YtdhicdnmgmkpkaaGreatZN13
import Derived.Test.YtdhicdnmgmkpkaaGreatZN23
/-
  The reference's state at accounts with code and slots: NewState.
  Conditions: none.
-/
namespace Go.Proofs.YtdhicdnmgmkpkaaGreat
set_option linter.unusedVariables false
open Go.RowKit Mono Rlp Wd
namespace E
theorem As.upd_upd (A : As) (a : List UInt8) (x y : Ac) : (A.upd a x).upd a y = A.upd a y := by
  funext b
  unfold As.upd
  split <;> rfl
theorem As.upd_same (A : As) (a : List UInt8) (x : Ac) : (A.upd a x) a = x := if_pos rfl
theorem slots1_upd (A : As) (a : List UInt8) : ∀ (sl : List (List UInt8 × List UInt8)) (y : Ac), slots1 a sl (A.upd a y) = A.upd a {y with sl := sl.foldl (fun f p => fun k => if p.1 = k then p.2 else f k) y.sl}
  | [], y => rfl
  | p :: sl, y => by
    have := slots1_upd A a sl (y.slot p.1 p.2)
    unfold slots1 at this ⊢
    rw [List.foldl_cons, As.upd_same, As.upd_upd, this]
    rfl
theorem of_take (A : As) (x : AcL) : (⟨x.a, true, x.n, x.w, x.cd, x.sl⟩ : ChL).of A = A.upd x.a x.take := by
  unfold ChL.of ChL.base
  dsimp only
  rw [if_pos rfl]
  simp only [As.upd_upd, As.upd_same]
  rw [slots1_upd]
  rfl
theorem RSt.mono {g N M : Nat} {A : As} {os : List Obj} (h : RSt g A N os) (hm : N ≤ M) : RSt g A M os := by
  obtain ⟨L, k, n, l, rfl, hR, hl⟩ := h
  exact ⟨L, k, n, l, rfl, ⟨fun x hx => (hR.bd x hx).mono hm, hR.ord, hR.mem, hR.out⟩, Nat.le_trans hl hm⟩
theorem RSt.nil (g : Nat) (L k : Value) (n : Int) : RSt g (newA []) 0 [rsO g L k n, .row L 74 55 []] := ⟨L, k, n, [], rfl, ⟨fun x hx => by simp at hx, .nil, fun x hx => by simp at hx, fun a _ => rfl⟩, Nat.le_refl _⟩
set_option maxRecDepth 20000 in
set_option maxHeartbeats 16000000 in
theorem rnew (l : List AcL) (hll : l.length ≤ 100) (hB : ∀ x ∈ l, x.sl.length ≤ 1000 ∧ x.cd.length ≤ 140737488355328) : FnM 14 [.sl 55 (l.map dAcL)] [] (fun r os' => ∃ g, r = .val (.v (ptr g)) ∧ RSt g (newA l) (l.length * 1005) os') := by
  have hml : (l.map dAcL).length = l.length := List.length_map _
  refine FnM.walk 93 Tryz.func14 rfl Tryz.ntmps14 (by simp) fun X => ?_
  repeat
    (first
     | (apply P_assign; (iterate 3 exact rfl)) | (apply P_build; (iterate 7 exact rfl)) | (apply P_box; exact rfl; exact rfl; exact rfl; intro _) | apply EL.nil
     | ((with_reducible apply EK.then_normal); apply EK.code)
     | (with_reducible first | apply EC.seq | apply EC.region | apply EC.skip | apply EC.label | apply EC.block | apply EC.exit | apply EC.ret | apply EK.in_normal | apply EK.in_same | apply EK.in_ret | apply EK.then_ret | apply EK.then_exit))
  rename_i g
  refine EC.le (Le.row 74 55) ?_
  refine EC.le (Le.pick [1, 0] [_, _] rfl (by decide) rfl) ?_
  refine EC.loop (ι := {x : Nat × List Obj // x.1 ≤ l.length ∧ RSt g (newA (l.take x.1)) (x.1 * 1005) x.2})
    (fun x => ⟨[(4, .val (.v (.int .i64 (x.1.1 : Int)))), (3, .val (.v (ptr g))), (0, .val (.sl 55 (l.map dAcL)))], x.1.2, []⟩)
    (fun x => l.length - x.1.1) ⟨(0, _), Nat.zero_le _, RSt.nil g nilS nilS 0⟩ ?_ ?_
  · exact (Le.keep (by repeat first | exact trivial | refine ⟨rfl, ?_⟩) (by repeat first | exact List.Sublist.refl _ | apply List.Sublist.cons_cons | apply List.Sublist.cons) (by simp))
  rintro ⟨⟨i, os1⟩, hil, h0⟩
  dsimp only at hil h0 ⊢
  by_cases hlt : i < l.length
  · have hd : (l.map dAcL)[i]? = some (dAcL l[i]) := by rw [List.getElem?_map, List.getElem?_eq_getElem hlt]; rfl
    have hBi := hB l[i] (List.getElem_mem hlt)
    have htk : newA (l.take (i + 1)) = (⟨l[i].a, true, l[i].n, l[i].w, l[i].cd, l[i].sl⟩ : ChL).of (newA (l.take i)) := by rw [List.take_succ_eq_append_getElem hlt, newA_snoc, of_take]
    generalize l[i] = x at hd hBi htk
    obtain ⟨xa, xn, xw, xc, xs⟩ := x
    unfold dAcL at hd
    dsimp only at hd hBi htk
    have hmx : (xs.map dSlL).length = xs.length := List.length_map _
    repeat
      (first
       | (apply P_callT (rs_kill h0 (a := xa) (by omega)) [] rfl rfl (RefineL.refl _ _) (by intro _ _; simp [go_sem]) rfl rfl; rintro _ os2 ⟨rfl, h1⟩; simp only [List.nil_append])
       | (apply P_move; (iterate 3 exact rfl)) | (apply P_fieldpd; (iterate 7 exact rfl)) | (apply P_loadpd; (iterate 5 exact rfl))
       | (apply P_cmp (b := true); (iterate 2 exact rfl); (focus (first | (simp [cmpI]; done) | (simp [cmpI]; omega))); (iterate 2 exact rfl)) | (apply P_lensl; (iterate 4 exact rfl))
       | (apply P_index; (iterate 4 exact rfl); (focus (first | exact ⟨by decide, rfl⟩ | (refine ⟨by omega, ?_⟩; rw [Int.toNat_natCast]; assumption))); (iterate 2 exact rfl)) | apply EL.nil
       | ((with_reducible apply EK.then_normal); apply EK.code) | (apply EC.cond_true; exact rfl)
       | (with_reducible first | apply EC.seq | apply EC.region | apply EC.skip | apply EC.label | apply EC.block | apply EC.exit | apply EC.ret | apply EK.in_normal | apply EK.in_same | apply EK.in_ret | apply EK.then_ret | apply EK.then_exit))
    refine EC.drawC 12 [0, 1, 2, 3, 4, 5, 6, 7, 8, 9, 10] [11] os2 _ (by kernel_rfl) (by kernel_rfl) (List.append_nil _).symm ?_
    simp only [pickL, List.filterMap_cons, List.filterMap_nil, List.getElem?_cons_zero, List.getElem?_cons_succ]
    repeat
      (first
       | (apply H_move; (iterate 3 exact rfl)) | (apply H_fieldpd; (iterate 7 exact rfl)) | (apply H_loadpd; (iterate 5 exact rfl))
       | (apply H_index; (iterate 4 exact rfl); (focus (first | exact ⟨by decide, rfl⟩ | (refine ⟨by omega, ?_⟩; rw [Int.toNat_natCast]; assumption))); (iterate 2 exact rfl)))
    refine EM.nil ?_
    repeat (first | rw [List.cons_append] | rw [List.nil_append])
    refine CH.callM (rest := []) (rs_setNonce h1 (a := xa) (by omega) xn) rfl rfl (RefineL.refl _ _) (by intro _ _; simp [go_sem]) rfl rfl ?_
    rintro _ os3 ⟨rfl, h2⟩
    simp only [St.put, List.append_nil]
    refine CH.nil ?_
    try simp only [List.drop_succ_cons, List.drop_zero]
    repeat
      (first
       | apply EL.nil | ((with_reducible apply EK.then_normal); apply EK.code)
       | (with_reducible first | apply EC.seq | apply EC.region | apply EC.skip | apply EC.label | apply EC.block | apply EC.exit | apply EC.ret | apply EK.in_normal | apply EK.in_same | apply EK.in_ret | apply EK.then_ret | apply EK.then_exit))
    refine EC.drawC 12 [0, 1, 2, 3, 4, 5, 6, 7, 8, 9, 10] [11] os3 _ (by kernel_rfl) (by kernel_rfl) (List.append_nil _).symm ?_
    simp only [pickL, List.filterMap_cons, List.filterMap_nil, List.getElem?_cons_zero, List.getElem?_cons_succ]
    repeat
      (first
       | (apply H_move; (iterate 3 exact rfl)) | (apply H_fieldpd; (iterate 7 exact rfl)) | (apply H_loadpd; (iterate 5 exact rfl))
       | (apply H_index; (iterate 4 exact rfl); (focus (first | exact ⟨by decide, rfl⟩ | (refine ⟨by omega, ?_⟩; rw [Int.toNat_natCast]; assumption))); (iterate 2 exact rfl)))
    refine EM.nil ?_
    repeat (first | rw [List.cons_append] | rw [List.nil_append])
    refine CH.callM (rest := []) (rs_setBalance h2 (a := xa) (by omega) xw) rfl rfl (RefineL.refl _ _) (by intro _ _; simp [go_sem]) rfl rfl ?_
    rintro _ os4 ⟨rfl, h3⟩
    simp only [St.put, List.append_nil]
    refine CH.nil ?_
    try simp only [List.drop_succ_cons, List.drop_zero]
    repeat
      (first
       | apply EL.nil | ((with_reducible apply EK.then_normal); apply EK.code)
       | (with_reducible first | apply EC.seq | apply EC.region | apply EC.skip | apply EC.label | apply EC.block | apply EC.exit | apply EC.ret | apply EK.in_normal | apply EK.in_same | apply EK.in_ret | apply EK.then_ret | apply EK.then_exit))
    refine EC.drawC 12 [0, 1, 2, 3, 4, 5, 6, 7, 8, 9, 10] [11] os4 _ (by kernel_rfl) (by kernel_rfl) (List.append_nil _).symm ?_
    simp only [pickL, List.filterMap_cons, List.filterMap_nil, List.getElem?_cons_zero, List.getElem?_cons_succ]
    repeat
      (first
       | (apply H_move; (iterate 3 exact rfl)) | (apply H_fieldpd; (iterate 7 exact rfl)) | (apply H_loadpd; (iterate 5 exact rfl))
       | (apply H_index; (iterate 4 exact rfl); (focus (first | exact ⟨by decide, rfl⟩ | (refine ⟨by omega, ?_⟩; rw [Int.toNat_natCast]; assumption))); (iterate 2 exact rfl)))
    refine EM.nil ?_
    repeat (first | rw [List.cons_append] | rw [List.nil_append])
    refine CH.callM (rest := []) (rs_setCode h3 (a := xa) (by omega) xc hBi.2) rfl rfl (RefineL.refl _ _) (by intro _ _; simp [go_sem]) rfl rfl ?_
    rintro _ os5 ⟨rfl, h4⟩
    simp only [St.put, List.append_nil]
    refine CH.nil ?_
    try simp only [List.drop_succ_cons, List.drop_zero]
    repeat
      (first
       | (apply P_assign; (iterate 3 exact rfl)) | apply EL.nil | ((with_reducible apply EK.then_normal); apply EK.code)
       | (with_reducible first | apply EC.seq | apply EC.region | apply EC.skip | apply EC.label | apply EC.block | apply EC.exit | apply EC.ret | apply EK.in_normal | apply EK.in_same | apply EK.in_ret | apply EK.then_ret | apply EK.then_exit))
    have h5 : RSt g (ChL.base ⟨xa, true, xn, xw, xc, xs⟩ (newA (l.take i))) (i * 1005 + 5) os5 := RSt.mono h4 (by omega)
    clear h1 h2 h3 h4
    refine EC.loop (ι := {x : Nat × List Obj // x.1 ≤ xs.length ∧ RSt g (slots1 xa (xs.take x.1) (ChL.base ⟨xa, true, xn, xw, xc, xs⟩ (newA (l.take i)))) (i * 1005 + 5 + x.1) x.2})
      (fun x => ⟨[(5, .val (.v (.int .i64 (x.1.1 : Int)))), (4, .val (.v (.int .i64 (i : Int)))), (3, .val (.v (ptr g))), (0, .val (.sl 55 (l.map dAcL)))], x.1.2, []⟩)
      (fun x => xs.length - x.1.1) ⟨(0, os5), Nat.zero_le _, h5⟩ ?_ ?_
    · exact (Le.keep (by repeat first | exact trivial | refine ⟨rfl, ?_⟩) (by repeat first | exact List.Sublist.refl _ | apply List.Sublist.cons_cons | apply List.Sublist.cons) (by simp))
    rintro ⟨⟨j, os6⟩, hjl, h6⟩
    dsimp only at hjl h6 ⊢
    by_cases hlj : j < xs.length
    · have hd2 : (xs.map dSlL)[j]? = some (dSlL xs[j]) := by rw [List.getElem?_map, List.getElem?_eq_getElem hlj]; rfl
      have htk2 : xs.take (j + 1) = xs.take j ++ [xs[j]] := List.take_succ_eq_append_getElem hlj
      generalize xs[j] = y at hd2 htk2
      obtain ⟨q, v⟩ := y
      unfold dSlL at hd2
      dsimp only at hd2
      repeat
        (first
         | (apply P_move; (iterate 3 exact rfl)) | (apply P_fieldpd; (iterate 7 exact rfl)) | (apply P_loadpd; (iterate 5 exact rfl))
         | (apply P_cmp (b := true); (iterate 2 exact rfl); (focus (first | (simp [cmpI]; done) | (simp [cmpI]; omega))); (iterate 2 exact rfl)) | (apply P_lensl; (iterate 4 exact rfl))
         | (apply P_index; (iterate 4 exact rfl); (focus (first | exact ⟨by decide, rfl⟩ | (refine ⟨by omega, ?_⟩; rw [Int.toNat_natCast]; assumption))); (iterate 2 exact rfl)) | apply EL.nil
         | ((with_reducible apply EK.then_normal); apply EK.code) | (apply EC.cond_true; exact rfl)
         | (with_reducible first | apply EC.seq | apply EC.region | apply EC.skip | apply EC.label | apply EC.block | apply EC.exit | apply EC.ret | apply EK.in_normal | apply EK.in_same | apply EK.in_ret | apply EK.then_ret | apply EK.then_exit))
      refine EC.drawC 25 [0, 1, 2, 3, 4, 5, 6, 7, 8, 9, 10, 11, 12, 13, 14, 15, 16, 17, 18, 19, 20, 21, 22, 23] [24] os6 _ (by kernel_rfl) (by kernel_rfl) (List.append_nil _).symm ?_
      simp only [pickL, List.filterMap_cons, List.filterMap_nil, List.getElem?_cons_zero, List.getElem?_cons_succ]
      repeat
        (first
         | (apply H_move; (iterate 3 exact rfl)) | (apply H_fieldpd; (iterate 7 exact rfl)) | (apply H_loadpd; (iterate 5 exact rfl))
         | (apply H_index; (iterate 4 exact rfl); (focus (first | exact ⟨by decide, rfl⟩ | (refine ⟨by omega, ?_⟩; rw [Int.toNat_natCast]; assumption))); (iterate 2 exact rfl)))
      refine EM.nil ?_
      repeat (first | rw [List.cons_append] | rw [List.nil_append])
      refine CH.callM (rest := []) (rs_setSlot h6 (a := xa) (by omega) q v) rfl rfl (RefineL.refl _ _) (by intro _ _; simp [go_sem]) rfl rfl ?_
      rintro _ os7 ⟨rfl, h7⟩
      simp only [St.put, List.append_nil]
      refine CH.nil ?_
      try simp only [List.drop_succ_cons, List.drop_zero]
      repeat
        (first
         | (apply P_move; (iterate 3 exact rfl)) | (apply P_assign; (iterate 3 exact rfl)) | (apply P_ar; (iterate 3 exact rfl); (focus omega); (focus omega); (iterate 2 exact rfl)) | apply EL.nil
         | ((with_reducible apply EK.then_normal); apply EK.code)
         | (with_reducible first | apply EC.seq | apply EC.region | apply EC.skip | apply EC.label | apply EC.block | apply EC.exit | apply EC.ret | apply EK.in_normal | apply EK.in_same | apply EK.in_ret | apply EK.then_ret | apply EK.then_exit))
      refine EK.again ⟨(j + 1, os7), hlj, by rw [htk2, slots1_snoc]; exact h7⟩ (by dsimp only; omega) ?_
      simp only [Int.natCast_add]
      exact (Le.keep (by repeat first | exact trivial | refine ⟨rfl, ?_⟩) (by repeat first | exact List.Sublist.refl _ | apply List.Sublist.cons_cons | apply List.Sublist.cons) (by simp))
    · have hjE : j = xs.length := by omega
      subst hjE
      rw [List.take_length] at h6
      repeat
        (first
         | (apply P_move; (iterate 3 exact rfl)) | (apply P_assign; (iterate 3 exact rfl)) | (apply P_fieldpd; (iterate 7 exact rfl)) | (apply P_loadpd; (iterate 5 exact rfl))
         | (apply P_cmp (b := false); (iterate 2 exact rfl); (focus (first | (simp [cmpI]; done) | (simp [cmpI]; omega))); (iterate 2 exact rfl))
         | (apply P_ar; (iterate 3 exact rfl); (focus omega); (focus omega); (iterate 2 exact rfl)) | (apply P_lensl; (iterate 4 exact rfl))
         | (apply P_index; (iterate 4 exact rfl); (focus (first | exact ⟨by decide, rfl⟩ | (refine ⟨by omega, ?_⟩; rw [Int.toNat_natCast]; assumption))); (iterate 2 exact rfl)) | apply EL.nil
         | ((with_reducible apply EK.then_normal); apply EK.code) | (apply EC.cond_false; exact rfl)
         | (with_reducible first | apply EC.seq | apply EC.region | apply EC.skip | apply EC.label | apply EC.block | apply EC.exit | apply EC.ret | apply EK.in_normal | apply EK.in_same | apply EK.in_ret | apply EK.then_ret | apply EK.then_exit))
      refine EK.again ⟨(i + 1, os6), hlt, ?_⟩ (by dsimp only; omega) ?_
      · dsimp only
        rw [htk]
        exact RSt.mono h6 (by omega)
      · simp only [Int.natCast_add]
        exact (Le.keep (by repeat first | exact trivial | refine ⟨rfl, ?_⟩) (by repeat first | exact List.Sublist.refl _ | apply List.Sublist.cons_cons | apply List.Sublist.cons) (by simp))
  · have hiE : i = l.length := by omega
    subst hiE
    rw [List.take_length] at h0
    repeat
      (first
       | (apply P_move; (iterate 3 exact rfl)) | (apply P_assign; (iterate 3 exact rfl))
       | (apply P_cmp (b := false); (iterate 2 exact rfl); (focus (first | (simp [cmpI]; done) | (simp [cmpI]; omega))); (iterate 2 exact rfl)) | (apply P_lensl; (iterate 4 exact rfl)) | apply EL.nil
       | ((with_reducible apply EK.then_normal); apply EK.code) | (apply EC.cond_false; exact rfl)
       | (with_reducible first | apply EC.seq | apply EC.region | apply EC.skip | apply EC.label | apply EC.block | apply EC.exit | apply EC.ret | apply EK.in_normal | apply EK.in_same | apply EK.in_ret | apply EK.then_ret | apply EK.then_exit))
    exact EK.retM1s os1 rfl rfl (by (repeat first | exact List.Sublist.refl _ | apply List.Sublist.cons_cons | apply List.Sublist.cons)) ⟨g, rfl, h0⟩
end E
end Go.Proofs.YtdhicdnmgmkpkaaGreat
/-
  The reference's state at accounts with code and slots: IsEmpty, copied, Accounts.
  Conditions: none.
-/
namespace Go.Proofs.YtdhicdnmgmkpkaaGreat
set_option linter.unusedVariables false
open Go.RowKit Mono Rlp Wd
namespace E
theorem FnM.frz {f : FuncId} {ds : List D} {os : List Obj} {Φ : R → List Obj → Prop} (e z : Nat) (h : FnM f ds os (fun r os' => ∃ v ds' rest, r = .val (.v v) ∧ os' = .row v e z ds' :: rest ∧ Φ (.val (.sl z ds')) rest)) : FnM f ds os Φ := ⟨fun ok w xs h1 h2 h3 => (h.go ok w xs h1 h2 h3).mono fun en w' ⟨u, r, os', e1, ⟨v, ds', rest, e2, e3, hΦ⟩, ht, hv⟩ => by
  subst e2 e3
  obtain rfl := (readV_v.1 hv).2
  have hk : ∀ b, okM ok os w (.row u e z ds' :: rest) w' b → okM ok os w rest w' b := fun b hb => ⟨hb.1, hb.2.1, fun o ho => hb.2.2 o (List.mem_cons_of_mem _ ho)⟩
  obtain ⟨rows, ⟨g1, hmine⟩, g2⟩ := ht.at_ (.row u e z ds') List.mem_cons_self
  have hap := List.pairwise_cons.1 ht.apart
  refine ⟨u, .val (.sl z ds'), rest, e1, hΦ, ⟨ht.gr, hap.2, fun o ho => (ht.at_ o (List.mem_cons_of_mem _ ho)).move hk (fun _ _ => rfl) fun _ _ => rfl⟩, ?_⟩
  obtain ⟨A, c, rfl, hc1, hc2⟩ := own_form g1
  refine (readV_one rfl).2 ?_
  rw [Reads]
  refine ⟨A, c, rows, rfl, hc1, hc2, fun e => by subst e; exact own_none g1, fun hn => ?_, ReadsRows.mono hk (fun _ _ => rfl) z ds' rows g2⟩
  obtain ⟨b, o, rfl, hb, hc⟩ := own_RdP g1 hn
  exact ⟨b, o, rfl, ⟨(hmine b rfl).elim (fun h => .inr (.inl h)) (fun h => .inr (.inr h)), hb.2, fun p hp e => hap.1 p hp b rfl e⟩, hc⟩⟩
def AcL.empty (x : AcL) : Bool := decide (x.n = 0) && (x.w == zero32) && x.cd.isEmpty && x.sl.isEmpty
theorem AcL.Is.empty_iff {x : AcL} {y : Ac} (h : x.Is y) : x.empty = true ↔ y = Ac.zero := by
  unfold AcL.empty
  simp only [Bool.and_eq_true, decide_eq_true_eq, beq_iff_eq, List.isEmpty_iff]
  constructor
  · rintro ⟨⟨⟨h1, h2⟩, h3⟩, h4⟩
    have hs : y.sl = fun _ => zero32 := by
      funext k
      refine Classical.byContradiction fun hn => ?_
      obtain ⟨p, hp, _⟩ := h.all k hn
      rw [h4] at hp
      simp at hp
    have e1 := h.n
    have e2 := h.w
    have e3 := h.cd
    cases y
    unfold Ac.zero
    dsimp only at *
    subst hs
    rw [← e1, ← e2, ← e3, h1, h2, h3]
  · rintro rfl
    refine ⟨⟨⟨h.n, h.w⟩, h.cd⟩, List.eq_nil_iff_forall_not_mem.2 fun p hp => ?_⟩
    obtain ⟨h1, h2⟩ := h.val p hp
    exact h2 h1
set_option maxRecDepth 20000 in
set_option maxHeartbeats 8000000 in
theorem f_isEmpty (x : AcL) : Fn 82 [dAcL x] (· = .val (.v (.bool x.empty))) := by
  obtain ⟨xa, n, w, cd, ss⟩ := x
  have hz := (bin_word w zero32).1
  unfold AcL.empty dAcL
  dsimp only
  refine Fn.walk 24 Tryz.func82 rfl Tryz.ntmps82 (by simp) fun X => ?_
  by_cases h1 : n = 0
  · by_cases h2 : (w == zero32) = true
    · rw [h2] at hz
      by_cases h3 : cd = []
      · by_cases h4 : ss = []
        · subst h3
          subst h4
          rw [h2]
          subst h1
          repeat
            (first
             | (apply P_bin; (iterate 2 exact rfl); exact hz; (iterate 2 exact rfl)) | (apply P_move; (iterate 3 exact rfl)) | (apply P_assign; (iterate 3 exact rfl)) | (apply P_field; (iterate 6 exact rfl))
             | (apply P_pick; (iterate 4 exact rfl)) | (apply P_load; exact rfl; (first | exact I0 | exact I1 | exact I2 | exact I3 | exact I4 | exact I5 | exact I6); (iterate 4 exact rfl))
             | (apply P_cmp (b := true); (iterate 2 exact rfl); (focus (first | (simp [cmpI]; done) | (simp [cmpI]; omega))); (iterate 2 exact rfl)) | (apply P_lenbs; (iterate 4 exact rfl))
             | (apply P_lensl; (iterate 4 exact rfl)) | (apply P_build0; (iterate 5 exact rfl)) | (apply P_box; exact rfl; exact rfl; exact rfl; intro _) | apply EL.nil
             | ((with_reducible apply EK.then_normal); apply EK.code)
             | (with_reducible first | apply EC.seq | apply EC.region | apply EC.skip | apply EC.label | apply EC.block | apply EC.exit | apply EC.ret | apply EK.in_normal | apply EK.in_same | apply EK.in_ret | apply EK.then_ret | apply EK.then_exit))
          exact EK.ret1 rfl rfl rfl
        · subst h3
          have h5 : ss.isEmpty = false := by cases ss with | nil => exact absurd rfl h4 | cons _ _ => rfl
          have h6 : (ss.map dSlL).length ≠ 0 := by cases ss with | nil => exact absurd rfl h4 | cons _ _ => simp
          rw [h2, h5]
          subst h1
          repeat
            (first
             | (apply P_bin; (iterate 2 exact rfl); exact hz; (iterate 2 exact rfl)) | (apply P_move; (iterate 3 exact rfl)) | (apply P_assign; (iterate 3 exact rfl)) | (apply P_field; (iterate 6 exact rfl))
             | (apply P_pick; (iterate 4 exact rfl)) | (apply P_load; exact rfl; (first | exact I0 | exact I1 | exact I2 | exact I3 | exact I4 | exact I5 | exact I6); (iterate 4 exact rfl))
             | (apply P_cmp (b := true); (iterate 2 exact rfl); (focus (first | (simp [cmpI]; done) | (simp [cmpI]; omega))); (iterate 2 exact rfl))
             | (apply P_cmp (b := false); (iterate 2 exact rfl); (focus (first | (simp [cmpI]; done) | (simp [cmpI]; omega))); (iterate 2 exact rfl)) | (apply P_lenbs; (iterate 4 exact rfl))
             | (apply P_lensl; (iterate 4 exact rfl)) | (apply P_build0; (iterate 5 exact rfl)) | (apply P_box; exact rfl; exact rfl; exact rfl; intro _) | apply EL.nil
             | ((with_reducible apply EK.then_normal); apply EK.code)
             | (with_reducible first | apply EC.seq | apply EC.region | apply EC.skip | apply EC.label | apply EC.block | apply EC.exit | apply EC.ret | apply EK.in_normal | apply EK.in_same | apply EK.in_ret | apply EK.then_ret | apply EK.then_exit))
          exact EK.ret1 rfl rfl rfl
      · have h5 : cd.isEmpty = false := by cases cd with | nil => exact absurd rfl h3 | cons _ _ => rfl
        rw [h2, h5]
        subst h1
        repeat
          (first
           | (apply P_skip; (iterate 2 exact rfl)) | (apply P_bin; (iterate 2 exact rfl); exact hz; (iterate 2 exact rfl)) | (apply P_move; (iterate 3 exact rfl)) | (apply P_assign; (iterate 3 exact rfl))
           | (apply P_field; (iterate 6 exact rfl)) | (apply P_pick; (iterate 4 exact rfl))
           | (apply P_load; exact rfl; (first | exact I0 | exact I1 | exact I2 | exact I3 | exact I4 | exact I5 | exact I6); (iterate 4 exact rfl))
           | (apply P_cmp (b := true); (iterate 2 exact rfl); (focus (first | (simp [cmpI]; done) | (simp [cmpI]; omega))); (iterate 2 exact rfl))
           | (apply P_cmp (b := false); (iterate 2 exact rfl); (focus (first | (simp [cmpI]; done) | (simp [cmpI]; omega))); (iterate 2 exact rfl)) | (apply P_lenbs; (iterate 4 exact rfl))
           | (apply P_build0; (iterate 5 exact rfl)) | (apply P_box; exact rfl; exact rfl; exact rfl; intro _) | apply EL.nil | ((with_reducible apply EK.then_normal); apply EK.code)
           | (with_reducible first | apply EC.seq | apply EC.region | apply EC.skip | apply EC.label | apply EC.block | apply EC.exit | apply EC.ret | apply EK.in_normal | apply EK.in_same | apply EK.in_ret | apply EK.then_ret | apply EK.then_exit))
        exact EK.ret1 rfl rfl rfl
    · have h2 : (w == zero32) = false := by simpa using h2
      rw [h2] at hz ⊢
      subst h1
      repeat
        (first
         | (apply P_skip; (iterate 2 exact rfl)) | (apply P_bin; (iterate 2 exact rfl); exact hz; (iterate 2 exact rfl)) | (apply P_move; (iterate 3 exact rfl)) | (apply P_assign; (iterate 3 exact rfl))
         | (apply P_field; (iterate 6 exact rfl)) | (apply P_pick; (iterate 4 exact rfl))
         | (apply P_load; exact rfl; (first | exact I0 | exact I1 | exact I2 | exact I3 | exact I4 | exact I5 | exact I6); (iterate 4 exact rfl))
         | (apply P_cmp (b := true); (iterate 2 exact rfl); (focus (first | (simp [cmpI]; done) | (simp [cmpI]; omega))); (iterate 2 exact rfl)) | (apply P_build0; (iterate 5 exact rfl))
         | (apply P_box; exact rfl; exact rfl; exact rfl; intro _) | apply EL.nil | ((with_reducible apply EK.then_normal); apply EK.code)
         | (with_reducible first | apply EC.seq | apply EC.region | apply EC.skip | apply EC.label | apply EC.block | apply EC.exit | apply EC.ret | apply EK.in_normal | apply EK.in_same | apply EK.in_ret | apply EK.then_ret | apply EK.then_exit))
      exact EK.ret1 rfl rfl rfl
  · have h5 : decide (n = 0) = false := by simp [h1]
    rw [h5]
    repeat
      (first
       | (apply P_skip; (iterate 2 exact rfl)) | (apply P_move; (iterate 3 exact rfl)) | (apply P_assign; (iterate 3 exact rfl)) | (apply P_field; (iterate 6 exact rfl)) | (apply P_pick; (iterate 4 exact rfl))
       | (apply P_load; exact rfl; (first | exact I0 | exact I1 | exact I2 | exact I3 | exact I4 | exact I5 | exact I6); (iterate 4 exact rfl))
       | (apply P_cmp (b := false); (iterate 2 exact rfl); (focus (first | (simp [cmpI]; done) | (simp [cmpI]; omega))); (iterate 2 exact rfl)) | (apply P_box; exact rfl; exact rfl; exact rfl; intro _)
       | apply EL.nil | ((with_reducible apply EK.then_normal); apply EK.code)
       | (with_reducible first | apply EC.seq | apply EC.region | apply EC.skip | apply EC.label | apply EC.block | apply EC.exit | apply EC.ret | apply EK.in_normal | apply EK.in_same | apply EK.in_ret | apply EK.then_ret | apply EK.then_exit))
    exact EK.ret1 rfl rfl rfl
set_option maxRecDepth 20000 in
set_option maxHeartbeats 8000000 in
theorem copied_row (l : List AcL) (hll : l.length ≤ 1000000) (hB : ∀ x ∈ l, x.sl.length ≤ 1000000 ∧ x.cd.length ≤ 140737488355328) : FnM 70 [.sl 55 (l.map dAcL)] [] (fun r os' => ∃ v, r = .val (.v v) ∧ os' = [.row v 74 55 (l.map dAcL)]) := by
  have hml : (l.map dAcL).length = l.length := List.length_map _
  refine FnM.walk 35 Tryz.func70 rfl Tryz.ntmps70 (by simp) fun X => ?_
  repeat
    (first
     | (apply P_assign; (iterate 3 exact rfl)) | apply EL.nil | ((with_reducible apply EK.then_normal); apply EK.code)
     | (with_reducible first | apply EC.seq | apply EC.region | apply EC.skip | apply EC.label | apply EC.block | apply EC.exit | apply EC.ret | apply EK.in_normal | apply EK.in_same | apply EK.in_ret | apply EK.then_ret | apply EK.then_exit))
  refine EC.le (Le.row 74 55) ?_
  refine EC.loop (ι := {x : Nat × Value // x.1 ≤ l.length})
    (fun x => ⟨[(4, .val (.v (.int .i64 (x.1.1 : Int)))), (3, .val (.v x.1.2)), (0, .val (.sl 55 (l.map dAcL)))], [.row x.1.2 74 55 ((l.take x.1.1).map dAcL)], []⟩)
    (fun x => l.length - x.1.1) ⟨(0, nilS), Nat.zero_le _⟩ ?_ ?_
  · exact (Le.keep (by repeat first | exact trivial | refine ⟨rfl, ?_⟩) (by repeat first | exact List.nil_sublist _ | apply List.Sublist.cons_cons | apply List.Sublist.cons) (by simp))
  rintro ⟨⟨i, v⟩, hil⟩
  dsimp only at hil ⊢
  by_cases hlt : i < l.length
  · have hd : (l.map dAcL)[i]? = some (dAcL l[i]) := by rw [List.getElem?_map, List.getElem?_eq_getElem hlt]; rfl
    have hBi := hB l[i] (List.getElem_mem hlt)
    have htk : (l.take (i + 1)).map dAcL = (l.take i).map dAcL ++ [dAcL l[i]] := by rw [List.take_succ_eq_append_getElem hlt, List.map_append]; rfl
    have hlen : ((l.take i).map dAcL).length = i := by rw [List.length_map, List.length_take]; omega
    generalize l[i] = x at hd hBi htk
    obtain ⟨xa, xn, xw, xc, xs⟩ := x
    unfold dAcL at hd
    dsimp only at hd hBi
    have hmx : (xs.map dSlL).length = xs.length := List.length_map _
    have hv := hBi.2
    repeat
      (first
       | (apply P_apnew hv; (iterate 3 exact rfl)) | (apply P_move; (iterate 3 exact rfl)) | (apply P_field; (iterate 6 exact rfl)) | (apply P_fieldpd; (iterate 7 exact rfl))
       | (apply P_loadpd; (iterate 5 exact rfl)) | (apply P_cmp (b := true); (iterate 2 exact rfl); (focus (first | (simp [cmpI]; done) | (simp [cmpI]; omega))); (iterate 2 exact rfl))
       | (apply P_lensl; (iterate 4 exact rfl))
       | (apply P_index; (iterate 4 exact rfl); (focus (first | exact ⟨by decide, rfl⟩ | (refine ⟨by omega, ?_⟩; rw [Int.toNat_natCast]; assumption))); (iterate 2 exact rfl))
       | (apply P_alloc; exact rfl; exact rfl; exact rfl; intro _) | (apply P_store; exact rfl; (focus (repeat first | exact .z | apply SetAt.s | apply SetAtF.s)); (iterate 4 exact rfl)) | apply EL.nil
       | ((with_reducible apply EK.then_normal); apply EK.code) | (apply EC.cond_true; exact rfl)
       | (with_reducible first | apply EC.seq | apply EC.region | apply EC.skip | apply EC.label | apply EC.block | apply EC.exit | apply EC.ret | apply EK.in_normal | apply EK.in_same | apply EK.in_ret | apply EK.then_ret | apply EK.then_exit))
    refine EL.le (Le.row 103 64) ?_
    repeat
      (first
       | (apply P_move; (iterate 3 exact rfl)) | (apply P_assign; (iterate 3 exact rfl)) | (apply P_field; (iterate 6 exact rfl))
       | (apply P_load; exact rfl; (first | exact I0 | exact I1 | exact I2 | exact I3 | exact I4 | exact I5 | exact I6); (iterate 4 exact rfl))
       | (apply P_ar; (iterate 3 exact rfl); (focus omega); (focus omega); (iterate 2 exact rfl)) | (apply P_lit; (iterate 9 exact rfl))
       | (apply P_store; exact rfl; (focus (repeat first | exact .z | apply SetAt.s | apply SetAtF.s)); (iterate 4 exact rfl))
       | ((apply P_append; exact rfl; (focus (repeat first | exact .z | apply SetAt.s | apply SetAtF.s)); (iterate 5 exact rfl); (focus (constructor <;> (first | (simp; done) | (simp; omega))))); intro _)
       | apply EL.nil | ((with_reducible apply EK.then_normal); apply EK.code)
       | (with_reducible first | apply EC.seq | apply EC.region | apply EC.skip | apply EC.label | apply EC.block | apply EC.exit | apply EC.ret | apply EK.in_normal | apply EK.in_same | apply EK.in_ret | apply EK.then_ret | apply EK.then_exit))
    dsimp only
    refine EK.le (Le.freeze (pre := []) rfl) ?_
    simp only [List.nil_append]
    rename_i sv v'
    refine EK.le (Le.pick [1, 0] [_, _] rfl (by decide) rfl) ?_
    refine EK.le (Le.rowR (ds' := (l.take i).map dAcL ++ [.tup [.arr 20 xa, .v (.int .i64 xn), .arr 32 xw, .bs xc, .sl 64 (xs.map dSlL)]]) (RL.append (RefineL.refl _ _) (RL.cons (Rf.tup (RL.cons Rf.same (RL.cons Rf.same (RL.cons Rf.same (RL.cons Rf.same (RL.cons (Rf.fact List.mem_cons_self rfl) RL.nil)))))) RL.nil))) ?_
    refine EK.again ⟨(i + 1, v'), hlt⟩ (by dsimp only; omega) ?_
    dsimp only
    rw [htk]
    unfold dAcL
    dsimp only
    simp only [Int.natCast_add]
    exact (Le.keep (by repeat first | exact trivial | refine ⟨rfl, ?_⟩) (by repeat first | exact List.nil_sublist _ | apply List.Sublist.cons_cons | apply List.Sublist.cons) (by simp))
  · have hiE : i = l.length := by omega
    subst hiE
    rw [List.take_length]
    repeat
      (first
       | (apply P_move; (iterate 3 exact rfl)) | (apply P_assign; (iterate 3 exact rfl))
       | (apply P_cmp (b := false); (iterate 2 exact rfl); (focus (first | (simp [cmpI]; done) | (simp [cmpI]; omega))); (iterate 2 exact rfl)) | (apply P_lensl; (iterate 4 exact rfl)) | apply EL.nil
       | ((with_reducible apply EK.then_normal); apply EK.code) | (apply EC.cond_false; exact rfl)
       | (with_reducible first | apply EC.seq | apply EC.region | apply EC.skip | apply EC.label | apply EC.block | apply EC.exit | apply EC.ret | apply EK.in_normal | apply EK.in_same | apply EK.in_ret | apply EK.then_ret | apply EK.then_exit))
    exact EK.retM1s [.row v 74 55 (l.map dAcL)] rfl rfl (by (repeat first | exact List.nil_sublist _ | apply List.Sublist.cons_cons | apply List.Sublist.cons)) ⟨v, rfl, rfl⟩
theorem canon_of {A : As} {N : Nat} {l : List AcL} (h : RL A N l) : Canon A (l.filter fun x => !x.empty) := by
  refine ⟨h.ord.filter _, fun x hx => ?_, fun a ha => ?_⟩
  · obtain ⟨h1, h2⟩ := List.mem_filter.1 hx
    refine ⟨h.mem x h1, fun e => ?_⟩
    rw [((h.mem x h1).empty_iff).2 e] at h2
    simp at h2
  · have hm : a ∈ l.map AcL.a := Classical.byContradiction fun hn => ha (h.out a hn)
    obtain ⟨x, hx, rfl⟩ := List.mem_map.1 hm
    refine ⟨x, List.mem_filter.2 ⟨hx, ?_⟩, rfl⟩
    cases he : x.empty with
    | false => rfl
    | true => exact absurd ((h.mem x hx).empty_iff.1 he) ha
set_option maxRecDepth 20000 in
set_option maxHeartbeats 8000000 in
theorem rs_accounts_row {g N : Nat} {A : As} {os : List Obj} (h : RSt g A N os) (hN : N ≤ 1000000) : FnM 22 [.v (ptr g)] os (fun r os' => ∃ L v, Canon A L ∧ L.length ≤ N ∧ r = .val (.v v) ∧ os' = .row v 74 55 (L.map dAcL) :: os) := by
  obtain ⟨L, k, n, l, rfl, hR, hlN⟩ := h
  have hC := canon_of hR
  have hCl : (l.filter fun x => !x.empty).length ≤ N := Nat.le_trans (List.length_filter_le _ _) hlN
  have hcp := copied_row (l.filter fun x => !x.empty) (by omega) fun x hx => by have := hR.bd x (List.mem_filter.1 hx).1; exact ⟨Nat.le_trans this.1 hN, this.2⟩
  have hml : (l.map dAcL).length = l.length := List.length_map _
  refine FnM.walk 35 Tryz.func22 rfl Tryz.ntmps22 (by simp) fun X => ?_
  repeat
    (first
     | (apply P_assign; (iterate 3 exact rfl)) | apply EL.nil | ((with_reducible apply EK.then_normal); apply EK.code)
     | (with_reducible first | apply EC.seq | apply EC.region | apply EC.skip | apply EC.label | apply EC.block | apply EC.exit | apply EC.ret | apply EK.in_normal | apply EK.in_same | apply EK.in_ret | apply EK.then_ret | apply EK.then_exit))
  refine EC.le (Le.row 74 55) ?_
  refine EC.loop (ι := {x : Nat × Value // x.1 ≤ l.length})
    (fun x => ⟨[(4, .val (.v (.int .i64 (x.1.1 : Int)))), (3, .val (.v x.1.2)), (0, .val (.v (ptr g)))], [.row x.1.2 74 55 (((l.take x.1.1).filter fun x => !x.empty).map dAcL), rsO g L k n, raA L l], []⟩)
    (fun x => l.length - x.1.1) ⟨(0, nilS), Nat.zero_le _⟩ ?_ ?_
  · exact (Le.keep (by repeat first | exact trivial | refine ⟨rfl, ?_⟩) (by repeat first | exact List.nil_sublist _ | apply List.Sublist.cons_cons | apply List.Sublist.cons) (by simp))
  rintro ⟨⟨i, v⟩, hil⟩
  dsimp only at hil ⊢
  by_cases hlt : i < l.length
  · have hd : (l.map dAcL)[i]? = some (dAcL l[i]) := by rw [List.getElem?_map, List.getElem?_eq_getElem hlt]; rfl
    have htk : ((l.take (i + 1)).filter fun x => !x.empty) = ((l.take i).filter fun x => !x.empty) ++ ([l[i]].filter fun x => !x.empty) := by rw [List.take_succ_eq_append_getElem hlt, List.filter_append]
    have hlen : ((l.take i).filter fun x => !x.empty).length ≤ i := Nat.le_trans (List.length_filter_le _ _) (by rw [List.length_take]; omega)
    have hem := f_isEmpty l[i]
    generalize l[i] = x at hd htk hem
    generalize ((l.take i).filter fun x => !x.empty) = F at hlen htk ⊢
    have hFl : (F.map dAcL).length = F.length := List.length_map _
    cases he : x.empty with
    | true =>
      rw [he] at hem
      have hfx : ([x].filter fun x => !x.empty) = [] := by simp [he]
      rw [hfx, List.append_nil] at htk
      repeat
        (first
         | (apply P_rowload (k := i) (off := 0) (d := dAcL x); exact rfl; exact I2; exact ⟨by simp, hd⟩; (iterate 4 exact rfl))
         | (apply P_call (hem); exact rfl; (focus (repeat first | exact RefineL.refl _ _ | exact RL.nil | exact Rf.same | exact Rf.bs0 | exact Rf.sl0 | (apply Rf.fact; (focus (simp; done)); exact rfl) | apply Rf.tup | apply RL.cons)); (focus (intro _ _; simp [go_sem]; done)); (iterate 2 exact rfl))
         | (apply P_move; (iterate 3 exact rfl)) | (apply P_assign; (iterate 3 exact rfl)) | (apply P_field; (iterate 6 exact rfl)) | (apply P_not; (iterate 3 exact rfl))
         | (apply P_load; exact rfl; (first | exact I0 | exact I1 | exact I2 | exact I3 | exact I4 | exact I5 | exact I6); (iterate 4 exact rfl))
         | (apply P_cmp (b := true); (iterate 2 exact rfl); (focus (first | (simp [cmpI]; done) | (simp [cmpI]; omega))); (iterate 2 exact rfl))
         | (apply P_ar; (iterate 3 exact rfl); (focus omega); (focus omega); (iterate 2 exact rfl))
         | (apply P_lenrow; exact rfl; (first | exact I0 | exact I1 | exact I2 | exact I3 | exact I4 | exact I5 | exact I6); (iterate 3 exact rfl)) | (apply P_nilck; (iterate 3 exact rfl))
         | (apply P_rowidx; exact rfl; (first | exact I0 | exact I1 | exact I2 | exact I3 | exact I4 | exact I5 | exact I6); (iterate 2 exact rfl); (focus (first | assumption | omega | (constructor <;> (first | (simp; done) | (simp; omega))))); (iterate 2 exact rfl))
         | apply EL.nil | ((with_reducible apply EK.then_normal); apply EK.code) | (apply EC.cond_true; exact rfl) | (apply EC.cond_false; exact rfl)
         | (with_reducible first | apply EC.seq | apply EC.region | apply EC.skip | apply EC.label | apply EC.block | apply EC.exit | apply EC.ret | apply EK.in_normal | apply EK.in_same | apply EK.in_ret | apply EK.then_ret | apply EK.then_exit))
      refine EK.again ⟨(i + 1, v), hlt⟩ (by dsimp only; omega) ?_
      dsimp only
      rw [htk]
      simp only [Int.natCast_add]
      exact (Le.keep (by repeat first | exact trivial | refine ⟨rfl, ?_⟩) (by repeat first | exact List.nil_sublist _ | apply List.Sublist.cons_cons | apply List.Sublist.cons) (by simp))
    | false =>
      rw [he] at hem
      have hfx : ([x].filter fun x => !x.empty) = [x] := by simp [he]
      rw [hfx] at htk
      repeat
        (first
         | (apply P_rowload (k := i) (off := 0) (d := dAcL x); exact rfl; exact I2; exact ⟨by simp, hd⟩; (iterate 4 exact rfl))
         | (apply P_call (hem); exact rfl; (focus (repeat first | exact RefineL.refl _ _ | exact RL.nil | exact Rf.same | exact Rf.bs0 | exact Rf.sl0 | (apply Rf.fact; (focus (simp; done)); exact rfl) | apply Rf.tup | apply RL.cons)); (focus (intro _ _; simp [go_sem]; done)); (iterate 2 exact rfl))
         | (apply P_move; (iterate 3 exact rfl)) | (apply P_assign; (iterate 3 exact rfl)) | (apply P_field; (iterate 6 exact rfl)) | (apply P_not; (iterate 3 exact rfl))
         | (apply P_load; exact rfl; (first | exact I0 | exact I1 | exact I2 | exact I3 | exact I4 | exact I5 | exact I6); (iterate 4 exact rfl))
         | (apply P_cmp (b := true); (iterate 2 exact rfl); (focus (first | (simp [cmpI]; done) | (simp [cmpI]; omega))); (iterate 2 exact rfl))
         | (apply P_ar; (iterate 3 exact rfl); (focus omega); (focus omega); (iterate 2 exact rfl))
         | (apply P_lenrow; exact rfl; (first | exact I0 | exact I1 | exact I2 | exact I3 | exact I4 | exact I5 | exact I6); (iterate 3 exact rfl)) | (apply P_lit; (iterate 9 exact rfl))
         | (apply P_nilck; (iterate 3 exact rfl))
         | (apply P_rowidx; exact rfl; (first | exact I0 | exact I1 | exact I2 | exact I3 | exact I4 | exact I5 | exact I6); (iterate 2 exact rfl); (focus (first | assumption | omega | (constructor <;> (first | (simp; done) | (simp; omega))))); (iterate 2 exact rfl))
         | ((apply P_append; exact rfl; (focus (repeat first | exact .z | apply SetAt.s | apply SetAtF.s)); (iterate 5 exact rfl); (focus (constructor <;> (first | (simp; done) | (simp; omega))))); intro _)
         | apply EL.nil | ((with_reducible apply EK.then_normal); apply EK.code) | (apply EC.cond_true; exact rfl)
         | (with_reducible first | apply EC.seq | apply EC.region | apply EC.skip | apply EC.label | apply EC.block | apply EC.exit | apply EC.ret | apply EK.in_normal | apply EK.in_same | apply EK.in_ret | apply EK.then_ret | apply EK.then_exit))
      rename_i v'
      refine EK.again ⟨(i + 1, v'), hlt⟩ (by dsimp only; omega) ?_
      dsimp only
      rw [htk, List.map_append]
      simp only [Int.natCast_add]
      exact (Le.keep (by repeat first | exact trivial | refine ⟨rfl, ?_⟩) (by repeat first | exact List.nil_sublist _ | apply List.Sublist.cons_cons | apply List.Sublist.cons) (by simp))
  · have hiE : i = l.length := by omega
    subst hiE
    rw [List.take_length]
    refine EC.le (Le.freeze (pre := []) rfl) ?_
    refine EC.le (Le.refine (t := 3) rfl (Rf.fact List.mem_cons_self rfl)) ?_
    repeat
      (first
       | (apply P_callM (os := []) hcp; (iterate 2 exact rfl); exact RefineL.refl _ _; (focus (intro _ _; simp [go_sem]; done)); (iterate 2 exact rfl); rintro _ _ ⟨v2, rfl, rfl⟩; simp only [List.cons_append, List.nil_append])
       | (apply P_move; (iterate 3 exact rfl)) | (apply P_assign; (iterate 3 exact rfl)) | (apply P_field; (iterate 6 exact rfl))
       | (apply P_load; exact rfl; (first | exact I0 | exact I1 | exact I2 | exact I3 | exact I4 | exact I5 | exact I6); (iterate 4 exact rfl))
       | (apply P_cmp (b := false); (iterate 2 exact rfl); (focus (first | (simp [cmpI]; done) | (simp [cmpI]; omega))); (iterate 2 exact rfl))
       | (apply P_lenrow; exact rfl; (first | exact I0 | exact I1 | exact I2 | exact I3 | exact I4 | exact I5 | exact I6); (iterate 3 exact rfl)) | (apply P_nilck; (iterate 3 exact rfl)) | apply EL.nil
       | ((with_reducible apply EK.then_normal); apply EK.code) | (apply EC.cond_false; exact rfl)
       | (with_reducible first | apply EC.seq | apply EC.region | apply EC.skip | apply EC.label | apply EC.block | apply EC.exit | apply EC.ret | apply EK.in_normal | apply EK.in_same | apply EK.in_ret | apply EK.then_ret | apply EK.then_exit))
    exact EK.retM1s (.row _ 74 55 ((l.filter fun x => !x.empty).map dAcL) :: [rsO g L k n, raA L l]) rfl rfl (by (repeat first | exact List.nil_sublist _ | apply List.Sublist.cons_cons | apply List.Sublist.cons)) ⟨_, _, hC, hCl, rfl, rfl⟩
theorem rs_accounts {g N : Nat} {A : As} {os : List Obj} (h : RSt g A N os) (hN : N ≤ 1000000) : FnM 22 [.v (ptr g)] os (fun r os' => (∃ L, Canon A L ∧ L.length ≤ N ∧ r = .val (.sl 55 (L.map dAcL))) ∧ os' = os) :=
  FnM.frz 74 55 ((rs_accounts_row h hN).mono fun r os' ⟨L, v, h1, h2, h3, h4⟩ => ⟨v, _, os, h3, h4, ⟨L, h1, h2, rfl⟩, rfl⟩)
end E
end Go.Proofs.YtdhicdnmgmkpkaaGreat
/-
  The program's acct: Copy, Find, Empty; snap's same.
  Conditions: none.
-/
namespace Go.Proofs.YtdhicdnmgmkpkaaGreat
set_option linter.unusedVariables false
open Go.RowKit Mono Rlp Wd Go.Sort
namespace E
def AcL.same (x y : AcL) : Bool := decide (x.n = y.n) && (x.w == y.w) && (x.cd == y.cd)
end E
end Go.Proofs.YtdhicdnmgmkpkaaGreat
/-
  The program's acct.Find.
  Conditions: none.
-/
namespace Go.Proofs.YtdhicdnmgmkpkaaGreat
set_option linter.unusedVariables false
open Go.RowKit Mono Rlp Wd Go.Sort
namespace E
structure Srk {α : Type} (key : α → List UInt8) (L : List α) (a : List UInt8) (i j : Nat) : Prop where
  ij : i ≤ j
  le : j ≤ L.length
  lo : ∀ q (h : q < L.length), q < i → key L[q] < a
  hi : ∀ q (h : q < L.length), j ≤ q → ¬ key L[q] < a
theorem Srk.none {α : Type} {key : α → List UInt8} {L : List α} {a : List UInt8} {k : Nat} (hs : Srk key L a k k) (ho : L.Pairwise fun x y => key x < key y) (h : ∀ hk : k < L.length, key L[k] ≠ a) : ∀ x ∈ L, key x ≠ a := fun x hx e => by
  obtain ⟨q, hq, rfl⟩ := List.getElem_of_mem hx
  rcases Nat.lt_trichotomy q k with hqk | rfl | hqk
  · have := hs.lo q hq hqk
    rw [e] at this
    exact List.lt_irrefl _ this
  · exact h hq e
  · have h1 := List.pairwise_iff_getElem.1 ho k q (by omega) hq hqk
    rw [e] at h1
    exact hs.hi k (by omega) (Nat.le_refl _) h1
theorem none_is (a : List UInt8) : (AcL.none a).Is Ac.zero := ⟨rfl, rfl, rfl, .nil, fun p hp => by simp [AcL.none] at hp, fun k hk => absurd rfl hk⟩
end E
end Go.Proofs.YtdhicdnmgmkpkaaGreat
/-
  The abstract machine: indexes into a row's end, its length; cap; lengths of keys in a row; what makes memory alone.
  Conditions: none.
-/
namespace Go.Proofs.YtdhicdnmgmkpkaaGreat
set_option linter.unusedVariables false
open Go.RowKit Mono Rlp
namespace E
theorem FnM.fn {f : FuncId} {ds : List D} {Φ : R → Prop} (h : FnM f ds [] (fun r os' => Φ r ∧ os' = [])) : Fn f ds Φ := ⟨fun ok w xs hok hr => by
  refine (h.go ok w xs hok ⟨fun o ho => by simp at ho, .nil, fun b ⟨o, ho, _⟩ => by simp at ho⟩ hr).mono ?_
  rintro e w' ⟨v, r, os', rfl, ⟨hΦ, rfl⟩, ht, hv⟩
  refine ⟨ht.gr.gr fun b ⟨o, ho, _⟩ => by simp at ho, v, r, rfl, hΦ, hv.mono (fun b hb => ⟨?_, hb.2.1⟩) fun _ _ => rfl⟩
  rcases hb.1 with h | ⟨o, ho, _⟩ | h
  · exact .inl h
  · simp at ho
  · exact .inr h⟩
end E
end Go.Proofs.YtdhicdnmgmkpkaaGreat
/-
  slices.Grow, Concat of accounts; slices.Compact of addresses.
  Conditions: none.
-/
namespace Go.Proofs.YtdhicdnmgmkpkaaGreat
set_option linter.unusedVariables false
open Go.RowKit Mono Rlp Wd Go.Sort
namespace E
end E
end Go.Proofs.YtdhicdnmgmkpkaaGreat
/-
  slices.Compact of addresses.
  Conditions: none.
-/
namespace Go.Proofs.YtdhicdnmgmkpkaaGreat
set_option linter.unusedVariables false
open Go.RowKit Mono Rlp Wd Go.Sort
namespace E
def ddF (l : List (List UInt8)) : List (List UInt8) := l.foldl (fun acc x => if acc.getLast? = some x then acc else acc ++ [x]) []
theorem ddF_snoc' (l : List (List UInt8)) (x : List UInt8) : ddF (l ++ [x]) = if (ddF l).getLast? = some x then ddF l else ddF l ++ [x] := by unfold ddF; rw [List.foldl_append]; rfl
theorem snoc_ind {P : List (List UInt8) → Prop} (h0 : P []) (h1 : ∀ l x, P l → P (l ++ [x])) (l : List (List UInt8)) : P l := by
  have h : ∀ n, ∀ l : List (List UInt8), l.length = n → P l := fun n => by
    induction n with
    | zero =>
      intro l hl
      rw [List.eq_nil_of_length_eq_zero hl]
      exact h0
    | succ n ih =>
      intro l hl
      have hne : l ≠ [] := fun e => by rw [e] at hl; cases hl
      rw [← List.dropLast_concat_getLast hne]
      exact h1 _ _ (ih _ (by rw [List.length_dropLast, hl]; rfl))
  exact h _ l rfl
theorem ddF_last (l : List (List UInt8)) : (ddF l).getLast? = l.getLast? := by
  refine snoc_ind (P := fun l => (ddF l).getLast? = l.getLast?) rfl (fun l x ih => ?_) l
  rw [ddF_snoc']
  split
  · rename_i h
    rw [h, List.getLast?_append]
    rfl
  · simp
theorem ddF_snoc (l : List (List UInt8)) (x : List UInt8) : ddF (l ++ [x]) = if l.getLast? = some x then ddF l else ddF l ++ [x] := by rw [ddF_snoc', ddF_last]
theorem take_last (K : List (List UInt8)) {k : Nat} (h0 : 0 < k) (hk : k ≤ K.length) : (K.take k).getLast? = some K[k - 1] := by
  rw [List.getLast?_eq_getElem?, List.length_take, Nat.min_eq_left hk, List.getElem?_take_of_lt (by omega), List.getElem?_eq_getElem (by omega)]
theorem ddF_take (K : List (List UInt8)) {p : Nat} (h0 : 0 < p) (hp : p < K.length) : ddF (K.take (p + 1)) = if K[p - 1] = K[p] then ddF (K.take p) else ddF (K.take p) ++ [K[p]] := by
  rw [List.take_succ_eq_append_getElem hp, ddF_snoc, take_last K h0 (by omega)]
  simp only [Option.some.injEq]
structure Cpt (K R : List (List UInt8)) (q kk p : Nat) : Prop where
  len : R.length = K.length
  kp : kk < p
  qk : q ≤ kk
  pn : p ≤ K.length
  hd : R.take kk = ddF (K.take p)
  tl : R.drop (p - 1) = K.drop (p - 1)
theorem Cpt.at_ {K R : List (List UInt8)} {q kk p j : Nat} (h : Cpt K R q kk p) (hj : p - 1 ≤ j) (hn : j < K.length) : R[j]? = some K[j] := by
  have h1 := congrArg (fun l => l[j - (p - 1)]?) h.tl
  simp only [List.getElem?_drop] at h1
  rw [show p - 1 + (j - (p - 1)) = j by omega, List.getElem?_eq_getElem hn] at h1
  exact h1
theorem Cpt.new {K R : List (List UInt8)} {q kk p : Nat} (h : Cpt K R q kk p) (h0 : 0 < p) (hp : p < K.length) (he : K[p - 1] ≠ K[p]) : Cpt K (R.set kk K[p]) q (kk + 1) (p + 1) := by
  have hkp := h.kp
  have hRl := h.len
  refine ⟨by rw [List.length_set]; exact h.len, by omega, by have := h.qk; omega, hp, ?_, ?_⟩
  · rw [ddF_take K h0 hp, if_neg he, ← h.hd, List.take_succ_eq_append_getElem (by rw [List.length_set]; omega), List.getElem_set_self, List.take_set_of_le (Nat.le_refl _)]
  · have := congrArg (List.drop 1) h.tl
    rw [List.drop_drop, List.drop_drop] at this
    rw [show p + 1 - 1 = p - 1 + 1 by omega, List.drop_set_of_lt (by omega)]
    exact this
end E
end Go.Proofs.YtdhicdnmgmkpkaaGreat
/-
  The reference's Of, the law's num.
  Conditions: none.
-/
namespace Go.Proofs.YtdhicdnmgmkpkaaGreat
set_option linter.unusedVariables false
open Go.RowKit Mono Rlp Wd
namespace E
def bytesOf : Nat → Nat → List UInt8 → List UInt8
  | 0, _, t => t
  | k + 1, m, t => bytesOf k (m / 256) (UInt8.ofNat m :: t)
end E
end Go.Proofs.YtdhicdnmgmkpkaaGreat
/-
  The program's snap: New, Add.
  Conditions: none.
-/
namespace Go.Proofs.YtdhicdnmgmkpkaaGreat
set_option linter.unusedVariables false
open Go.RowKit Mono Rlp Wd
namespace E
theorem FnM.drop {f : FuncId} {ds : List D} {os : List Obj} {Φ : R → List Obj → Prop} (h : FnM f ds os Φ) : FnM f ds os (fun r os' => (∃ os2, Φ r os2) ∧ os' = []) := ⟨fun ok w xs h1 h2 h3 => (h.go ok w xs h1 h2 h3).mono fun e w' ⟨v, r, os', e1, e2, e3, e4⟩ => ⟨v, r, [], e1, ⟨⟨os', e2⟩, rfl⟩, ⟨e3.gr, .nil, fun o ho => by simp at ho⟩, e4.mono (fun b hb => ⟨hb.1, hb.2.1, fun o ho => by simp at ho⟩) fun _ _ => rfl⟩⟩
end E
end Go.Proofs.YtdhicdnmgmkpkaaGreat
/-
  The program's snap: from, Base.
  Conditions: none.
-/
namespace Go.Proofs.YtdhicdnmgmkpkaaGreat
set_option linter.unusedVariables false
open Go.RowKit Mono Rlp Wd
namespace E
end E
end Go.Proofs.YtdhicdnmgmkpkaaGreat
/-
  slices.SortedFunc of maps.Keys of a tree's layers.
  Conditions: none.
-/
namespace Go.Proofs.YtdhicdnmgmkpkaaGreat
set_option linter.unusedVariables false
open Go.RowKit Mono Rlp Go.Sort
open Go.ChangeMaps (setBlock)
namespace E
end E
end Go.Proofs.YtdhicdnmgmkpkaaGreat
/-
  The program's snap: Flatten.
  Conditions: none.
-/
namespace Go.Proofs.YtdhicdnmgmkpkaaGreat
set_option linter.unusedVariables false
open Go.RowKit Mono Rlp Wd Go.Sort
namespace E
end E
end Go.Proofs.YtdhicdnmgmkpkaaGreat
/-
  The program's snap.Between.
  Conditions: none.
-/
namespace Go.Proofs.YtdhicdnmgmkpkaaGreat
set_option linter.unusedVariables false
open Go.RowKit Mono Rlp Wd Go.Sort
namespace E
theorem newF_from : ∀ (l : List AcL) (A : As) (a : List UInt8), l.foldl (fun A x => A.upd x.a x.take) A a = A a ∨ ∃ y ∈ l, l.foldl (fun A x => A.upd x.a x.take) A a = y.take
  | [], A, a => .inl rfl
  | x :: l, A, a => by
    rw [List.foldl_cons]
    rcases newF_from l (A.upd x.a x.take) a with h | ⟨y, hy, h⟩
    · rw [h]
      unfold As.upd
      split
      · exact .inr ⟨x, List.mem_cons_self, rfl⟩
      · exact .inl rfl
    · exact .inr ⟨y, List.mem_cons_of_mem _ hy, h⟩
theorem newA_from (l : List AcL) (a : List UInt8) : newA l a = Ac.zero ∨ ∃ y ∈ l, newA l a = y.take := newF_from l _ a
theorem AcL.Is.sl_len {x : AcL} {y : Ac} (h : x.Is y) (K : List (List UInt8)) (hK : ∀ k, y.sl k ≠ zero32 → k ∈ K) : x.sl.length ≤ K.length := by
  have h1 : (x.sl.map Prod.fst).Nodup := by
    have := h.ord
    unfold List.Nodup
    rw [List.pairwise_map]
    exact this.imp fun h e => by rw [e] at h; exact List.lt_irrefl _ h
  have := h1.length_le_of_subset (l₂ := K) fun k hk => hK k ((h.keys k).1 hk)
  simpa using this
theorem Canon.small {l L : List AcL} {n m : Nat} (h : Canon (newA l) L) (hl : ∀ x ∈ l, x.sl.length ≤ n ∧ x.cd.length ≤ m) : ∀ x ∈ L, x.sl.length ≤ n ∧ x.cd.length ≤ m := fun x hx => by
  obtain ⟨h1, h2⟩ := h.mem x hx
  rcases newA_from l x.a with e | ⟨y, hy, e⟩
  · exact absurd e h2
  · rw [e] at h1
    refine ⟨Nat.le_trans (h1.sl_len (y.sl.map Prod.fst) fun k hk => ?_) (by rw [List.length_map]; exact (hl y hy).1), by rw [h1.cd]; exact (hl y hy).2⟩
    refine Classical.byContradiction fun hn => hk ?_
    show slG y.sl (fun _ => zero32) k = zero32
    rw [slG_at zero32 y.sl _ k fun p hp e => absurd (List.mem_map.2 ⟨p, hp, e⟩) hn, if_neg hn]
end E
end Go.Proofs.YtdhicdnmgmkpkaaGreat
