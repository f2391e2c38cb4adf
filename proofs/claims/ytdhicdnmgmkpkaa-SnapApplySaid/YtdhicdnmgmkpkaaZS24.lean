/-
  Merged (wip/tools/merge.py): RT6, RT7, SN6, RT8.
  Conditions: none.
-/
import Derived.Test.YtdhicdnmgmkpkaaZS23
import Derived.Test.YtdhicdnmgmkpkaaZS20
import Derived.Test.YtdhicdnmgmkpkaaZS21
import Derived.Test.YtdhicdnmgmkpkaaZS18
/-
  The reference's state at accounts with code and slots: IsEmpty, copied, Accounts.
  Conditions: none.
-/
namespace Go.Proofs.Ytdhicdnmgmkpkaa
set_option linter.unusedVariables false
open Go.RowKit Mono Rlp Wd
namespace E
def AcL.empty (x : AcL) : Bool := decide (x.n = 0) && (x.w == zero32) && x.cd.isEmpty && x.sl.isEmpty
theorem AcL.Is.empty_iff {x : AcL} {y : Ac} (h : x.Is y) : x.empty = true ↔ y = Ac.zero := by
  unfold AcL.empty
  simp only [Bool.and_eq_true, decide_eq_true_eq, beq_iff_eq, List.isEmpty_iff]
  constructor
  · rintro ⟨⟨⟨h1, h2⟩, h3⟩, h4⟩
    have hs : y.sl = fun _ => zero32 := by
      funext k
      refine Classical.byContradiction fun hn => ?_
      obtain ⟨p, hp, _⟩ := h.all k hn
      rw [h4] at hp
      simp at hp
    have e1 := h.n
    have e2 := h.w
    have e3 := h.cd
    cases y
    unfold Ac.zero
    dsimp only at *
    subst hs
    rw [← e1, ← e2, ← e3, h1, h2, h3]
  · rintro rfl
    refine ⟨⟨⟨h.n, h.w⟩, h.cd⟩, List.eq_nil_iff_forall_not_mem.2 fun p hp => ?_⟩
    obtain ⟨h1, h2⟩ := h.val p hp
    exact h2 h1
set_option maxRecDepth 20000 in
set_option maxHeartbeats 8000000 in
theorem f_isEmpty (x : AcL) : Fn 88 [dAcL x] (· = .val (.v (.bool x.empty))) := by
  obtain ⟨xa, n, w, cd, ss⟩ := x
  have hz := (bin_word w zero32).1
  unfold AcL.empty dAcL
  dsimp only
  refine Fn.walk 24 Try.func88 rfl Try.ntmps88 (by simp) fun X => ?_
  by_cases h1 : n = 0
  · by_cases h2 : (w == zero32) = true
    · rw [h2] at hz
      by_cases h3 : cd = []
      · by_cases h4 : ss = []
        · subst h3
          subst h4
          rw [h2]
          subst h1
          repeat
            (first
             | (apply P_bin; (iterate 2 exact rfl); exact hz; (iterate 2 exact rfl)) | (apply P_move; (iterate 3 exact rfl)) | (apply P_assign; (iterate 3 exact rfl)) | (apply P_field; (iterate 6 exact rfl))
             | (apply P_pick; (iterate 4 exact rfl)) | (apply P_load; exact rfl; (first | exact I0 | exact I1 | exact I2 | exact I3 | exact I4 | exact I5 | exact I6); (iterate 4 exact rfl))
             | (apply P_cmp (b := true); (iterate 2 exact rfl); (focus (first | (simp [cmpI]; done) | (simp [cmpI]; omega))); (iterate 2 exact rfl)) | (apply P_lenbs; (iterate 4 exact rfl))
             | (apply P_lensl; (iterate 4 exact rfl)) | (apply P_build0; (iterate 5 exact rfl)) | (apply P_box; exact rfl; exact rfl; exact rfl; intro _) | apply EL.nil
             | ((with_reducible apply EK.then_normal); apply EK.code)
             | (with_reducible first | apply EC.seq | apply EC.region | apply EC.skip | apply EC.label | apply EC.block | apply EC.exit | apply EC.ret | apply EK.in_normal | apply EK.in_same | apply EK.in_ret | apply EK.then_ret | apply EK.then_exit))
          exact EK.ret1 rfl rfl rfl
        · subst h3
          have h5 : ss.isEmpty = false := by cases ss with | nil => exact absurd rfl h4 | cons _ _ => rfl
          have h6 : (ss.map dSlL).length ≠ 0 := by cases ss with | nil => exact absurd rfl h4 | cons _ _ => simp
          rw [h2, h5]
          subst h1
          repeat
            (first
             | (apply P_bin; (iterate 2 exact rfl); exact hz; (iterate 2 exact rfl)) | (apply P_move; (iterate 3 exact rfl)) | (apply P_assign; (iterate 3 exact rfl)) | (apply P_field; (iterate 6 exact rfl))
             | (apply P_pick; (iterate 4 exact rfl)) | (apply P_load; exact rfl; (first | exact I0 | exact I1 | exact I2 | exact I3 | exact I4 | exact I5 | exact I6); (iterate 4 exact rfl))
             | (apply P_cmp (b := true); (iterate 2 exact rfl); (focus (first | (simp [cmpI]; done) | (simp [cmpI]; omega))); (iterate 2 exact rfl))
             | (apply P_cmp (b := false); (iterate 2 exact rfl); (focus (first | (simp [cmpI]; done) | (simp [cmpI]; omega))); (iterate 2 exact rfl)) | (apply P_lenbs; (iterate 4 exact rfl))
             | (apply P_lensl; (iterate 4 exact rfl)) | (apply P_build0; (iterate 5 exact rfl)) | (apply P_box; exact rfl; exact rfl; exact rfl; intro _) | apply EL.nil
             | ((with_reducible apply EK.then_normal); apply EK.code)
             | (with_reducible first | apply EC.seq | apply EC.region | apply EC.skip | apply EC.label | apply EC.block | apply EC.exit | apply EC.ret | apply EK.in_normal | apply EK.in_same | apply EK.in_ret | apply EK.then_ret | apply EK.then_exit))
          exact EK.ret1 rfl rfl rfl
      · have h5 : cd.isEmpty = false := by cases cd with | nil => exact absurd rfl h3 | cons _ _ => rfl
        rw [h2, h5]
        subst h1
        repeat
          (first
           | (apply P_skip; exact rfl) | (apply P_bin; (iterate 2 exact rfl); exact hz; (iterate 2 exact rfl)) | (apply P_move; (iterate 3 exact rfl)) | (apply P_assign; (iterate 3 exact rfl))
           | (apply P_field; (iterate 6 exact rfl)) | (apply P_pick; (iterate 4 exact rfl))
           | (apply P_load; exact rfl; (first | exact I0 | exact I1 | exact I2 | exact I3 | exact I4 | exact I5 | exact I6); (iterate 4 exact rfl))
           | (apply P_cmp (b := true); (iterate 2 exact rfl); (focus (first | (simp [cmpI]; done) | (simp [cmpI]; omega))); (iterate 2 exact rfl))
           | (apply P_cmp (b := false); (iterate 2 exact rfl); (focus (first | (simp [cmpI]; done) | (simp [cmpI]; omega))); (iterate 2 exact rfl)) | (apply P_lenbs; (iterate 4 exact rfl))
           | (apply P_build0; (iterate 5 exact rfl)) | (apply P_box; exact rfl; exact rfl; exact rfl; intro _) | apply EL.nil | ((with_reducible apply EK.then_normal); apply EK.code)
           | (with_reducible first | apply EC.seq | apply EC.region | apply EC.skip | apply EC.label | apply EC.block | apply EC.exit | apply EC.ret | apply EK.in_normal | apply EK.in_same | apply EK.in_ret | apply EK.then_ret | apply EK.then_exit))
        exact EK.ret1 rfl rfl rfl
    · have h2 : (w == zero32) = false := by simpa using h2
      rw [h2] at hz ⊢
      subst h1
      repeat
        (first
         | (apply P_skip; exact rfl) | (apply P_bin; (iterate 2 exact rfl); exact hz; (iterate 2 exact rfl)) | (apply P_move; (iterate 3 exact rfl)) | (apply P_assign; (iterate 3 exact rfl))
         | (apply P_field; (iterate 6 exact rfl)) | (apply P_pick; (iterate 4 exact rfl))
         | (apply P_load; exact rfl; (first | exact I0 | exact I1 | exact I2 | exact I3 | exact I4 | exact I5 | exact I6); (iterate 4 exact rfl))
         | (apply P_cmp (b := true); (iterate 2 exact rfl); (focus (first | (simp [cmpI]; done) | (simp [cmpI]; omega))); (iterate 2 exact rfl)) | (apply P_build0; (iterate 5 exact rfl))
         | (apply P_box; exact rfl; exact rfl; exact rfl; intro _) | apply EL.nil | ((with_reducible apply EK.then_normal); apply EK.code)
         | (with_reducible first | apply EC.seq | apply EC.region | apply EC.skip | apply EC.label | apply EC.block | apply EC.exit | apply EC.ret | apply EK.in_normal | apply EK.in_same | apply EK.in_ret | apply EK.then_ret | apply EK.then_exit))
      exact EK.ret1 rfl rfl rfl
  · have h5 : decide (n = 0) = false := by simp [h1]
    rw [h5]
    repeat
      (first
       | (apply P_skip; exact rfl) | (apply P_move; (iterate 3 exact rfl)) | (apply P_assign; (iterate 3 exact rfl)) | (apply P_field; (iterate 6 exact rfl)) | (apply P_pick; (iterate 4 exact rfl))
       | (apply P_load; exact rfl; (first | exact I0 | exact I1 | exact I2 | exact I3 | exact I4 | exact I5 | exact I6); (iterate 4 exact rfl))
       | (apply P_cmp (b := false); (iterate 2 exact rfl); (focus (first | (simp [cmpI]; done) | (simp [cmpI]; omega))); (iterate 2 exact rfl)) | (apply P_box; exact rfl; exact rfl; exact rfl; intro _)
       | apply EL.nil | ((with_reducible apply EK.then_normal); apply EK.code)
       | (with_reducible first | apply EC.seq | apply EC.region | apply EC.skip | apply EC.label | apply EC.block | apply EC.exit | apply EC.ret | apply EK.in_normal | apply EK.in_same | apply EK.in_ret | apply EK.then_ret | apply EK.then_exit))
    exact EK.ret1 rfl rfl rfl
set_option maxRecDepth 20000 in
set_option maxHeartbeats 8000000 in
theorem copied_ (l : List AcL) (hll : l.length ≤ 1000000) (hB : ∀ x ∈ l, x.sl.length ≤ 1000000 ∧ x.cd.length ≤ 140737488355328) : FnM 89 [.sl 55 (l.map dAcL)] [] (fun r os' => r = .val (.sl 55 (l.map dAcL)) ∧ os' = []) := by
  have hml : (l.map dAcL).length = l.length := List.length_map _
  refine FnM.walk 35 Try.func89 rfl Try.ntmps89 (by simp) fun X => ?_
  repeat
    (first
     | (apply P_assign; (iterate 3 exact rfl)) | apply EL.nil | ((with_reducible apply EK.then_normal); apply EK.code)
     | (with_reducible first | apply EC.seq | apply EC.region | apply EC.skip | apply EC.label | apply EC.block | apply EC.exit | apply EC.ret | apply EK.in_normal | apply EK.in_same | apply EK.in_ret | apply EK.then_ret | apply EK.then_exit))
  refine EC.le (Le.row 37 55) ?_
  refine EC.loop (ι := {x : Nat × Value // x.1 ≤ l.length})
    (fun x => ⟨[(4, .val (.v (.int .i64 (x.1.1 : Int)))), (3, .val (.v x.1.2)), (0, .val (.sl 55 (l.map dAcL)))], [.row x.1.2 37 55 ((l.take x.1.1).map dAcL)], []⟩)
    (fun x => l.length - x.1.1) ⟨(0, nilS), Nat.zero_le _⟩ ?_ ?_
  · exact (Le.keep (by repeat first | exact trivial | refine ⟨rfl, ?_⟩) (by repeat first | exact List.nil_sublist _ | apply List.Sublist.cons_cons | apply List.Sublist.cons) (by simp))
  rintro ⟨⟨i, v⟩, hil⟩
  dsimp only at hil ⊢
  by_cases hlt : i < l.length
  · have hd : (l.map dAcL)[i]? = some (dAcL l[i]) := by rw [List.getElem?_map, List.getElem?_eq_getElem hlt]; rfl
    have hBi := hB l[i] (List.getElem_mem hlt)
    have htk : (l.take (i + 1)).map dAcL = (l.take i).map dAcL ++ [dAcL l[i]] := by rw [List.take_succ_eq_append_getElem hlt, List.map_append]; rfl
    have hlen : ((l.take i).map dAcL).length = i := by rw [List.length_map, List.length_take]; omega
    generalize l[i] = x at hd hBi htk
    obtain ⟨xa, xn, xw, xc, xs⟩ := x
    unfold dAcL at hd
    dsimp only at hd hBi
    have hmx : (xs.map dSlL).length = xs.length := List.length_map _
    have hv := hBi.2
    repeat
      (first
       | (apply P_apnew hv; (iterate 3 exact rfl)) | (apply P_move; (iterate 3 exact rfl)) | (apply P_field; (iterate 6 exact rfl)) | (apply P_fieldpd; (iterate 7 exact rfl))
       | (apply P_loadpd; (iterate 5 exact rfl)) | (apply P_cmp (b := true); (iterate 2 exact rfl); (focus (first | (simp [cmpI]; done) | (simp [cmpI]; omega))); (iterate 2 exact rfl))
       | (apply P_lensl; (iterate 4 exact rfl))
       | (apply P_index; (iterate 4 exact rfl); (focus (first | exact ⟨by decide, rfl⟩ | (refine ⟨by omega, ?_⟩; rw [Int.toNat_natCast]; assumption))); (iterate 2 exact rfl))
       | (apply P_alloc; exact rfl; exact rfl; exact rfl; intro _) | (apply P_store; exact rfl; (focus (repeat first | exact .z | apply SetAt.s | apply SetAtF.s)); (iterate 4 exact rfl)) | apply EL.nil
       | ((with_reducible apply EK.then_normal); apply EK.code) | (apply EC.cond_true; exact rfl)
       | (with_reducible first | apply EC.seq | apply EC.region | apply EC.skip | apply EC.label | apply EC.block | apply EC.exit | apply EC.ret | apply EK.in_normal | apply EK.in_same | apply EK.in_ret | apply EK.then_ret | apply EK.then_exit))
    refine EL.le (Le.row 72 64) ?_
    repeat
      (first
       | (apply P_move; (iterate 3 exact rfl)) | (apply P_assign; (iterate 3 exact rfl)) | (apply P_field; (iterate 6 exact rfl))
       | (apply P_load; exact rfl; (first | exact I0 | exact I1 | exact I2 | exact I3 | exact I4 | exact I5 | exact I6); (iterate 4 exact rfl))
       | (apply P_ar; (iterate 3 exact rfl); (focus omega); (focus omega); (iterate 2 exact rfl)) | (apply P_lit; (iterate 9 exact rfl))
       | (apply P_store; exact rfl; (focus (repeat first | exact .z | apply SetAt.s | apply SetAtF.s)); (iterate 4 exact rfl))
       | ((apply P_append; exact rfl; (focus (repeat first | exact .z | apply SetAt.s | apply SetAtF.s)); (iterate 5 exact rfl); (focus (constructor <;> (first | (simp; done) | (simp; omega))))); intro _)
       | apply EL.nil | ((with_reducible apply EK.then_normal); apply EK.code)
       | (with_reducible first | apply EC.seq | apply EC.region | apply EC.skip | apply EC.label | apply EC.block | apply EC.exit | apply EC.ret | apply EK.in_normal | apply EK.in_same | apply EK.in_ret | apply EK.then_ret | apply EK.then_exit))
    dsimp only
    refine EK.le (Le.freeze (pre := []) rfl) ?_
    simp only [List.nil_append]
    rename_i sv v'
    refine EK.le (Le.pick [1, 0] [_, _] rfl (by decide) rfl) ?_
    refine EK.le (Le.rowR (ds' := (l.take i).map dAcL ++ [.tup [.arr 20 xa, .v (.int .i64 xn), .arr 32 xw, .bs xc, .sl 64 (xs.map dSlL)]]) (RL.append (RefineL.refl _ _) (RL.cons (Rf.tup (RL.cons Rf.same (RL.cons Rf.same (RL.cons Rf.same (RL.cons Rf.same (RL.cons (Rf.fact List.mem_cons_self rfl) RL.nil)))))) RL.nil))) ?_
    refine EK.again ⟨(i + 1, v'), hlt⟩ (by dsimp only; omega) ?_
    dsimp only
    rw [htk]
    unfold dAcL
    dsimp only
    simp only [Int.natCast_add]
    exact (Le.keep (by repeat first | exact trivial | refine ⟨rfl, ?_⟩) (by repeat first | exact List.nil_sublist _ | apply List.Sublist.cons_cons | apply List.Sublist.cons) (by simp))
  · have hiE : i = l.length := by omega
    subst hiE
    rw [List.take_length]
    refine EC.le (Le.freeze (pre := []) rfl) ?_
    refine EC.le (Le.refine (t := 3) rfl (Rf.fact List.mem_cons_self rfl)) ?_
    repeat
      (first
       | (apply P_move; (iterate 3 exact rfl)) | (apply P_assign; (iterate 3 exact rfl))
       | (apply P_cmp (b := false); (iterate 2 exact rfl); (focus (first | (simp [cmpI]; done) | (simp [cmpI]; omega))); (iterate 2 exact rfl)) | (apply P_lensl; (iterate 4 exact rfl)) | apply EL.nil
       | ((with_reducible apply EK.then_normal); apply EK.code) | (apply EC.cond_false; exact rfl)
       | (with_reducible first | apply EC.seq | apply EC.region | apply EC.skip | apply EC.label | apply EC.block | apply EC.exit | apply EC.ret | apply EK.in_normal | apply EK.in_same | apply EK.in_ret | apply EK.then_ret | apply EK.then_exit))
    exact EK.retM1s [] rfl rfl (by (repeat first | exact List.nil_sublist _ | apply List.Sublist.cons_cons | apply List.Sublist.cons)) ⟨rfl, rfl⟩
theorem canon_of {A : As} {N : Nat} {l : List AcL} (h : RL A N l) : Canon A (l.filter fun x => !x.empty) := by
  refine ⟨h.ord.filter _, fun x hx => ?_, fun a ha => ?_⟩
  · obtain ⟨h1, h2⟩ := List.mem_filter.1 hx
    refine ⟨h.mem x h1, fun e => ?_⟩
    rw [((h.mem x h1).empty_iff).2 e] at h2
    simp at h2
  · have hm : a ∈ l.map AcL.a := Classical.byContradiction fun hn => ha (h.out a hn)
    obtain ⟨x, hx, rfl⟩ := List.mem_map.1 hm
    refine ⟨x, List.mem_filter.2 ⟨hx, ?_⟩, rfl⟩
    cases he : x.empty with
    | false => rfl
    | true => exact absurd ((h.mem x hx).empty_iff.1 he) ha
set_option maxRecDepth 20000 in
set_option maxHeartbeats 8000000 in
theorem rs_accounts {g N : Nat} {A : As} {os : List Obj} (h : RSt g A N os) (hN : N ≤ 1000000) : FnM 64 [.v (ptr g)] os (fun r os' => (∃ L, Canon A L ∧ L.length ≤ N ∧ r = .val (.sl 55 (L.map dAcL))) ∧ os' = os) := by
  obtain ⟨L, k, n, l, rfl, hR, hlN⟩ := h
  have hC := canon_of hR
  have hCl : (l.filter fun x => !x.empty).length ≤ N := Nat.le_trans (List.length_filter_le _ _) hlN
  have hcp := copied_ (l.filter fun x => !x.empty) (by omega) fun x hx => by have := hR.bd x (List.mem_filter.1 hx).1; exact ⟨Nat.le_trans this.1 hN, this.2⟩
  have hml : (l.map dAcL).length = l.length := List.length_map _
  refine FnM.walk 35 Try.func64 rfl Try.ntmps64 (by simp) fun X => ?_
  repeat
    (first
     | (apply P_assign; (iterate 3 exact rfl)) | apply EL.nil | ((with_reducible apply EK.then_normal); apply EK.code)
     | (with_reducible first | apply EC.seq | apply EC.region | apply EC.skip | apply EC.label | apply EC.block | apply EC.exit | apply EC.ret | apply EK.in_normal | apply EK.in_same | apply EK.in_ret | apply EK.then_ret | apply EK.then_exit))
  refine EC.le (Le.row 37 55) ?_
  refine EC.loop (ι := {x : Nat × Value // x.1 ≤ l.length})
    (fun x => ⟨[(4, .val (.v (.int .i64 (x.1.1 : Int)))), (3, .val (.v x.1.2)), (0, .val (.v (ptr g)))], [.row x.1.2 37 55 (((l.take x.1.1).filter fun x => !x.empty).map dAcL), rsO g L k n, raA L l], []⟩)
    (fun x => l.length - x.1.1) ⟨(0, nilS), Nat.zero_le _⟩ ?_ ?_
  · exact (Le.keep (by repeat first | exact trivial | refine ⟨rfl, ?_⟩) (by repeat first | exact List.nil_sublist _ | apply List.Sublist.cons_cons | apply List.Sublist.cons) (by simp))
  rintro ⟨⟨i, v⟩, hil⟩
  dsimp only at hil ⊢
  by_cases hlt : i < l.length
  · have hd : (l.map dAcL)[i]? = some (dAcL l[i]) := by rw [List.getElem?_map, List.getElem?_eq_getElem hlt]; rfl
    have htk : ((l.take (i + 1)).filter fun x => !x.empty) = ((l.take i).filter fun x => !x.empty) ++ ([l[i]].filter fun x => !x.empty) := by rw [List.take_succ_eq_append_getElem hlt, List.filter_append]
    have hlen : ((l.take i).filter fun x => !x.empty).length ≤ i := Nat.le_trans (List.length_filter_le _ _) (by rw [List.length_take]; omega)
    have hem := f_isEmpty l[i]
    generalize l[i] = x at hd htk hem
    generalize ((l.take i).filter fun x => !x.empty) = F at hlen htk ⊢
    have hFl : (F.map dAcL).length = F.length := List.length_map _
    cases he : x.empty with
    | true =>
      rw [he] at hem
      have hfx : ([x].filter fun x => !x.empty) = [] := by simp [he]
      rw [hfx, List.append_nil] at htk
      repeat
        (first
         | (apply P_rowload (k := i) (off := 0) (d := dAcL x); exact rfl; exact I2; exact ⟨by simp, hd⟩; (iterate 4 exact rfl))
         | (apply P_call (hem); exact rfl; (focus (repeat first | exact RefineL.refl _ _ | exact RL.nil | exact Rf.same | exact Rf.bs0 | exact Rf.sl0 | (apply Rf.fact; (focus (simp; done)); exact rfl) | apply Rf.tup | apply RL.cons)); (focus (intro _ _; simp [go_sem]; done)); (iterate 2 exact rfl))
         | (apply P_move; (iterate 3 exact rfl)) | (apply P_assign; (iterate 3 exact rfl)) | (apply P_field; (iterate 6 exact rfl)) | (apply P_not; (iterate 3 exact rfl))
         | (apply P_load; exact rfl; (first | exact I0 | exact I1 | exact I2 | exact I3 | exact I4 | exact I5 | exact I6); (iterate 4 exact rfl))
         | (apply P_cmp (b := true); (iterate 2 exact rfl); (focus (first | (simp [cmpI]; done) | (simp [cmpI]; omega))); (iterate 2 exact rfl))
         | (apply P_ar; (iterate 3 exact rfl); (focus omega); (focus omega); (iterate 2 exact rfl))
         | (apply P_lenrow; exact rfl; (first | exact I0 | exact I1 | exact I2 | exact I3 | exact I4 | exact I5 | exact I6); (iterate 3 exact rfl)) | (apply P_nilck; (iterate 3 exact rfl))
         | (apply P_rowidx; exact rfl; (first | exact I0 | exact I1 | exact I2 | exact I3 | exact I4 | exact I5 | exact I6); (iterate 2 exact rfl); (focus (first | assumption | omega | (constructor <;> (first | (simp; done) | (simp; omega))))); (iterate 2 exact rfl))
         | apply EL.nil | ((with_reducible apply EK.then_normal); apply EK.code) | (apply EC.cond_true; exact rfl) | (apply EC.cond_false; exact rfl)
         | (with_reducible first | apply EC.seq | apply EC.region | apply EC.skip | apply EC.label | apply EC.block | apply EC.exit | apply EC.ret | apply EK.in_normal | apply EK.in_same | apply EK.in_ret | apply EK.then_ret | apply EK.then_exit))
      refine EK.again ⟨(i + 1, v), hlt⟩ (by dsimp only; omega) ?_
      dsimp only
      rw [htk]
      simp only [Int.natCast_add]
      exact (Le.keep (by repeat first | exact trivial | refine ⟨rfl, ?_⟩) (by repeat first | exact List.nil_sublist _ | apply List.Sublist.cons_cons | apply List.Sublist.cons) (by simp))
    | false =>
      rw [he] at hem
      have hfx : ([x].filter fun x => !x.empty) = [x] := by simp [he]
      rw [hfx] at htk
      repeat
        (first
         | (apply P_rowload (k := i) (off := 0) (d := dAcL x); exact rfl; exact I2; exact ⟨by simp, hd⟩; (iterate 4 exact rfl))
         | (apply P_call (hem); exact rfl; (focus (repeat first | exact RefineL.refl _ _ | exact RL.nil | exact Rf.same | exact Rf.bs0 | exact Rf.sl0 | (apply Rf.fact; (focus (simp; done)); exact rfl) | apply Rf.tup | apply RL.cons)); (focus (intro _ _; simp [go_sem]; done)); (iterate 2 exact rfl))
         | (apply P_move; (iterate 3 exact rfl)) | (apply P_assign; (iterate 3 exact rfl)) | (apply P_field; (iterate 6 exact rfl)) | (apply P_not; (iterate 3 exact rfl))
         | (apply P_load; exact rfl; (first | exact I0 | exact I1 | exact I2 | exact I3 | exact I4 | exact I5 | exact I6); (iterate 4 exact rfl))
         | (apply P_cmp (b := true); (iterate 2 exact rfl); (focus (first | (simp [cmpI]; done) | (simp [cmpI]; omega))); (iterate 2 exact rfl))
         | (apply P_ar; (iterate 3 exact rfl); (focus omega); (focus omega); (iterate 2 exact rfl))
         | (apply P_lenrow; exact rfl; (first | exact I0 | exact I1 | exact I2 | exact I3 | exact I4 | exact I5 | exact I6); (iterate 3 exact rfl)) | (apply P_lit; (iterate 9 exact rfl))
         | (apply P_nilck; (iterate 3 exact rfl))
         | (apply P_rowidx; exact rfl; (first | exact I0 | exact I1 | exact I2 | exact I3 | exact I4 | exact I5 | exact I6); (iterate 2 exact rfl); (focus (first | assumption | omega | (constructor <;> (first | (simp; done) | (simp; omega))))); (iterate 2 exact rfl))
         | ((apply P_append; exact rfl; (focus (repeat first | exact .z | apply SetAt.s | apply SetAtF.s)); (iterate 5 exact rfl); (focus (constructor <;> (first | (simp; done) | (simp; omega))))); intro _)
         | apply EL.nil | ((with_reducible apply EK.then_normal); apply EK.code) | (apply EC.cond_true; exact rfl)
         | (with_reducible first | apply EC.seq | apply EC.region | apply EC.skip | apply EC.label | apply EC.block | apply EC.exit | apply EC.ret | apply EK.in_normal | apply EK.in_same | apply EK.in_ret | apply EK.then_ret | apply EK.then_exit))
      rename_i v'
      refine EK.again ⟨(i + 1, v'), hlt⟩ (by dsimp only; omega) ?_
      dsimp only
      rw [htk, List.map_append]
      simp only [Int.natCast_add]
      exact (Le.keep (by repeat first | exact trivial | refine ⟨rfl, ?_⟩) (by repeat first | exact List.nil_sublist _ | apply List.Sublist.cons_cons | apply List.Sublist.cons) (by simp))
  · have hiE : i = l.length := by omega
    subst hiE
    rw [List.take_length]
    refine EC.le (Le.freeze (pre := []) rfl) ?_
    refine EC.le (Le.refine (t := 3) rfl (Rf.fact List.mem_cons_self rfl)) ?_
    repeat
      (first
       | (apply P_callM (os := []) hcp; (iterate 2 exact rfl); exact RefineL.refl _ _; (focus (intro _ _; simp [go_sem]; done)); (iterate 2 exact rfl); rintro _ _ ⟨rfl, rfl⟩; simp only [List.nil_append])
       | (apply P_move; (iterate 3 exact rfl)) | (apply P_assign; (iterate 3 exact rfl)) | (apply P_field; (iterate 6 exact rfl))
       | (apply P_load; exact rfl; (first | exact I0 | exact I1 | exact I2 | exact I3 | exact I4 | exact I5 | exact I6); (iterate 4 exact rfl))
       | (apply P_cmp (b := false); (iterate 2 exact rfl); (focus (first | (simp [cmpI]; done) | (simp [cmpI]; omega))); (iterate 2 exact rfl))
       | (apply P_lenrow; exact rfl; (first | exact I0 | exact I1 | exact I2 | exact I3 | exact I4 | exact I5 | exact I6); (iterate 3 exact rfl)) | (apply P_nilck; (iterate 3 exact rfl)) | apply EL.nil
       | ((with_reducible apply EK.then_normal); apply EK.code) | (apply EC.cond_false; exact rfl)
       | (with_reducible first | apply EC.seq | apply EC.region | apply EC.skip | apply EC.label | apply EC.block | apply EC.exit | apply EC.ret | apply EK.in_normal | apply EK.in_same | apply EK.in_ret | apply EK.then_ret | apply EK.then_exit))
    exact EK.retM1s [rsO g L k n, raA L l] rfl rfl (by (repeat first | exact List.nil_sublist _ | apply List.Sublist.cons_cons | apply List.Sublist.cons)) ⟨⟨_, hC, hCl, rfl⟩, rfl⟩
end E
end Go.Proofs.Ytdhicdnmgmkpkaa
/-
  The reference's ApplyDiff.
  Conditions: none.
-/
namespace Go.Proofs.Ytdhicdnmgmkpkaa
set_option linter.unusedVariables false
open Go.RowKit Mono Rlp Wd
namespace E
set_option maxRecDepth 20000 in
set_option maxHeartbeats 16000000 in
theorem rapply (l : List AcL) (ch : List ChL) (hll : l.length ≤ 100) (hB : ∀ x ∈ l, x.sl.length ≤ 1000 ∧ x.cd.length ≤ 140737488355328) (hc : ch.length ≤ 100) (hcs : ∀ c ∈ ch, c.sl.length ≤ 1000 ∧ c.cd.length ≤ 140737488355328) : FnM 27 [.sl 55 (l.map dAcL), .sl 56 (ch.map dChL)] [] (fun r os' => (∃ L, Canon (applyA (newA l) ch) L ∧ L.length ≤ 1000000 ∧ r = .val (.sl 55 (L.map dAcL))) ∧ os' = []) := by
  have h1 := rnew l hll hB
  have hml : (ch.map dChL).length = ch.length := List.length_map _
  refine FnM.walk 70 Try.func27 rfl Try.ntmps27 (by simp) fun X => ?_
  repeat
    (first
     | (apply P_callM (os := []) h1; (iterate 2 exact rfl); exact RefineL.refl _ _; (focus (intro _ _; simp [go_sem]; done)); (iterate 2 exact rfl); rintro _ os1 ⟨g, rfl, hp⟩; simp only [List.append_nil])
     | (apply P_move; (iterate 3 exact rfl)) | (apply P_assign; (iterate 3 exact rfl)) | apply EL.nil | ((with_reducible apply EK.then_normal); apply EK.code)
     | (with_reducible first | apply EC.seq | apply EC.region | apply EC.skip | apply EC.label | apply EC.block | apply EC.exit | apply EC.ret | apply EK.in_normal | apply EK.in_same | apply EK.in_ret | apply EK.then_ret | apply EK.then_exit))
  refine EC.loop (ι := {x : Nat × List Obj // x.1 ≤ ch.length ∧ RSt g (applyA (newA l) (ch.take x.1)) (l.length * 1005 + x.1 * 1005) x.2})
    (fun x => ⟨[(6, .val (.v (.int .i64 (x.1.1 : Int)))), (5, .val (.v (ptr g))), (1, .val (.sl 56 (ch.map dChL)))], x.1.2, []⟩)
    (fun x => ch.length - x.1.1) ⟨(0, os1), Nat.zero_le _, hp.mono (by omega)⟩ ?_ ?_
  · exact (Le.keep (by repeat first | exact trivial | refine ⟨rfl, ?_⟩) (by repeat first | exact List.Sublist.refl _ | apply List.Sublist.cons_cons | apply List.Sublist.cons) (by simp))
  rintro ⟨⟨i, os2⟩, hil, hp2⟩
  dsimp only at hil hp2 ⊢
  by_cases hlt : i < ch.length
  · have hd : (ch.map dChL)[i]? = some (dChL ch[i]) := by rw [List.getElem?_map, List.getElem?_eq_getElem hlt]; rfl
    have hci := hcs ch[i] (List.getElem_mem hlt)
    have htk : ch.take (i + 1) = ch.take i ++ [ch[i]] := List.take_succ_eq_append_getElem hlt
    generalize ch[i] = x at hd hci htk
    obtain ⟨ca, cg, cn, cw, cc, cs⟩ := x
    unfold dChL at hd
    dsimp only at hd hci
    have hms : (cs.map dSlL).length = cs.length := List.length_map _
    obtain ⟨AA, hAA⟩ : ∃ AA, applyA (newA l) (ch.take i) = AA := ⟨_, rfl⟩
    have hp3 := hp2
    rw [hAA] at hp3
    have hcf : ∀ B, applyA (newA l) (ch.take (i + 1)) = B ↔ (⟨ca, cg, cn, cw, cc, cs⟩ : ChL).of AA = B := fun B => by rw [htk, applyA_snoc, hAA]
    cases cg with
    | true =>
      repeat
        (first
         | (apply P_callT (rs_kill hp3 (a := ca) (by omega)) [_] rfl rfl (RefineL.refl _ _) (by intro _ _; simp [go_sem]) rfl rfl; rintro _ os3 ⟨rfl, h1⟩; simp only [List.cons_append, List.nil_append])
         | (apply P_callT (rs_setNonce h1 (a := ca) (by omega) cn) [_] rfl rfl (RefineL.refl _ _) (by intro _ _; simp [go_sem]) rfl rfl; rintro _ os4 ⟨rfl, h2⟩; simp only [List.cons_append, List.nil_append])
         | (apply P_callT (rs_setBalance h2 (a := ca) (by omega) cw) [_] rfl rfl (RefineL.refl _ _) (by intro _ _; simp [go_sem]) rfl rfl; rintro _ os5 ⟨rfl, h3⟩; simp only [List.cons_append, List.nil_append])
         | (apply P_callT (rs_setCode h3 (a := ca) (by omega) cc hci.2) [_] rfl rfl (RefineL.refl _ _) (by intro _ _; simp [go_sem]) rfl rfl; rintro _ os6 ⟨rfl, h4⟩; simp only [List.cons_append, List.nil_append])
         | (apply P_move; (iterate 3 exact rfl)) | (apply P_assign; (iterate 3 exact rfl)) | (apply P_field; (iterate 6 exact rfl)) | (apply P_loadpd; (iterate 5 exact rfl))
         | (apply P_load; exact rfl; (first | exact I0 | exact I1 | exact I2 | exact I3 | exact I4 | exact I5 | exact I6); (iterate 4 exact rfl))
         | (apply P_cmp (b := true); (iterate 2 exact rfl); (focus (first | (simp [cmpI]; done) | (simp [cmpI]; omega))); (iterate 2 exact rfl)) | (apply P_lensl; (iterate 4 exact rfl))
         | (apply P_index; (iterate 4 exact rfl); (focus (first | exact ⟨by decide, rfl⟩ | (refine ⟨by omega, ?_⟩; rw [Int.toNat_natCast]; assumption))); (iterate 2 exact rfl))
         | (apply P_alloc; exact rfl; exact rfl; exact rfl; intro _) | (apply P_store; exact rfl; (focus (repeat first | exact .z | apply SetAt.s | apply SetAtF.s)); (iterate 4 exact rfl)) | apply EL.nil
         | ((with_reducible apply EK.then_normal); apply EK.code) | (apply EC.cond_true; exact rfl)
         | (with_reducible first | apply EC.seq | apply EC.region | apply EC.skip | apply EC.label | apply EC.block | apply EC.exit | apply EC.ret | apply EK.in_normal | apply EK.in_same | apply EK.in_ret | apply EK.then_ret | apply EK.then_exit))
      have h5 : RSt g (ChL.base ⟨ca, true, cn, cw, cc, cs⟩ AA) (l.length * 1005 + i * 1005 + 5) os6 := RSt.mono h4 (by omega)
      rename_i g3
      clear h1 h2 h3 h4
      refine EC.loop (ι := {x : Nat × List Obj // x.1 ≤ cs.length ∧ RSt g (slots1 ca (cs.take x.1) (ChL.base ⟨ca, true, cn, cw, cc, cs⟩ AA)) (l.length * 1005 + i * 1005 + 5 + x.1) x.2})
        (fun x => ⟨[(8, .val (.v (.int .i64 (x.1.1 : Int)))), (7, .val (.v (ptr g3))), (6, .val (.v (.int .i64 (i : Int)))), (5, .val (.v (ptr g))), (1, .val (.sl 56 (ch.map dChL)))], .var g3 123 (.tup [.arr 20 ca, .v (.bool true), .v (.int .i64 cn), .arr 32 cw, .bs cc, .sl 64 (cs.map dSlL)]) :: x.1.2, []⟩)
        (fun x => cs.length - x.1.1) ⟨(0, os6), Nat.zero_le _, h5⟩ ?_ ?_
      · exact (Le.keep (by repeat first | exact trivial | refine ⟨rfl, ?_⟩) (by repeat first | exact List.Sublist.refl _ | apply List.Sublist.cons_cons | apply List.Sublist.cons) (by simp))
      rintro ⟨⟨j, os7⟩, hjl, h6⟩
      dsimp only at hjl h6 ⊢
      by_cases hlj : j < cs.length
      · have hd2 : (cs.map dSlL)[j]? = some (dSlL cs[j]) := by rw [List.getElem?_map, List.getElem?_eq_getElem hlj]; rfl
        have htk2 : cs.take (j + 1) = cs.take j ++ [cs[j]] := List.take_succ_eq_append_getElem hlj
        generalize cs[j] = y at hd2 htk2
        obtain ⟨q, v⟩ := y
        unfold dSlL at hd2
        dsimp only at hd2
        repeat
          (first
           | (apply P_move; (iterate 3 exact rfl)) | (apply P_field; (iterate 6 exact rfl))
           | (apply P_load; exact rfl; (first | exact I0 | exact I1 | exact I2 | exact I3 | exact I4 | exact I5 | exact I6); (iterate 4 exact rfl))
           | (apply P_cmp (b := true); (iterate 2 exact rfl); (focus (first | (simp [cmpI]; done) | (simp [cmpI]; omega))); (iterate 2 exact rfl)) | (apply P_lensl; (iterate 4 exact rfl)) | apply EL.nil
           | ((with_reducible apply EK.then_normal); apply EK.code) | (apply EC.cond_true; exact rfl)
           | (with_reducible first | apply EC.seq | apply EC.region | apply EC.skip | apply EC.label | apply EC.block | apply EC.exit | apply EC.ret | apply EK.in_normal | apply EK.in_same | apply EK.in_ret | apply EK.then_ret | apply EK.then_exit))
        refine EC.le (Le.perm (List.perm_append_comm (l₁ := [_]))) ?_
        refine EC.drawC 16 [0, 1, 2, 3, 4, 5, 6, 7, 8, 9, 10, 11, 12, 13, 14] [15] os7 _ (by kernel_rfl) (by kernel_rfl) rfl ?_
        simp only [pickL, List.filterMap_cons, List.filterMap_nil, List.getElem?_cons_zero, List.getElem?_cons_succ]
        repeat
          (first
           | (apply H_move; (iterate 3 exact rfl)) | (apply H_field; (iterate 6 exact rfl)) | (apply H_fieldpd; (iterate 7 exact rfl)) | (apply H_loadpd; (iterate 5 exact rfl))
           | (apply H_load; exact rfl; (first | exact I0 | exact I1 | exact I2 | exact I3 | exact I4 | exact I5 | exact I6); (iterate 4 exact rfl))
           | (apply H_index; (iterate 4 exact rfl); (focus (first | exact ⟨by decide, rfl⟩ | (refine ⟨by omega, ?_⟩; rw [Int.toNat_natCast]; assumption))); (iterate 2 exact rfl)))
        refine EM.nil ?_
        repeat (first | rw [List.cons_append] | rw [List.nil_append])
        refine CH.callM (rest := []) (rs_setSlot h6 (a := ca) (by omega) q v) rfl rfl (RefineL.refl _ _) (by intro _ _; simp [go_sem]) rfl rfl ?_
        rintro _ os8 ⟨rfl, h7⟩
        simp only [St.put, List.nil_append]
        refine CH.nil ?_
        try simp only [List.drop_succ_cons, List.drop_zero]
        refine EL.le (Le.perm (List.perm_append_comm (l₂ := [_]))) ?_
        simp only [List.cons_append, List.nil_append]
        repeat
          (first
           | (apply P_move; (iterate 3 exact rfl)) | (apply P_assign; (iterate 3 exact rfl)) | (apply P_ar; (iterate 3 exact rfl); (focus omega); (focus omega); (iterate 2 exact rfl)) | apply EL.nil
           | ((with_reducible apply EK.then_normal); apply EK.code)
           | (with_reducible first | apply EC.seq | apply EC.region | apply EC.skip | apply EC.label | apply EC.block | apply EC.exit | apply EC.ret | apply EK.in_normal | apply EK.in_same | apply EK.in_ret | apply EK.then_ret | apply EK.then_exit))
        refine EK.again ⟨(j + 1, os8), hlj, by rw [htk2, slots1_snoc]; exact h7⟩ (by dsimp only; omega) ?_
        simp only [Int.natCast_add]
        exact (Le.keep (by repeat first | exact trivial | refine ⟨rfl, ?_⟩) (by repeat first | exact List.Sublist.refl _ | apply List.Sublist.cons_cons | apply List.Sublist.cons) (by simp))
      · have hjE : j = cs.length := by omega
        subst hjE
        rw [List.take_length] at h6
        repeat
          (first
           | (apply P_move; (iterate 3 exact rfl)) | (apply P_assign; (iterate 3 exact rfl)) | (apply P_field; (iterate 6 exact rfl))
           | (apply P_load; exact rfl; (first | exact I0 | exact I1 | exact I2 | exact I3 | exact I4 | exact I5 | exact I6); (iterate 4 exact rfl))
           | (apply P_cmp (b := false); (iterate 2 exact rfl); (focus (first | (simp [cmpI]; done) | (simp [cmpI]; omega))); (iterate 2 exact rfl))
           | (apply P_ar; (iterate 3 exact rfl); (focus omega); (focus omega); (iterate 2 exact rfl)) | (apply P_lensl; (iterate 4 exact rfl)) | apply EL.nil
           | ((with_reducible apply EK.then_normal); apply EK.code) | (apply EC.cond_false; exact rfl)
           | (with_reducible first | apply EC.seq | apply EC.region | apply EC.skip | apply EC.label | apply EC.block | apply EC.exit | apply EC.ret | apply EK.in_normal | apply EK.in_same | apply EK.in_ret | apply EK.then_ret | apply EK.then_exit))
        refine EK.again ⟨(i + 1, os7), hlt, ?_⟩ (by dsimp only; omega) ?_
        · dsimp only
          rw [(hcf _).2 rfl]
          exact RSt.mono h6 (by omega)
        · simp only [Int.natCast_add]
          exact (Le.keep (by repeat first | exact trivial | refine ⟨rfl, ?_⟩) (by repeat first | exact List.Sublist.refl _ | apply List.Sublist.cons_cons | apply List.Sublist.cons) (by simp))
    | false =>
      repeat
        (first
         | (apply P_callT (rs_setNonce hp3 (a := ca) (by omega) cn) [_] rfl rfl (RefineL.refl _ _) (by intro _ _; simp [go_sem]) rfl rfl; rintro _ os4 ⟨rfl, h2⟩; simp only [List.cons_append, List.nil_append])
         | (apply P_callT (rs_setBalance h2 (a := ca) (by omega) cw) [_] rfl rfl (RefineL.refl _ _) (by intro _ _; simp [go_sem]) rfl rfl; rintro _ os5 ⟨rfl, h3⟩; simp only [List.cons_append, List.nil_append])
         | (apply P_callT (rs_setCode h3 (a := ca) (by omega) cc hci.2) [_] rfl rfl (RefineL.refl _ _) (by intro _ _; simp [go_sem]) rfl rfl; rintro _ os6 ⟨rfl, h4⟩; simp only [List.cons_append, List.nil_append])
         | (apply P_move; (iterate 3 exact rfl)) | (apply P_assign; (iterate 3 exact rfl)) | (apply P_field; (iterate 6 exact rfl)) | (apply P_loadpd; (iterate 5 exact rfl))
         | (apply P_load; exact rfl; (first | exact I0 | exact I1 | exact I2 | exact I3 | exact I4 | exact I5 | exact I6); (iterate 4 exact rfl))
         | (apply P_cmp (b := true); (iterate 2 exact rfl); (focus (first | (simp [cmpI]; done) | (simp [cmpI]; omega))); (iterate 2 exact rfl)) | (apply P_lensl; (iterate 4 exact rfl))
         | (apply P_index; (iterate 4 exact rfl); (focus (first | exact ⟨by decide, rfl⟩ | (refine ⟨by omega, ?_⟩; rw [Int.toNat_natCast]; assumption))); (iterate 2 exact rfl))
         | (apply P_alloc; exact rfl; exact rfl; exact rfl; intro _) | (apply P_store; exact rfl; (focus (repeat first | exact .z | apply SetAt.s | apply SetAtF.s)); (iterate 4 exact rfl)) | apply EL.nil
         | ((with_reducible apply EK.then_normal); apply EK.code) | (apply EC.cond_true; exact rfl) | (apply EC.cond_false; exact rfl)
         | (with_reducible first | apply EC.seq | apply EC.region | apply EC.skip | apply EC.label | apply EC.block | apply EC.exit | apply EC.ret | apply EK.in_normal | apply EK.in_same | apply EK.in_ret | apply EK.then_ret | apply EK.then_exit))
      have h5 : RSt g (ChL.base ⟨ca, false, cn, cw, cc, cs⟩ AA) (l.length * 1005 + i * 1005 + 5) os6 := RSt.mono h4 (by omega)
      rename_i g3
      clear h2 h3 h4
      refine EC.loop (ι := {x : Nat × List Obj // x.1 ≤ cs.length ∧ RSt g (slots1 ca (cs.take x.1) (ChL.base ⟨ca, false, cn, cw, cc, cs⟩ AA)) (l.length * 1005 + i * 1005 + 5 + x.1) x.2})
        (fun x => ⟨[(8, .val (.v (.int .i64 (x.1.1 : Int)))), (7, .val (.v (ptr g3))), (6, .val (.v (.int .i64 (i : Int)))), (5, .val (.v (ptr g))), (1, .val (.sl 56 (ch.map dChL)))], .var g3 123 (.tup [.arr 20 ca, .v (.bool false), .v (.int .i64 cn), .arr 32 cw, .bs cc, .sl 64 (cs.map dSlL)]) :: x.1.2, []⟩)
        (fun x => cs.length - x.1.1) ⟨(0, os6), Nat.zero_le _, h5⟩ ?_ ?_
      · exact (Le.keep (by repeat first | exact trivial | refine ⟨rfl, ?_⟩) (by repeat first | exact List.Sublist.refl _ | apply List.Sublist.cons_cons | apply List.Sublist.cons) (by simp))
      rintro ⟨⟨j, os7⟩, hjl, h6⟩
      dsimp only at hjl h6 ⊢
      by_cases hlj : j < cs.length
      · have hd2 : (cs.map dSlL)[j]? = some (dSlL cs[j]) := by rw [List.getElem?_map, List.getElem?_eq_getElem hlj]; rfl
        have htk2 : cs.take (j + 1) = cs.take j ++ [cs[j]] := List.take_succ_eq_append_getElem hlj
        generalize cs[j] = y at hd2 htk2
        obtain ⟨q, v⟩ := y
        unfold dSlL at hd2
        dsimp only at hd2
        repeat
          (first
           | (apply P_move; (iterate 3 exact rfl)) | (apply P_field; (iterate 6 exact rfl))
           | (apply P_load; exact rfl; (first | exact I0 | exact I1 | exact I2 | exact I3 | exact I4 | exact I5 | exact I6); (iterate 4 exact rfl))
           | (apply P_cmp (b := true); (iterate 2 exact rfl); (focus (first | (simp [cmpI]; done) | (simp [cmpI]; omega))); (iterate 2 exact rfl)) | (apply P_lensl; (iterate 4 exact rfl)) | apply EL.nil
           | ((with_reducible apply EK.then_normal); apply EK.code) | (apply EC.cond_true; exact rfl)
           | (with_reducible first | apply EC.seq | apply EC.region | apply EC.skip | apply EC.label | apply EC.block | apply EC.exit | apply EC.ret | apply EK.in_normal | apply EK.in_same | apply EK.in_ret | apply EK.then_ret | apply EK.then_exit))
        refine EC.le (Le.perm (List.perm_append_comm (l₁ := [_]))) ?_
        refine EC.drawC 16 [0, 1, 2, 3, 4, 5, 6, 7, 8, 9, 10, 11, 12, 13, 14] [15] os7 _ (by kernel_rfl) (by kernel_rfl) rfl ?_
        simp only [pickL, List.filterMap_cons, List.filterMap_nil, List.getElem?_cons_zero, List.getElem?_cons_succ]
        repeat
          (first
           | (apply H_move; (iterate 3 exact rfl)) | (apply H_field; (iterate 6 exact rfl)) | (apply H_fieldpd; (iterate 7 exact rfl)) | (apply H_loadpd; (iterate 5 exact rfl))
           | (apply H_load; exact rfl; (first | exact I0 | exact I1 | exact I2 | exact I3 | exact I4 | exact I5 | exact I6); (iterate 4 exact rfl))
           | (apply H_index; (iterate 4 exact rfl); (focus (first | exact ⟨by decide, rfl⟩ | (refine ⟨by omega, ?_⟩; rw [Int.toNat_natCast]; assumption))); (iterate 2 exact rfl)))
        refine EM.nil ?_
        repeat (first | rw [List.cons_append] | rw [List.nil_append])
        refine CH.callM (rest := []) (rs_setSlot h6 (a := ca) (by omega) q v) rfl rfl (RefineL.refl _ _) (by intro _ _; simp [go_sem]) rfl rfl ?_
        rintro _ os8 ⟨rfl, h7⟩
        simp only [St.put, List.nil_append]
        refine CH.nil ?_
        try simp only [List.drop_succ_cons, List.drop_zero]
        refine EL.le (Le.perm (List.perm_append_comm (l₂ := [_]))) ?_
        simp only [List.cons_append, List.nil_append]
        repeat
          (first
           | (apply P_move; (iterate 3 exact rfl)) | (apply P_assign; (iterate 3 exact rfl)) | (apply P_ar; (iterate 3 exact rfl); (focus omega); (focus omega); (iterate 2 exact rfl)) | apply EL.nil
           | ((with_reducible apply EK.then_normal); apply EK.code)
           | (with_reducible first | apply EC.seq | apply EC.region | apply EC.skip | apply EC.label | apply EC.block | apply EC.exit | apply EC.ret | apply EK.in_normal | apply EK.in_same | apply EK.in_ret | apply EK.then_ret | apply EK.then_exit))
        refine EK.again ⟨(j + 1, os8), hlj, by rw [htk2, slots1_snoc]; exact h7⟩ (by dsimp only; omega) ?_
        simp only [Int.natCast_add]
        exact (Le.keep (by repeat first | exact trivial | refine ⟨rfl, ?_⟩) (by repeat first | exact List.Sublist.refl _ | apply List.Sublist.cons_cons | apply List.Sublist.cons) (by simp))
      · have hjE : j = cs.length := by omega
        subst hjE
        rw [List.take_length] at h6
        repeat
          (first
           | (apply P_move; (iterate 3 exact rfl)) | (apply P_assign; (iterate 3 exact rfl)) | (apply P_field; (iterate 6 exact rfl))
           | (apply P_load; exact rfl; (first | exact I0 | exact I1 | exact I2 | exact I3 | exact I4 | exact I5 | exact I6); (iterate 4 exact rfl))
           | (apply P_cmp (b := false); (iterate 2 exact rfl); (focus (first | (simp [cmpI]; done) | (simp [cmpI]; omega))); (iterate 2 exact rfl))
           | (apply P_ar; (iterate 3 exact rfl); (focus omega); (focus omega); (iterate 2 exact rfl)) | (apply P_lensl; (iterate 4 exact rfl)) | apply EL.nil
           | ((with_reducible apply EK.then_normal); apply EK.code) | (apply EC.cond_false; exact rfl)
           | (with_reducible first | apply EC.seq | apply EC.region | apply EC.skip | apply EC.label | apply EC.block | apply EC.exit | apply EC.ret | apply EK.in_normal | apply EK.in_same | apply EK.in_ret | apply EK.then_ret | apply EK.then_exit))
        refine EK.again ⟨(i + 1, os7), hlt, ?_⟩ (by dsimp only; omega) ?_
        · dsimp only
          rw [(hcf _).2 rfl]
          exact RSt.mono h6 (by omega)
        · simp only [Int.natCast_add]
          exact (Le.keep (by repeat first | exact trivial | refine ⟨rfl, ?_⟩) (by repeat first | exact List.Sublist.refl _ | apply List.Sublist.cons_cons | apply List.Sublist.cons) (by simp))
  · have hiE : i = ch.length := by omega
    subst hiE
    rw [List.take_length] at hp2
    have h3 := rs_accounts hp2 (by omega)
    repeat
      (first
       | (apply P_callT h3 [] rfl rfl (RefineL.refl _ _) (by intro _ _; simp [go_sem]) rfl rfl; rintro _ _ ⟨⟨L, hL, hLl, rfl⟩, rfl⟩; simp only [List.nil_append]) | (apply P_move; (iterate 3 exact rfl))
       | (apply P_assign; (iterate 3 exact rfl)) | (apply P_cmp (b := false); (iterate 2 exact rfl); (focus (first | (simp [cmpI]; done) | (simp [cmpI]; omega))); (iterate 2 exact rfl))
       | (apply P_lensl; (iterate 4 exact rfl)) | apply EL.nil | ((with_reducible apply EK.then_normal); apply EK.code) | (apply EC.cond_false; exact rfl)
       | (with_reducible first | apply EC.seq | apply EC.region | apply EC.skip | apply EC.label | apply EC.block | apply EC.exit | apply EC.ret | apply EK.in_normal | apply EK.in_same | apply EK.in_ret | apply EK.then_ret | apply EK.then_exit))
    exact EK.retM1s [] rfl rfl (List.nil_sublist _) ⟨⟨L, hL, by omega, rfl⟩, rfl⟩
end E
end Go.Proofs.Ytdhicdnmgmkpkaa
/-
  The law's alive (chapter 25).
  Conditions: none.
-/
namespace Go.Proofs.Ytdhicdnmgmkpkaa
set_option linter.unusedVariables false
open Go.RowKit Mono Rlp Wd Go.Sort
namespace E
theorem canon_nil {L : List AcL} (h : Canon (newA []) L) : L = [] := by
  refine List.eq_nil_iff_forall_not_mem.2 fun x hx => ?_
  exact (h.mem x hx).2 rfl
theorem of12 : (ofW 1 == ofW 2) = false := by decide
theorem of21 : (ofW 2 == ofW 1) = false := by decide
abbrev al1 : List Ent := [(0, ofW 1, dLay zero32 [])]
abbrev al2 : List Ent := [(0, ofW 1, dLay zero32 []), (1, ofW 2, dLay (ofW 1) [])]
theorem put_al1 : putE 0 [] (ofW 1) (dLay zero32 []) = al1 := rfl
theorem tick_al1 : tickE 0 [] (ofW 1) = 1 := rfl
theorem has_al1 : hasE al1 (ofW 2) = false := by simp [hasE, of12]
theorem put_al2 : putE 1 al1 (ofW 2) (dLay (ofW 1) []) = al2 := by unfold putE; rw [has_al1]; rfl
theorem tick_al2 : tickE 1 al1 (ofW 2) = 2 := by unfold tickE; rw [has_al1]; rfl
theorem sort_one (k : List UInt8) : sortL [k] = [k] := by simp [sortL]
set_option maxRecDepth 20000 in
set_option maxHeartbeats 8000000 in
theorem alive25 : FnM 24 [] [] (fun r os' => r = .val (.v (.bool true)) ∧ os' = []) := by
  have o1 : Fn 19 [.v (.int .i64 1)] (· = .val (.arr 32 (ofW 1))) := f_Of 1 (by omega)
  have o2 : Fn 19 [.v (.int .i64 2)] (· = .val (.arr 32 (ofW 2))) := f_Of 2 (by omega)
  have n0 := f_num 0
  have hnew := snew [] (ofW 1) (by simp) (by simp)
  refine FnM.walk 38 Try.func24 rfl Try.ntmps24 (by simp) fun X => ?_
  repeat
    (first
     | (apply P_call (o1); exact rfl; (focus (repeat first | exact RefineL.refl _ _ | exact RL.nil | exact Rf.same | exact Rf.bs0 | exact Rf.sl0 | (apply Rf.fact; (focus (simp; done)); exact rfl) | apply Rf.tup | apply RL.cons)); (focus (intro _ _; simp [go_sem]; done)); (iterate 2 exact rfl))
     | (apply P_assign; (iterate 3 exact rfl)) | apply EL.nil | ((with_reducible apply EK.then_normal); apply EK.code)
     | (with_reducible first | apply EC.seq | apply EC.region | apply EC.skip | apply EC.label | apply EC.block | apply EC.exit | apply EC.ret | apply EK.in_normal | apply EK.in_same | apply EK.in_ret | apply EK.then_ret | apply EK.then_exit))
  refine P_callM (os := []) hnew rfl rfl (by (repeat first | exact RefineL.refl _ _ | exact RL.nil | exact Rf.same | exact Rf.bs0 | exact Rf.sl0 | (apply Rf.fact; (focus (simp; done)); exact rfl) | apply Rf.tup | apply RL.cons)) (by intro _ _; simp [go_sem]) rfl rfl ?_
  rintro _ _ ⟨g, m, L, hL, _, _, rfl, rfl⟩
  obtain rfl := canon_nil hL
  simp only [List.cons_append, List.nil_append]
  rw [put_al1, tick_al1]
  have hnn := (bin_nil (T := 113) (by kernel_rfl) (some ⟨g, 0, none⟩)).1
  have e1 : getE al1 (ofW 2) = none := by simp [getE, of12]
  have e2 : getE al1 (ofW 1) = some (dLay zero32 []) := by simp [getE]
  have hadd := sadd (g := g) (m := m) (c := 1) (base := ofW 1) [] e1 e2 (by simp) (by simp) (by simp) (by simp)
  have e3 : getE al2 (ofW 2) = some (dLay (ofW 1) []) := by simp [getE, of12]
  have hfl := sflat (g := g) (m := m) (c := 2) (base := ofW 1) (id := ofW 2) (es := al2) (fun k => k == ofW 2) (fun e he => by
    simp only [List.mem_cons, List.not_mem_nil, or_false] at he
    rcases he with rfl | rfl
    · rw [of12]
      exact from_base (by simp [bne, of12])
    · rw [beq_self_eq_true]
      exact from_same) e3 (by simp)
  have hf1 : (al2.filter fun e => !(e.2.1 == ofW 2)) = [(0, ofW 1, dLay zero32 [])] := by simp [of12]
  have hf2 : (al2.filter fun e => e.2.1 == ofW 2) = [(1, ofW 2, dLay (ofW 1) [])] := by simp [of12]
  rw [hf1, hf2, List.map_cons, List.map_nil, sort_one] at hfl
  have hly := slayers (g := g) (m := m) (c := 2) (base := ofW 2) (es := [(1, ofW 2, dLay (ofW 1) [])]) (K1 := []) (K2 := []) (by rw [List.map_cons, List.map_nil, sort_one]; rfl) (by simp) (by simp)
  have hbs := sbase (g := g) (m := m) (c := 2) (base := ofW 2) (es := [(1, ofW 2, dLay (ofW 1) [])])
  have heq := (bin_word (ofW 2) (ofW 2)).1
  rw [beq_self_eq_true] at heq
  repeat
    (first
     | (apply P_call (o1); exact rfl; (focus (repeat first | exact RefineL.refl _ _ | exact RL.nil | exact Rf.same | exact Rf.bs0 | exact Rf.sl0 | (apply Rf.fact; (focus (simp; done)); exact rfl) | apply Rf.tup | apply RL.cons)); (focus (intro _ _; simp [go_sem]; done)); (iterate 2 exact rfl))
     | (apply P_call (o2); exact rfl; (focus (repeat first | exact RefineL.refl _ _ | exact RL.nil | exact Rf.same | exact Rf.bs0 | exact Rf.sl0 | (apply Rf.fact; (focus (simp; done)); exact rfl) | apply Rf.tup | apply RL.cons)); (focus (intro _ _; simp [go_sem]; done)); (iterate 2 exact rfl))
     | (apply P_bin; (iterate 2 exact rfl); exact hnn; (iterate 2 exact rfl)) | (apply P_move; (iterate 3 exact rfl)) | (apply P_assign; (iterate 3 exact rfl)) | (apply P_build; (iterate 7 exact rfl))
     | apply EL.nil | ((with_reducible apply EK.then_normal); apply EK.code) | (apply EC.cond_false; exact rfl)
     | (with_reducible first | apply EC.seq | apply EC.region | apply EC.skip | apply EC.label | apply EC.block | apply EC.exit | apply EC.ret | apply EK.in_normal | apply EK.in_same | apply EK.in_ret | apply EK.then_ret | apply EK.then_exit))
  refine P_callM (os := [tO g m (ofW 1), .map m 32 1 al1]) hadd rfl rfl (by (repeat first | exact RefineL.refl _ _ | exact RL.nil | exact Rf.same | exact Rf.bs0 | exact Rf.sl0 | (apply Rf.fact; (focus (simp; done)); exact rfl) | apply Rf.tup | apply RL.cons)) (by intro _ _; simp [go_sem]) rfl rfl ?_
  rintro _ _ ⟨L', hL', _, _, rfl, rfl⟩
  obtain rfl := canon_nil (show Canon (newA []) L' from hL')
  simp only [List.cons_append, List.nil_append]
  rw [put_al2, tick_al2]
  repeat
    (first
     | (apply P_call (o2); exact rfl; (focus (repeat first | exact RefineL.refl _ _ | exact RL.nil | exact Rf.same | exact Rf.bs0 | exact Rf.sl0 | (apply Rf.fact; (focus (simp; done)); exact rfl) | apply Rf.tup | apply RL.cons)); (focus (intro _ _; simp [go_sem]; done)); (iterate 2 exact rfl))
     | (apply P_move; (iterate 3 exact rfl)) | (apply P_assign; (iterate 3 exact rfl)) | apply EL.nil | ((with_reducible apply EK.then_normal); apply EK.code)
     | (with_reducible first | apply EC.seq | apply EC.region | apply EC.skip | apply EC.label | apply EC.block | apply EC.exit | apply EC.ret | apply EK.in_normal | apply EK.in_same | apply EK.in_ret | apply EK.then_ret | apply EK.then_exit))
  refine P_callM (os := [tO g m (ofW 1), .map m 32 2 al2]) hfl rfl rfl (by (repeat first | exact RefineL.refl _ _ | exact RL.nil | exact Rf.same | exact Rf.bs0 | exact Rf.sl0 | (apply Rf.fact; (focus (simp; done)); exact rfl) | apply Rf.tup | apply RL.cons)) (by intro _ _; simp [go_sem]) rfl rfl ?_
  rintro _ _ ⟨rfl, rfl⟩
  simp only [List.cons_append, List.nil_append]
  repeat
    (first
     | (apply P_call (o2); exact rfl; (focus (repeat first | exact RefineL.refl _ _ | exact RL.nil | exact Rf.same | exact Rf.bs0 | exact Rf.sl0 | (apply Rf.fact; (focus (simp; done)); exact rfl) | apply Rf.tup | apply RL.cons)); (focus (intro _ _; simp [go_sem]; done)); (iterate 2 exact rfl))
     | (apply P_call (n0); exact rfl; (focus (repeat first | exact RefineL.refl _ _ | exact RL.nil | exact Rf.same | exact Rf.bs0 | exact Rf.sl0 | (apply Rf.fact; (focus (simp; done)); exact rfl) | apply Rf.tup | apply RL.cons)); (focus (intro _ _; simp [go_sem]; done)); (iterate 2 exact rfl))
     | (apply P_bin; (iterate 2 exact rfl); exact heq; (iterate 2 exact rfl)) | (apply P_callV hbs [0, 1] [] rfl (by decide) rfl rfl (RefineL.refl _ _) (by intro _ _; simp [go_sem]) rfl rfl)
     | (apply P_callV hly [0, 1] [] rfl (by decide) rfl rfl (RefineL.refl _ _) (by intro _ _; simp [go_sem]) rfl rfl) | (apply P_move; (iterate 3 exact rfl)) | (apply P_assign; (iterate 3 exact rfl))
     | (apply P_extract; (iterate 4 exact rfl)) | (apply P_pick; (iterate 4 exact rfl))
     | (apply P_cmp (b := true); (iterate 2 exact rfl); (focus (first | (simp [cmpI]; done) | (simp [cmpI]; omega))); (iterate 2 exact rfl))
     | (apply P_ar; (iterate 3 exact rfl); (focus omega); (focus omega); (iterate 2 exact rfl)) | (apply P_lensl; (iterate 4 exact rfl)) | apply EL.nil
     | ((with_reducible apply EK.then_normal); apply EK.code)
     | (with_reducible first | apply EC.seq | apply EC.region | apply EC.skip | apply EC.label | apply EC.block | apply EC.exit | apply EC.ret | apply EK.in_normal | apply EK.in_same | apply EK.in_ret | apply EK.then_ret | apply EK.then_exit))
  exact EK.retM1s [] rfl rfl (List.nil_sublist _) ⟨rfl, rfl⟩
end E
end Go.Proofs.Ytdhicdnmgmkpkaa
/-
  The reference's SameAccount, SameAccounts: of one account, of one list.
  Conditions: none.
-/
namespace Go.Proofs.Ytdhicdnmgmkpkaa
set_option linter.unusedVariables false
open Go.RowKit Mono Rlp Wd
namespace E
def slC1 (p : List UInt8 × List UInt8) : List Value := bvs p.1 ++ bvs p.2
def slOk1 (p : List UInt8 × List UInt8) : Prop := p.1.length = 32 ∧ p.2.length = 32
theorem slot1_of {ok : Nat → Prop} {w : World} {s : List UInt8 × List UInt8} {v : Value} (h : ReadV ok w (dSlL s) v) : v = .agg (slC1 s).toArray ∧ slOk1 s := by
  obtain ⟨cs, h', rfl⟩ := (readV_agg rfl).1 h
  unfold dSlL at h'
  rw [Reads, ReadsL] at h'
  obtain ⟨c1, c2, rfl, h1, h2⟩ := h'
  rw [ReadsL] at h2
  obtain ⟨c3, c4, rfl, h3, h4⟩ := h2
  rw [ReadsL] at h4
  rw [Reads] at h1 h3
  rw [h1.2, h3.2, h4, List.append_nil]
  exact ⟨rfl, h1.1, h3.1⟩
theorem eq_slot1 (w : World) (s : List UInt8 × List UInt8) (hs : slOk1 s) : (Op.equalIn 10000 72 (.agg (slC1 s).toArray) (.agg (slC1 s).toArray)).run Try.prog w = .ok true w := by
  rw [show (10000 : Nat) = 9999 + 1 from rfl, run_equalIn_struct w 9999 72 _ _ (by kernel_rfl) (by kernel_rfl)]
  simp only [Program.fieldsOf, Try.underlying72]
  have hp : ∀ (x : List UInt8 × List UInt8) (o : Nat) (l : List UInt8), slOk1 x → (o = 0 ∧ l = x.1 ∨ o = 32 ∧ l = x.2) → ∀ w, (part 25 (slC1 x).toArray o).run Try.prog w = .ok (arrV l) w := by
    intro x o l hx ho w
    have h1 : (part 25 (slC1 x).toArray o).run Try.prog w = .ok (.agg ((slC1 x).toArray.extract o (o + 32))) w := by
      kernel_rfl
    rw [h1]
    have hk : (slC1 x).toArray.extract o (o + 32) = (bvs l).toArray := by
      apply Array.ext'
      rw [Array.toList_extract]
      unfold slC1
      rcases ho with ⟨rfl, rfl⟩ | ⟨rfl, rfl⟩
      · rw [List.extract_eq_take_drop, List.drop_zero, List.take_left' (by rw [bvs_length, hx.1])]
      · rw [List.extract_eq_take_drop, List.drop_left' (by rw [bvs_length, hx.1]), List.take_of_length_le (by rw [bvs_length, hx.2]; decide)]
    rw [hk]
    rfl
  have hW := fun w l hl => eq_arr' (T := 25) (n := 32) 9997 Try.underlying25 Try.underlying5 (fun w => by kernel_rfl) w l l hl hl
  simp only [Op.eqFields, ne_eq, String.reduceEq, not_false_eq_true, if_true, Sem.run_bind, hp s 0 s.1 hs (.inl ⟨rfl, rfl⟩), Result.andThen_ok, hW _ _ hs.1, beq_self_eq_true]
  simp [hW _ _ hs.2, Sem.run_bind, hp s 32 s.2 hs (.inr ⟨rfl, rfl⟩)]
theorem bin_slot1 (s : List UInt8 × List UInt8) : Bin .neq 72 (dSlL s) (dSlL s) (.bool false) := by
  refine ⟨rfl, fun ok w p q hp hq => ?_⟩
  obtain ⟨rfl, h1⟩ := slot1_of hp
  obtain ⟨rfl, h2⟩ := slot1_of hq
  refine ⟨fun x y => run_eqGuard_agg w _ _ _ _ _ _ (by kernel_rfl), ?_⟩
  rw [run_neq_struct, eq_slot1 w s h1]
  rfl
set_option maxRecDepth 20000 in
set_option maxHeartbeats 8000000 in
theorem f_sameAccount (x : AcL) (hx : x.sl.length ≤ 1099511627776) : Fn 56 [dAcL x, dAcL x] (· = .val (.v (.bool true))) := by
  obtain ⟨a1, a2, a3, a4, a5⟩ := x
  unfold dAcL
  dsimp only at hx ⊢
  have h1 := (bin_addr a1 a1).2
  have h3 := (bin_word a3 a3).2
  have h4 := (bin_string a4 a4).2
  rw [bne_self_eq_false] at h1 h3 h4
  have hl : (a5.map dSlL).length = a5.length := List.length_map _
  refine Fn.walk 61 Try.func56 rfl Try.ntmps56 (by simp) fun X => ?_
  repeat
    (first
     | (apply P_bin; (iterate 2 exact rfl); exact h1; (iterate 2 exact rfl)) | (apply P_bin; (iterate 2 exact rfl); exact h3; (iterate 2 exact rfl))
     | (apply P_bin; (iterate 2 exact rfl); exact h4; (iterate 2 exact rfl)) | (apply P_move; (iterate 3 exact rfl)) | (apply P_assign; (iterate 3 exact rfl)) | (apply P_field; (iterate 6 exact rfl))
     | (apply P_pick; (iterate 4 exact rfl)) | (apply P_load; exact rfl; (first | exact I0 | exact I1 | exact I2 | exact I3 | exact I4 | exact I5 | exact I6); (iterate 4 exact rfl))
     | (apply P_cmp (b := false); (iterate 2 exact rfl); (focus (first | (simp [cmpI]; done) | (simp [cmpI]; omega))); (iterate 2 exact rfl)) | (apply P_lensl; (iterate 4 exact rfl))
     | (apply P_str; (iterate 3 exact rfl)) | (apply P_box; exact rfl; exact rfl; exact rfl; intro _) | apply EL.nil | ((with_reducible apply EK.then_normal); apply EK.code)
     | (apply EC.cond_false; exact rfl)
     | (with_reducible first | apply EC.seq | apply EC.region | apply EC.skip | apply EC.label | apply EC.block | apply EC.exit | apply EC.ret | apply EK.in_normal | apply EK.in_same | apply EK.in_ret | apply EK.then_ret | apply EK.then_exit))
  rename_i g2 g3
  refine EC.loop (ι := {k : Nat // k ≤ a5.length})
    (fun k => ⟨[(5, .val (.v (.int .i64 (k.1 : Int)))), (2, .val (.v (.pointer (some ⟨g2, 0, none⟩)))), (3, .val (.v (.pointer (some ⟨g3, 0, none⟩))))],
      [.var g3 37 (.tup [.arr 20 a1, .v (.int .i64 a2), .arr 32 a3, .bs a4, .sl 64 (a5.map dSlL)]), .var g2 37 (.tup [.arr 20 a1, .v (.int .i64 a2), .arr 32 a3, .bs a4, .sl 64 (a5.map dSlL)])], []⟩)
    (fun k => a5.length - k.1) ⟨0, by omega⟩ ?_ ?_
  · exact (Le.keep (by repeat first | exact trivial | refine ⟨rfl, ?_⟩) (by repeat first | exact List.nil_sublist _ | apply List.Sublist.cons_cons | apply List.Sublist.cons) (by simp))
  rintro ⟨k, hk⟩
  dsimp only at hk ⊢
  by_cases hlt : k < a5.length
  · have hy : (a5.map dSlL)[k]? = some (dSlL a5[k]) := by rw [List.getElem?_map, List.getElem?_eq_getElem hlt]; rfl
    generalize a5[k] = s at hy
    have hb := bin_slot1 s
    repeat
      (first
       | (apply P_move; (iterate 3 exact rfl)) | (apply P_field; (iterate 6 exact rfl))
       | (apply P_load; exact rfl; (first | exact I0 | exact I1 | exact I2 | exact I3 | exact I4 | exact I5 | exact I6); (iterate 4 exact rfl))
       | (apply P_cmp (b := true); (iterate 2 exact rfl); (focus (first | (simp [cmpI]; done) | (simp [cmpI]; omega))); (iterate 2 exact rfl)) | (apply P_lensl; (iterate 4 exact rfl)) | apply EL.nil
       | ((with_reducible apply EK.then_normal); apply EK.code) | (apply EC.cond_true; exact rfl)
       | (with_reducible first | apply EC.seq | apply EC.region | apply EC.skip | apply EC.label | apply EC.block | apply EC.exit | apply EC.ret | apply EK.in_normal | apply EK.in_same | apply EK.in_ret | apply EK.then_ret | apply EK.then_exit))
    refine EC.draw 11 (by kernel_rfl) ?_
    simp only [List.take_succ_cons, List.take_zero, List.drop_succ_cons, List.drop_zero]
    repeat
      (first
       | (apply H_bin; (iterate 2 exact rfl); exact hb; (iterate 2 exact rfl)) | (apply H_move; (iterate 3 exact rfl)) | (apply H_field; (iterate 6 exact rfl)) | (apply H_loadpd; (iterate 5 exact rfl))
       | (apply H_load; exact rfl; (first | exact I0 | exact I1 | exact I2 | exact I3 | exact I4 | exact I5 | exact I6); (iterate 4 exact rfl))
       | (apply H_index; (iterate 4 exact rfl); (focus (first | exact ⟨by decide, rfl⟩ | (refine ⟨by omega, ?_⟩; rw [Int.toNat_natCast]; assumption))); (iterate 2 exact rfl))
       | ((with_reducible apply EH.nil); exact rfl))
    repeat
      (first
       | (apply P_move; (iterate 3 exact rfl)) | (apply P_assign; (iterate 3 exact rfl)) | (apply P_ar; (iterate 3 exact rfl); (focus omega); (focus omega); (iterate 2 exact rfl)) | apply EL.nil
       | ((with_reducible apply EK.then_normal); apply EK.code) | (apply EC.cond_false; exact rfl)
       | (with_reducible first | apply EC.seq | apply EC.region | apply EC.skip | apply EC.label | apply EC.block | apply EC.exit | apply EC.ret | apply EK.in_normal | apply EK.in_same | apply EK.in_ret | apply EK.then_ret | apply EK.then_exit))
    refine EK.again ⟨k + 1, hlt⟩ (by dsimp only; omega) ?_
    simp only [Int.natCast_add]
    exact (Le.keep (by repeat first | exact trivial | refine ⟨rfl, ?_⟩) (by repeat first | exact List.nil_sublist _ | apply List.Sublist.cons_cons | apply List.Sublist.cons) (by simp))
  · skip
    repeat
      (first
       | (apply P_move; (iterate 3 exact rfl)) | (apply P_assign; (iterate 3 exact rfl)) | (apply P_field; (iterate 6 exact rfl))
       | (apply P_load; exact rfl; (first | exact I0 | exact I1 | exact I2 | exact I3 | exact I4 | exact I5 | exact I6); (iterate 4 exact rfl))
       | (apply P_cmp (b := false); (iterate 2 exact rfl); (focus (first | (simp [cmpI]; done) | (simp [cmpI]; omega))); (iterate 2 exact rfl)) | (apply P_lensl; (iterate 4 exact rfl)) | apply EL.nil
       | ((with_reducible apply EK.then_normal); apply EK.code) | (apply EC.cond_false; exact rfl)
       | (with_reducible first | apply EC.seq | apply EC.region | apply EC.skip | apply EC.label | apply EC.block | apply EC.exit | apply EC.ret | apply EK.in_normal | apply EK.in_same | apply EK.in_ret | apply EK.then_ret | apply EK.then_exit))
    exact EK.ret1 rfl rfl rfl
set_option maxRecDepth 20000 in
set_option maxHeartbeats 8000000 in
theorem f_sameAccounts (l : List AcL) (hl : l.length ≤ 1099511627776) (hx : ∀ x ∈ l, x.sl.length ≤ 1099511627776) : Fn 23 [.sl 55 (l.map dAcL), .sl 55 (l.map dAcL)] (· = .val (.v (.bool true))) := by
  have hml : (l.map dAcL).length = l.length := List.length_map _
  refine Fn.walk 27 Try.func23 rfl Try.ntmps23 (by simp) fun X => ?_
  repeat
    (first
     | (apply P_move; (iterate 3 exact rfl)) | (apply P_assign; (iterate 3 exact rfl))
     | (apply P_cmp (b := false); (iterate 2 exact rfl); (focus (first | (simp [cmpI]; done) | (simp [cmpI]; omega))); (iterate 2 exact rfl)) | (apply P_lensl; (iterate 4 exact rfl)) | apply EL.nil
     | ((with_reducible apply EK.then_normal); apply EK.code) | (apply EC.cond_false; exact rfl)
     | (with_reducible first | apply EC.seq | apply EC.region | apply EC.skip | apply EC.label | apply EC.block | apply EC.exit | apply EC.ret | apply EK.in_normal | apply EK.in_same | apply EK.in_ret | apply EK.then_ret | apply EK.then_exit))
  refine EC.loop (ι := {k : Nat // k ≤ l.length})
    (fun k => ⟨[(5, .val (.v (.int .i64 (k.1 : Int)))), (0, .val (.sl 55 (l.map dAcL))), (1, .val (.sl 55 (l.map dAcL)))], [], []⟩)
    (fun k => l.length - k.1) ⟨0, by omega⟩ ?_ ?_
  · exact (Le.keep (by repeat first | exact trivial | refine ⟨rfl, ?_⟩) (by repeat first | exact List.nil_sublist _ | apply List.Sublist.cons_cons | apply List.Sublist.cons) (by simp))
  rintro ⟨k, hk⟩
  dsimp only at hk ⊢
  by_cases hlt : k < l.length
  · have hy : (l.map dAcL)[k]? = some (dAcL l[k]) := by rw [List.getElem?_map, List.getElem?_eq_getElem hlt]; rfl
    have hc := f_sameAccount l[k] (hx _ (List.getElem_mem hlt))
    generalize l[k] = s at hy hc
    repeat
      (first
       | (apply P_move; (iterate 3 exact rfl)) | (apply P_cmp (b := true); (iterate 2 exact rfl); (focus (first | (simp [cmpI]; done) | (simp [cmpI]; omega))); (iterate 2 exact rfl))
       | (apply P_lensl; (iterate 4 exact rfl)) | apply EL.nil | ((with_reducible apply EK.then_normal); apply EK.code) | (apply EC.cond_true; exact rfl)
       | (with_reducible first | apply EC.seq | apply EC.region | apply EC.skip | apply EC.label | apply EC.block | apply EC.exit | apply EC.ret | apply EK.in_normal | apply EK.in_same | apply EK.in_ret | apply EK.then_ret | apply EK.then_exit))
    refine EC.draw 10 (by kernel_rfl) ?_
    simp only [List.take_succ_cons, List.take_zero, List.drop_succ_cons, List.drop_zero]
    repeat
      (first
       | (apply H_call (hc); exact rfl; (focus (repeat first | exact RefineL.refl _ _ | exact RL.nil | exact Rf.same | exact Rf.bs0 | exact Rf.sl0 | (apply Rf.fact; (focus (simp; done)); exact rfl) | apply Rf.tup | apply RL.cons)); (focus (intro _ _; simp [go_sem]; done)); (iterate 2 exact rfl))
       | (apply H_move; (iterate 3 exact rfl)) | (apply H_loadpd; (iterate 5 exact rfl)) | (apply H_not; (iterate 3 exact rfl))
       | (apply H_index; (iterate 4 exact rfl); (focus (first | exact ⟨by decide, rfl⟩ | (refine ⟨by omega, ?_⟩; rw [Int.toNat_natCast]; assumption))); (iterate 2 exact rfl))
       | ((with_reducible apply EH.nil); exact rfl))
    repeat
      (first
       | (apply P_move; (iterate 3 exact rfl)) | (apply P_assign; (iterate 3 exact rfl)) | (apply P_ar; (iterate 3 exact rfl); (focus omega); (focus omega); (iterate 2 exact rfl)) | apply EL.nil
       | ((with_reducible apply EK.then_normal); apply EK.code) | (apply EC.cond_false; exact rfl)
       | (with_reducible first | apply EC.seq | apply EC.region | apply EC.skip | apply EC.label | apply EC.block | apply EC.exit | apply EC.ret | apply EK.in_normal | apply EK.in_same | apply EK.in_ret | apply EK.then_ret | apply EK.then_exit))
    refine EK.again ⟨k + 1, hlt⟩ (by dsimp only; omega) ?_
    simp only [Int.natCast_add]
    exact (Le.keep (by repeat first | exact trivial | refine ⟨rfl, ?_⟩) (by repeat first | exact List.nil_sublist _ | apply List.Sublist.cons_cons | apply List.Sublist.cons) (by simp))
  · skip
    repeat
      (first
       | (apply P_move; (iterate 3 exact rfl)) | (apply P_assign; (iterate 3 exact rfl))
       | (apply P_cmp (b := false); (iterate 2 exact rfl); (focus (first | (simp [cmpI]; done) | (simp [cmpI]; omega))); (iterate 2 exact rfl)) | (apply P_lensl; (iterate 4 exact rfl)) | apply EL.nil
       | ((with_reducible apply EK.then_normal); apply EK.code) | (apply EC.cond_false; exact rfl)
       | (with_reducible first | apply EC.seq | apply EC.region | apply EC.skip | apply EC.label | apply EC.block | apply EC.exit | apply EC.ret | apply EK.in_normal | apply EK.in_same | apply EK.in_ret | apply EK.then_ret | apply EK.then_exit))
    exact EK.ret1 rfl rfl rfl
end E
end Go.Proofs.Ytdhicdnmgmkpkaa
