/-
  Merged (wip/tools/merge.py): SD5, SD6, KecHash.
  Conditions: none.
-/
import Derived.Test.YtmlajcbabimkjaaZO25
import Derived.Test.YtmlajcbabimkjaaZO14
/-
  No two hashes alike: a root tells its pairs (plain, joined).
  Conditions: none.
-/
namespace Go.Proofs.Ytmlajcbabimkjaa
set_option linter.unusedVariables false
open Go.RowKit Mono Rlp
namespace E
theorem errP0 {l : List Pr} : errP l = 0 ↔ l.length ≤ 100000 ∧ (∀ x ∈ l, x.1.length ≤ 64 ∧ x.2.length ≤ 1048576 ∧ x.2 ≠ []) ∧ (l.map (·.1)).Nodup := by
  have hnd : ((l.map sp).map (·.1)).Nodup ↔ (l.map (·.1)).Nodup := by
    have : (l.map sp).map (·.1) = (l.map (·.1)).map split := by rw [List.map_map, List.map_map]; rfl
    rw [this]
    unfold List.Nodup
    rw [List.pairwise_map]
    constructor
    · intro h
      exact h.imp fun h e => h (congrArg split e)
    · intro h
      exact h.imp fun h e => h (split_injB _ _ e)
  unfold errP
  constructor
  · intro h
    split at h
    · cases h
    · rename_i h1
      split at h
      · cases h
      · rename_i h2
        split at h
        · rename_i h3
          have h1a : ¬ 100000 < l.length := fun e => h1 (.inl e)
          have h1b : l.any lg = false := by simpa using fun e => h1 (.inr e)
          refine ⟨by omega, fun x hx => ⟨(not_long h1b hx).1, (not_long h1b hx).2, fun e => h2 (List.any_eq_true.2 ⟨x, hx, by rw [e]; rfl⟩)⟩, hnd.1 h3⟩
        · cases h
  · rintro ⟨h1, h2, h3⟩
    rw [if_neg, if_neg, if_pos (hnd.2 h3)]
    · intro h
      obtain ⟨x, hx, e⟩ := List.any_eq_true.1 h
      exact (h2 x hx).2.2 (by simpa using e)
    · rintro (h | h)
      · omega
      · obtain ⟨x, hx, e⟩ := List.any_eq_true.1 h
        have := h2 x hx
        unfold lg at e
        rcases Bool.or_eq_true _ _ ▸ e with e | e
        · have := of_decide_eq_true e
          omega
        · have := of_decide_eq_true e
          omega
theorem fn_keys {l : List Pr} (h : (l.map (·.1)).Nodup) : ∀ x ∈ l, ∀ y ∈ l, x.1 = y.1 → x = y := by
  induction l with
  | nil => intro x hx; cases hx
  | cons z l ih =>
    rw [List.map_cons, List.nodup_cons] at h
    intro x hx y hy e
    rcases List.mem_cons.1 hx with ex | hx <;> rcases List.mem_cons.1 hy with ey | hy
    · rw [ex, ey]
    · exact absurd (List.mem_map.2 ⟨y, hy, by rw [← e, ex]⟩) h.1
    · exact absurd (List.mem_map.2 ⟨x, hx, by rw [e, ey]⟩) h.1
    · exact ih h.2 x hx y hy e
theorem good_sp {l : List Pr} (h : errP l = 0) : GoodL (l.map sp) := by
  obtain ⟨_, h2, h3⟩ := errP0.1 h
  have hf := fn_keys h3
  constructor
  · intro x hx c hc
    obtain ⟨w, hw, rfl⟩ := List.mem_map.1 hx
    exact split_smallT _ c hc
  · intro x hx
    obtain ⟨w, hw, rfl⟩ := List.mem_map.1 hx
    have := (h2 w hw).1
    show (split w.1).length ≤ _
    rw [split_length]
    omega
  · intro x hx
    obtain ⟨w, hw, rfl⟩ := List.mem_map.1 hx
    exact (h2 w hw).2.1
  · intro x hx
    obtain ⟨w, hw, rfl⟩ := List.mem_map.1 hx
    exact (h2 w hw).2.2
  · intro x hx y hy e
    obtain ⟨w, hw, rfl⟩ := List.mem_map.1 hx
    obtain ⟨v, hv, rfl⟩ := List.mem_map.1 hy
    rw [hf w hw v hv (split_injB _ _ e)]
theorem srt_uniq {S : List Pr} (h : Srt S) {k a b : List UInt8} (ha : (k, a) ∈ S) (hb : (k, b) ∈ S) : a = b := by
  induction S with
  | nil => cases ha
  | cons z S ih =>
    obtain ⟨h1, h2⟩ := List.pairwise_cons.1 h
    have hirr : ∀ l : List UInt8, Op.bytesLess l l = true → False := fun l e => by
      rw [bl_iff] at e
      exact List.lt_irrefl _ (of_decide_eq_true e)
    rcases List.mem_cons.1 ha with ea | ha <;> rcases List.mem_cons.1 hb with eb | hb
    · rw [← ea] at eb
      injection eb with _ e
      exact e.symm
    · have := h1 _ hb
      rw [← ea] at this
      exact (hirr _ this).elim
    · have := h1 _ ha
      rw [← eb] at this
      exact (hirr _ this).elim
    · exact ih h2 ha hb
theorem trieU_clash {l m : List Pr} {S : List Pr} (hS : Srt S) (h1 : ∀ x ∈ trieU l, (hash x, x) ∈ S) (h2 : ∀ x ∈ trieU m, (hash x, x) ∈ S) : Clash0 (trieU l) (trieU m) := fun u hu v hv e => by
  have a := h1 u hu
  rw [e] at a
  exact srt_uniq hS a (h2 v hv)
theorem pkB_ne {x : Raw} (h : NdOk x) {xs : List Raw} (hx : x = .mk true [] xs) : pkB x ≠ [128] := fun e => by
  rw [pkB_ok h, hx] at e
  have h1 := congrArg List.length e
  rw [Rlp.E] at e h1
  rw [List.length_append, head_length] at h1
  unfold szB at h1
  simp only [List.length_singleton] at h1
  split at h1
  · have h0 : Rlp.EL xs = [] := List.eq_nil_of_length_eq_zero (by omega)
    rw [h0] at e
    revert e
    decide +kernel
  · omega
theorem roots_sub {l m : List Pr} (hl : errP l = 0) (hm : errP m = 0) (H : Clash0 (trieU l) (trieU m)) (h : rootP l = rootP m) : ∀ z ∈ l, z ∈ m := by
  rw [← rootR_eq, ← rootR_eq] at h
  unfold rootR at h
  rw [hl, hm, if_neg (show ¬ (0 ≠ 0) by decide), if_neg (show ¬ (0 ≠ 0) by decide)] at h
  unfold Clash0 trieU at H
  have hL : ∀ l : List Pr, l.isEmpty = false → (l.map sp).isEmpty = false := fun l h => by
    cases l with
    | nil => cases h
    | cons _ _ => rfl
  have hF : ∀ l : List Pr, errP l = 0 → ∀ x ∈ l.map sp, x.1.length < 200 := fun l h x hx => by
    have := (good_sp h).len x hx
    omega
  intro z hz
  have hle : l.isEmpty = false := by
    cases l with
    | nil => cases hz
    | cons _ _ => rfl
  rw [hle, if_neg Bool.false_ne_true] at H h
  obtain ⟨xs, hxs⟩ := nodeR_list 199 (l.map sp)
  have gl := good_sp hl
  have gm := good_sp hm
  cases hme : m.isEmpty with
  | true =>
    rw [hme, if_pos rfl] at H h
    unfold root0 at h
    have := H _ (List.mem_cons_of_mem _ (List.mem_append.2 (.inr (List.mem_singleton.2 rfl)))) _ List.mem_cons_self h
    exact absurd this (pkB_ne (node_ok 200 _ gl) hxs)
  | false =>
    rw [hme, if_neg Bool.false_ne_true] at H h
    have e1 := H _ (List.mem_cons_of_mem _ (List.mem_append.2 (.inr (List.mem_singleton.2 rfl)))) _ (List.mem_cons_of_mem _ (List.mem_append.2 (.inr (List.mem_singleton.2 rfl)))) h
    have e2 := pk_inj (node_ok 200 _ gl) (node_ok 200 _ gm) e1
    have ih := node_inj 200 _ _ (hL l hle) (hL m hme) (hF l hl) (hF m hm) gl gm (fun u hu v hv e => H u (List.mem_cons_of_mem _ (List.mem_append.2 (.inl hu))) v (List.mem_cons_of_mem _ (List.mem_append.2 (.inl hv))) e) e2 (sp z) (List.mem_map.2 ⟨z, hz, rfl⟩)
    obtain ⟨w, hw, e⟩ := List.mem_map.1 ih
    injection e with e3 e4
    rw [show z = w from Prod.ext (split_injB _ _ e3.symm) e4.symm]
    exact hw
theorem rootP_perm {l m : List Pr} (hp : l.Perm m) (hl : errP l = 0) : errP m = 0 ∧ rootP l = rootP m := by
  obtain ⟨h1, h2, h3⟩ := errP0.1 hl
  have hm : errP m = 0 := errP0.2 ⟨by rw [← hp.length_eq]; exact h1, fun x hx => h2 x (hp.mem_iff.2 hx), (hp.map _).nodup_iff.1 h3⟩
  refine ⟨hm, ?_⟩
  unfold rootP
  rw [hl, hm]
  unfold treeT
  have hnd := (pairsF_ok hl).2.2
  have : srt (l.map sp) = srt (m.map sp) := (srt_eq (ps := m.map sp) ((srt_perm _).trans (hp.map sp)) (srt_sorted _) (pairsF_ok hm).2.2)
  rw [this]
end E
end Go.Proofs.Ytmlajcbabimkjaa
/-
  The Seen: Clear.
  Conditions: none.
-/
namespace Go.Proofs.Ytmlajcbabimkjaa
set_option linter.unusedVariables false
open Go.RowKit Mono Rlp
namespace E
abbrev dPrs (l : List Pr) : D := .sl 2 (l.map dPr)
def Clr (ls : List (List Pr)) : Prop := ∃ S : List Pr, Srt S ∧ ∀ l ∈ ls, errP l = 0 → ∀ x ∈ trieU l, (hash x, x) ∈ S
set_option maxRecDepth 20000 in
set_option maxHeartbeats 16000000 in
theorem clear_ (ls : List (List Pr)) (hls : ls.length ≤ 40) : FnM 11 [.sl 1 (ls.map dPrs)] [] (fun r os' => ∃ b, (b = true → Clr ls) ∧ r = .val (.v (.bool b)) ∧ os' = []) := by
  have hml : (ls.map dPrs).length = ls.length := List.length_map _
  refine FnM.walk 28 Try.func11 rfl Try.ntmps11 (by simp) fun X => ?_
  repeat
    (first
     | (apply P_box; exact rfl; exact rfl; exact rfl; intro gs) | (apply P_assign; (iterate 3 exact rfl)) | (apply P_build; (iterate 7 exact rfl)) | apply EL.nil
     | ((with_reducible apply EK.then_normal); apply EK.code)
     | (with_reducible first | apply EC.seq | apply EC.region | apply EC.skip | apply EC.label | apply EC.block | apply EC.exit | apply EC.ret | apply EK.in_normal | apply EK.in_same | apply EK.in_ret | apply EK.then_ret | apply EK.then_exit))
  refine EC.le (Le.row 141 33) ?_
  refine EC.le (Le.pick [1, 0] [_, _] rfl (by decide) rfl) ?_
  refine EC.loop (ι := {x : Nat × Value × List Pr // x.1 ≤ ls.length ∧ Srt x.2.2 ∧ x.2.2.length ≤ x.1 * 20000002 ∧ ∀ j, (hj : j < ls.length) → j < x.1 → errP ls[j] = 0 → ∀ y ∈ trieU ls[j], (hash y, y) ∈ x.2.2})
    (fun x => ⟨[(4, .val (.v (.int .i64 (x.1.1 : Int)))), (3, .val (.v (ptr gs))), (0, .val (.sl 1 (ls.map dPrs)))], [sdO gs x.1.2.1, sdR x.1.2.1 x.1.2.2], []⟩)
    (fun x => ls.length - x.1.1) ⟨(0, .slice none 0 0, []), Nat.zero_le _, .nil, Nat.zero_le _, fun j _ hj => absurd hj (Nat.not_lt_zero _)⟩ ?_ ?_
  · exact (Le.keep (by repeat first | exact trivial | refine ⟨rfl, ?_⟩) (by repeat first | exact List.nil_sublist _ | apply List.Sublist.cons_cons | apply List.Sublist.cons) (by simp))
  rintro ⟨⟨i, v, S⟩, hi, hS, hSl, hall⟩
  dsimp only at hi hS hSl hall ⊢
  by_cases hlt : i < ls.length
  · have hd : (ls.map dPrs)[i]? = some (.sl 2 (ls[i].map dPr)) := by rw [List.getElem?_map, List.getElem?_eq_getElem hlt]; rfl
    have hM := f_MayPairs ls[i]
    by_cases he : errP ls[i] = 0
    · have hT := sd_Trie gs v S ls[i] hS (by omega) he
      have hlen := (errP0.1 he).1
      have hall1 : ∀ b S', SeenTo (trieU ls[i]) (2 + 200 * ls[i].length) S S' b → b = true → ∀ j, (hj : j < ls.length) → j < i + 1 → errP ls[j] = 0 → ∀ y ∈ trieU ls[j], (hash y, y) ∈ S' := fun b S' h hb j hj hji hje y hy => by
        rcases Nat.lt_or_ge j i with h2 | h2
        · exact h.2.2.1 _ (hall j hj h2 hje y hy)
        · obtain rfl : j = i := by omega
          exact h.2.2.2 hb y hy
      rw [he] at hM
      generalize ls[i] = l at hd hM hT hlen hall1
      repeat
        (first
         | (apply P_call (hM); exact rfl; (focus (repeat first | exact RefineL.refl _ _ | exact RL.nil | exact Rf.same | exact Rf.bs0 | exact Rf.sl0 | (apply Rf.fact; (focus (simp; done)); exact rfl) | apply Rf.tup | apply RL.cons)); (focus (intro _ _; simp [go_sem]; done)); (iterate 2 exact rfl))
         | (apply P_move; (iterate 3 exact rfl)) | (apply P_loadpd; (iterate 5 exact rfl))
         | (apply P_cmp (b := true); (iterate 2 exact rfl); (focus (first | (simp [cmpI]; done) | (simp [cmpI]; omega))); (iterate 2 exact rfl))
         | (apply P_cmp (b := false); (iterate 2 exact rfl); (focus (first | (simp [cmpI]; done) | (simp [cmpI]; omega))); (iterate 2 exact rfl)) | (apply P_lensl; (iterate 4 exact rfl))
         | (apply P_index; (iterate 4 exact rfl); (focus (first | exact ⟨by decide, rfl⟩ | (refine ⟨by omega, ?_⟩; rw [Int.toNat_natCast]; assumption))); (iterate 2 exact rfl)) | apply EL.nil
         | ((with_reducible apply EK.then_normal); apply EK.code) | (apply EC.cond_true; exact rfl) | (apply EC.cond_false; exact rfl)
         | (with_reducible first | apply EC.seq | apply EC.region | apply EC.skip | apply EC.label | apply EC.block | apply EC.exit | apply EC.ret | apply EK.in_normal | apply EK.in_same | apply EK.in_ret | apply EK.then_ret | apply EK.then_exit))
      refine P_callAt hT [] [] rfl rfl (RefineL.refl _ _) (by intro _ _; simp [go_sem]) rfl rfl ?_
      rintro _ _ ⟨b, v', S', hsn, rfl, rfl⟩
      simp only [List.cons_append, List.nil_append]
      cases b with
      | true =>
        repeat
          (first
           | (apply P_move; (iterate 3 exact rfl)) | (apply P_assign; (iterate 3 exact rfl)) | (apply P_not; (iterate 3 exact rfl))
           | (apply P_ar; (iterate 3 exact rfl); (focus omega); (focus omega); (iterate 2 exact rfl)) | apply EL.nil | ((with_reducible apply EK.then_normal); apply EK.code) | (apply EC.cond_false; exact rfl)
           | (with_reducible first | apply EC.seq | apply EC.region | apply EC.skip | apply EC.label | apply EC.block | apply EC.exit | apply EC.ret | apply EK.in_normal | apply EK.in_same | apply EK.in_ret | apply EK.then_ret | apply EK.then_exit))
        refine EK.again ⟨(i + 1, v', S'), hlt, hsn.1, by have := hsn.2.1; dsimp only; omega, hall1 _ _ hsn rfl⟩ (by dsimp only; omega) ?_
        simp only [Int.natCast_add]
        exact (Le.keep (by repeat first | exact trivial | refine ⟨rfl, ?_⟩) (by repeat first | exact List.nil_sublist _ | apply List.Sublist.cons_cons | apply List.Sublist.cons) (by simp))
      | false =>
        repeat
          (first
           | (apply P_move; (iterate 3 exact rfl)) | (apply P_assign; (iterate 3 exact rfl)) | (apply P_not; (iterate 3 exact rfl)) | apply EL.nil | ((with_reducible apply EK.then_normal); apply EK.code)
           | (apply EC.cond_true; exact rfl)
           | (with_reducible first | apply EC.seq | apply EC.region | apply EC.skip | apply EC.label | apply EC.block | apply EC.exit | apply EC.ret | apply EK.in_normal | apply EK.in_same | apply EK.in_ret | apply EK.then_ret | apply EK.then_exit))
        exact EK.retM1s [] rfl rfl (List.nil_sublist _) ⟨false, (fun h => by cases h), rfl, rfl⟩
    · have hne : (errP ls[i] : Int) ≠ 0 := by omega
      have hall1 : ∀ j, (hj : j < ls.length) → j < i + 1 → errP ls[j] = 0 → ∀ y ∈ trieU ls[j], (hash y, y) ∈ S := fun j hj hji hje y hy => by
        rcases Nat.lt_or_ge j i with h2 | h2
        · exact hall j hj h2 hje y hy
        · obtain rfl : j = i := by omega
          exact absurd hje he
      generalize errP ls[i] = e at hM hne
      generalize ls[i] = l at hd hM
      clear he
      repeat
        (first
         | (apply P_call (hM); exact rfl; (focus (repeat first | exact RefineL.refl _ _ | exact RL.nil | exact Rf.same | exact Rf.bs0 | exact Rf.sl0 | (apply Rf.fact; (focus (simp; done)); exact rfl) | apply Rf.tup | apply RL.cons)); (focus (intro _ _; simp [go_sem]; done)); (iterate 2 exact rfl))
         | (apply P_move; (iterate 3 exact rfl)) | (apply P_assign; (iterate 3 exact rfl)) | (apply P_loadpd; (iterate 5 exact rfl))
         | (apply P_cmp (b := true); (iterate 2 exact rfl); (focus (first | (simp [cmpI]; done) | (simp [cmpI]; omega))); (iterate 2 exact rfl))
         | (apply P_ar; (iterate 3 exact rfl); (focus omega); (focus omega); (iterate 2 exact rfl)) | (apply P_lensl; (iterate 4 exact rfl))
         | (apply P_index; (iterate 4 exact rfl); (focus (first | exact ⟨by decide, rfl⟩ | (refine ⟨by omega, ?_⟩; rw [Int.toNat_natCast]; assumption))); (iterate 2 exact rfl)) | apply EL.nil
         | ((with_reducible apply EK.then_normal); apply EK.code) | (apply EC.cond_true; exact rfl)
         | (with_reducible first | apply EC.seq | apply EC.region | apply EC.skip | apply EC.label | apply EC.block | apply EC.exit | apply EC.ret | apply EK.in_normal | apply EK.in_same | apply EK.in_ret | apply EK.then_ret | apply EK.then_exit))
      refine EK.again ⟨(i + 1, v, S), hlt, hS, Nat.le_trans hSl (Nat.mul_le_mul_right _ (Nat.le_succ i)), hall1⟩ (by dsimp only; omega) ?_
      simp only [Int.natCast_add]
      exact (Le.keep (by repeat first | exact trivial | refine ⟨rfl, ?_⟩) (by repeat first | exact List.nil_sublist _ | apply List.Sublist.cons_cons | apply List.Sublist.cons) (by simp))
  · have hie : i = ls.length := by omega
    repeat
      (first
       | (apply P_move; (iterate 3 exact rfl)) | (apply P_assign; (iterate 3 exact rfl))
       | (apply P_cmp (b := false); (iterate 2 exact rfl); (focus (first | (simp [cmpI]; done) | (simp [cmpI]; omega))); (iterate 2 exact rfl)) | (apply P_lensl; (iterate 4 exact rfl)) | apply EL.nil
       | ((with_reducible apply EK.then_normal); apply EK.code) | (apply EC.cond_false; exact rfl)
       | (with_reducible first | apply EC.seq | apply EC.region | apply EC.skip | apply EC.label | apply EC.block | apply EC.exit | apply EC.ret | apply EK.in_normal | apply EK.in_same | apply EK.in_ret | apply EK.then_ret | apply EK.then_exit))
    exact EK.retM1s [] rfl rfl (List.nil_sublist _) ⟨true, fun _ => ⟨S, hS, fun l hl he y hy => by
      obtain ⟨j, hj, rfl⟩ := List.getElem_of_mem hl
      exact hall j hj (by omega) he y hy⟩, rfl, rfl⟩
end E
end Go.Proofs.Ytmlajcbabimkjaa
/-
  Keccak in plain words: the sums of no bytes and of 'abc', round by round.
  Conditions: none. No program is named here. Printed by wip/tools/kechash.py.
-/
namespace Go.Proofs.Ytmlajcbabimkjaa.Kec
def ofL (l : List L) : St := fun k => l.getD k 0
def a0 : List L := [0x1, 0x0, 0x0, 0x0, 0x0, 0x0, 0x0, 0x0, 0x0, 0x0, 0x0, 0x0, 0x0, 0x0, 0x0, 0x0, 0x8000000000000000, 0x0, 0x0, 0x0, 0x0, 0x0, 0x0, 0x0, 0x0]
def a1 : List L := [0x40000000001, 0x100000000000, 0x40000008000, 0x0, 0x100000008000, 0x8, 0x300000200000, 0x1000000000000008, 0x300000000000, 0x1000000000200000, 0x2, 0x220, 0x40000, 0x202, 0x40020, 0x10000400, 0x1000004000, 0x400, 0x10004000, 0x1000000000, 0x2000010000000000, 0x20000000000, 0x10000000004, 0x2000020000000000, 0x4]
def a2 : List L := [0x36305230006404e6, 0x10c339b88b760106, 0x2c31260010309901, 0xb402598888e60461, 0x8ec12c0011141902, 0x479c441202162, 0xa9834204a1850002, 0x8002a96207243bf4, 0x2986b00442e20013, 0x88030ae2a44318c5, 0x40002504a452186c, 0x298438083b9f34, 0x14c09a8c9df0c04b, 0x382e3020480c46, 0x54d1819819b14311, 0x1bc065087388d40, 0x254056d141076300, 0x442c006724388184, 0x22881640e2122040, 0x425040a620050f84, 0x10250ab408141191, 0xea18c00a90a046e2, 0x2252e3040181054, 0xd800c8a408a061a1, 0x2218340ad024160e]
def a3 : List L := [0x7308cf19f675a28c, 0x24c8413593a231e3, 0x9f099d478b237977, 0x2ab7f95c8ac310b3, 0x8e28a10fc66873fc, 0x5d32e773b2b55c7d, 0x7d33980232045c83, 0xe28a2b70205085a5, 0xcc2cd7e324d2468e, 0xb74a863bf2536585, 0x5d369d3c79ba85a5, 0x22ed7119e3c4e384, 0x4bcc0c935097f374, 0x2e5dc77a860ca66f, 0x2dbeea71f1e35a7a, 0xc669dec7291539ab, 0x9f80d8ac374bb6cd, 0x91c77afe0262c26d, 0x2de8dbd4dcde6fb1, 0x46c24c7c739d6870, 0x783e0513afeccc1a, 0xa29ac517088ad63a, 0x1d20df7ecb8e7067, 0x655b7bf46aae9a3c, 0x43c735309c4e1439]
def a4 : List L := [0x7eec1012f66baee6, 0xe6d2e4458cac18a9, 0x5096c520535f288f, 0x5adf5824750696d5, 0x2867f1088b8fd658, 0xaccfdcb0bd9bcea8, 0x5fd9797e9164980, 0x44a2cbf947e16cee, 0xaceb2429db2cd55d, 0x6a48fc23515ee2a8, 0xb94607983d4705bf, 0x1b1bd3901a486275, 0xf1c146f6afe51ec3, 0x10de9de4ef506c58, 0x6ac0b280c3c395bb, 0xf97c5fbe14ff3bc6, 0x19cb20108c838c96, 0x982b0cf11854f22c, 0xd75032de9743a238, 0x27f400cc90c3447, 0xf2facacde688afb6, 0x682013742aa1e73d, 0xce5665bb2df4e84, 0x279226377095e8d6, 0x634646675441ce51]
def a5 : List L := [0x2ca78d1fb0a64dc7, 0x6450dd6a88cd74e3, 0x6cce78e37be7ccf9, 0x5f5144ba9082b898, 0x50bd6ebb1a526d89, 0x6b68cee4f00b096, 0x1d0fd475cb63df7b, 0xb871c02c5547e2ee, 0x54e2ff6b9c6e656e, 0xac2400ff8481b1e8, 0x484fb645561a4af9, 0x5b2d34b2fa6df33c, 0x85ee3ce0c5e41191, 0x19852566623a33e5, 0x5623446d9c77334d, 0xc0041cd3a2e7cde2, 0x268a41a57a642f48, 0x7f274ee5a657e34e, 0x23cb54ee34c79a96, 0x4087455b7b69c9a0, 0x3c4eee45f0e96635, 0xf60516babe614702, 0xdd5dc346837e8117, 0x14a0e647eb74e246, 0x6875306431036be1]
def a9 : List L := [0xe6793e2397506542, 0x1ddb637d149a8a06, 0x5b35a54e14bcffff, 0xcb5aa90388eba654, 0xa3a4bfc5a60473eb, 0x386aee2b513a1936, 0x6513d1f1219cb90f, 0xb8ec554e5f878440, 0x3580a2caed41269, 0x385bdf5eee3b532d, 0xd41099a6aef35b05, 0x262bc24121ebed31, 0x258932bf7f92e37d, 0x57cf2d18c4cd4f90, 0x1bf18ba20cfb0ba5, 0x9d56828b652f2b44, 0x8a1abfdf9d671216, 0xd32d5e80ee56ead9, 0x38c279ac8674cd62, 0x8e6b4f19f3ab9e48, 0xa101a4b68570f00b, 0x3646245c26b464b4, 0x1a0312ee4becc874, 0xcb1c53d72f8f5bde, 0xa5533594f4a600fc]
def a22 : List L := [0x67a6b668b7823e97, 0x6836c186c6896c37, 0x5228a82d35ea443d, 0x1147f1f0d89e6089, 0x9e61b976def8787e, 0x425268b17d929984, 0xbb647912c69e8767, 0x7dfe5dcd8c02e555, 0x7d8a497e88d5bc58, 0x1fa3ea82647afdfd, 0xd716262751ecd3f, 0xaddf2b6362a74ade, 0xd1ae1668ee1f7b6b, 0x22e411de1ce7ae26, 0xb573b3fa09ab1497, 0x8a84d26fc954382a, 0x97ac3379cd19e543, 0x95b0a4d5625a494a, 0x1e25db0b8cba4e17, 0xd342634463487e3b, 0x5ab2266e5f4f1133, 0x29ed02739defd2a4, 0x5ff62da7fb015c4a, 0xc488556b6dd3a215, 0x24b8bdcde0e9ebd8]
def b0 : List L := [0x1636261, 0x0, 0x0, 0x0, 0x0, 0x0, 0x0, 0x0, 0x0, 0x0, 0x0, 0x0, 0x0, 0x0, 0x0, 0x0, 0x8000000000000000, 0x0, 0x0, 0x0, 0x0, 0x0, 0x0, 0x0, 0x0]
def b1 : List L := [0x40001636261, 0x3626100000000016, 0x4b1b1308000, 0x436260, 0x362610b1b1308016, 0x8, 0x6c4c1c6c4c200024, 0x1000000000000008, 0x6c4c30000000002c, 0x10002c6c4c200000, 0x2c6c4c2, 0x2c6c4c220, 0x0, 0x2c40606c2, 0x40020, 0x1636239d898400, 0x1000004000, 0x58d898400, 0x16362610004000, 0x1000000000, 0x4362610000000001, 0x20000000000, 0x63626100058d8985, 0x2000020000000000, 0x58d8984]
def b2 : List L := [0xb6b21630dc026e64, 0x52ba4c56c5443c02, 0xded88d32d221a9bb, 0x535904cb1907aa56, 0xe991b3eb3a57a2ac, 0xeb855fc9f3e0a146, 0xc8dc57e61ea49e20, 0xc79089c798424af5, 0x27b647be0009fc0a, 0x744d8cf0e8f16279, 0x6f3510a79cc66f45, 0x1723ff0092b34376, 0x5e59853074605839, 0x918e737fd5e1ebc6, 0x94433808356fc6f1, 0x90a84b0c6728e506, 0xd4188ab88f232267, 0x2a670ca60fa64406, 0x11d916f3e7a3c06f, 0xac1fbeff27ca0496, 0xbca7ccc0ecc6a273, 0xd1aab11697c8054e, 0x870bd6f6841f1f6, 0x9326ada5ccef36e0, 0xd4ca5839a234e7ce]
def b3 : List L := [0xc61779d91d24b16d, 0x6cefc4cdde848952, 0xa15378cc82c99dd7, 0xaea845d98752cd7c, 0xfbd0cd045a2d2bcb, 0x8c48d4e2154cad66, 0xab8aec7f7604bc0f, 0x7c7274eaf4518220, 0xeb07e061a78e4bc6, 0x97066857e55a4bd, 0xad7721e6cca59f3c, 0x1e981ba123872c56, 0xf6b4e45d717e6b09, 0x9bdbc6096c8d2bc2, 0x5e24ae020cd1508a, 0x1c61295aa9750d20, 0x48ec4c90ba0816d1, 0x94121d34c7b4eb2c, 0xe2e3c08ce6a836da, 0xbd18315e115166f1, 0xa2657100b036c63a, 0x6bc8115a14660210, 0xae05dc7782050c51, 0xfd5982e51a3dc97f, 0xe3c3caa7f63fc4c]
def b4 : List L := [0xe0c2c79192c46b5, 0x5c76741a579886e1, 0x3a0180758acbf2ec, 0x2b459935eb34a4ae, 0xbc2d1c2ce932df28, 0xee8b9c4fdc46a6c0, 0xe1371e96fbaf5e5b, 0x2befb93d67f60fc2, 0xcb3c671c994edf25, 0x1bcc5eb3db7d9cba, 0x9f8f1c348c2bef4c, 0x4d6e61b6248ed041, 0xaf41a881e57332ef, 0xa3318d1b85e6baee, 0xd346917643b931df, 0xd8afef82fc4fdfac, 0x88553b2645021058, 0xa4a4c3fb8b5cfdc2, 0x182265eae5acd485, 0x7e838b9f32755c81, 0x320c917b3189056b, 0x1bc40b84fddc62e1, 0x83c91087c997ea27, 0xc8a268a4e77b364b, 0x6603c31ff29c66c]
theorem perm_congr {a b : St} (h : Same a b) : ∀ k, Same (perm a k) (perm b k)
  | 0 => h
  | k + 1 => round_same (perm_congr h k) (rc k)
end Go.Proofs.Ytmlajcbabimkjaa.Kec
