/-
  Merged (wip/tools/merge.py): BR7, TA1, TA2.
  Conditions: none.
-/
import Derived.Test.YtmlajcbabimkjaaGreatZA23
import Derived.Test.YtmlajcbabimkjaaGreatZA21
/-
  The reference's trie is the program's (plain).
  Conditions: none.
-/
namespace Go.Proofs.YtmlajcbabimkjaaGreat
set_option linter.unusedVariables false
open Go.RowKit Mono Rlp
namespace E
def dr (at_ : Nat) (x : Pr) : Pr := (x.1.drop at_, x.2)
theorem common_ge : ∀ (n : Nat) (a b : List UInt8), a.take n = b.take n → n ≤ a.length → n ≤ b.length → n ≤ common a b
  | 0, _, _, _, _, _ => Nat.zero_le _
  | n + 1, [], b, _, h, _ => by simp at h
  | n + 1, _ :: _, [], _, _, h => by simp at h
  | n + 1, x :: a, y :: b, e, h1, h2 => by
    simp only [List.take_succ_cons, List.cons.injEq] at e
    rw [common, if_pos e.1]
    have := common_ge n a b e.2 (by simpa using h1) (by simpa using h2)
    omega
theorem cmAll_ge (p : List UInt8) (c : Nat) : ∀ (l : List Pr) (m : Nat), c ≤ m → (∀ x ∈ l, c ≤ common p x.1) → c ≤ l.foldl (fun n x => if common p x.1 < n then common p x.1 else n) m
  | [], m, h, _ => h
  | y :: l, m, h, hl => by
    rw [List.foldl_cons]
    refine cmAll_ge p c l _ ?_ fun x hx => hl x (List.mem_cons_of_mem _ hx)
    split
    · exact hl y List.mem_cons_self
    · exact h
theorem take_min {a b : List UInt8} {n : Nat} (h : n ≤ common a b) : a.take n = b.take n ∧ n ≤ a.length ∧ n ≤ b.length := by
  obtain ⟨h1, h2, h3⟩ := common_take a b
  refine ⟨?_, by omega, by omega⟩
  have := congrArg (List.take n) h1
  rwa [List.take_take, List.take_take, Nat.min_eq_left h] at this
theorem cm_first {at_ : Nat} {L l : List Pr} (hR : Rise at_ L) (h0 : 0 < L.length) {a : Pr} {r : List Pr} (hl : l = a :: r) (hp : l.Perm (L.map (dr at_))) : cmAll a.1 r = common (L[0].1.drop at_) (L[L.length - 1].1.drop at_) := by
  obtain ⟨c, hc⟩ : ∃ c, common (L[0].1.drop at_) (L[L.length - 1].1.drop at_) = c := ⟨_, rfl⟩
  rw [hc]
  obtain ⟨c1, c2, c3⟩ := common_take (L[0].1.drop at_) (L[L.length - 1].1.drop at_)
  rw [hc] at c1 c2 c3
  have key : ∀ x ∈ L, (x.1.drop at_).take c = (L[0].1.drop at_).take c ∧ c ≤ (x.1.drop at_).length := fun x hx => by
    obtain ⟨i, hi, rfl⟩ := List.getElem_of_mem hx
    exact sandwich c _ _ _ (hR.leDrop h0 hi (Nat.zero_le _)) (hR.leDrop hi (by omega) (by omega)) c1 c2
  have keyl : ∀ z ∈ l, z.1.take c = (L[0].1.drop at_).take c ∧ c ≤ z.1.length := fun z hz => by
    obtain ⟨x, hx, rfl⟩ := List.mem_map.1 (hp.mem_iff.1 hz)
    exact key x hx
  have ha := keyl a (by rw [hl]; exact List.mem_cons_self)
  have h1 : c ≤ cmAll a.1 r := cmAll_ge a.1 c r a.1.length ha.2 fun x hx => by
    have hx' := keyl x (by rw [hl]; exact List.mem_cons_of_mem _ hx)
    exact common_ge c _ _ (ha.1.trans hx'.1.symm) ha.2 hx'.2
  have h2 := cmAll_le a.1 r a.1.length (Nat.le_refl _)
  change cmAll a.1 r ≤ a.1.length ∧ ∀ x ∈ r, cmAll a.1 r ≤ common a.1 x.1 at h2
  have h3 : ∀ z ∈ l, z.1.take (cmAll a.1 r) = a.1.take (cmAll a.1 r) ∧ cmAll a.1 r ≤ z.1.length := fun z hz => by
    rw [hl] at hz
    rcases List.mem_cons.1 hz with rfl | hz
    · exact ⟨rfl, h2.1⟩
    · obtain ⟨t1, t2, t3⟩ := take_min (h2.2 z hz)
      exact ⟨t1.symm, t3⟩
  have hf : dr at_ L[0] ∈ l := hp.mem_iff.2 (List.mem_map.2 ⟨_, List.getElem_mem h0, rfl⟩)
  have hla : dr at_ L[L.length - 1] ∈ l := hp.mem_iff.2 (List.mem_map.2 ⟨_, List.getElem_mem (by omega), rfl⟩)
  have h4 := h3 _ hf
  have h5 := h3 _ hla
  have h6 := common_ge (cmAll a.1 r) (L[0].1.drop at_) (L[L.length - 1].1.drop at_) (h4.1.trans h5.1.symm) h4.2 h5.2
  rw [hc] at h6
  omega
theorem bd_some {f : Nat} {L : List Pr} {at_ : Nat} (h : L ≠ []) : (bdF (f + 1) L at_).isNil = false := by
  match L, h with
  | [x], _ => rfl
  | x :: y :: r, _ =>
    rw [bdF]
    split
    · rfl
    · split <;> rfl
theorem rise_kid {at_ d : Nat} {L : List Pr} (h : Rise at_ L) (hl : ∀ z ∈ L, at_ < z.1.length) : Rise (at_ + 1) (L.filter fun z => (nibA at_ z).toNat == d) := by
  have hs := h.sub (List.filter_sublist (p := fun z : Pr => (nibA at_ z).toNat == d) (l := L))
  have hlg : ∀ z ∈ L.filter (fun z => (nibA at_ z).toNat == d), at_ < z.1.length := fun z hz => hl z (List.mem_filter.1 hz).1
  refine ⟨hs.ord, fun z hz => hlg z hz, fun x hx y hy => ?_, hs.nib⟩
  rw [List.take_add_one, List.take_add_one, hs.pre x hx y hy, nibA_get (hlg x hx), nibA_get (hlg y hy)]
  congr 1
  have h1 : (nibA at_ x).toNat = d := by simpa using (List.mem_filter.1 hx).2
  have h2 : (nibA at_ y).toNat = d := by simpa using (List.mem_filter.1 hy).2
  rw [UInt8.toNat_inj.1 (h1.trans h2.symm)]
theorem headD_dr {at_ d : Nat} {x : Pr} (h : at_ < x.1.length) : headD d (dr at_ x) = ((nibA at_ x).toNat == d) := by
  unfold dr headD nibA
  dsimp only
  rw [List.drop_eq_getElem_cons h, List.getD_eq_getElem?_getD, List.getElem?_eq_getElem h]
  rfl
theorem headD_end {at_ d : Nat} {x : Pr} (h : x.1.length ≤ at_) : headD d (dr at_ x) = false := by
  unfold dr headD
  dsimp only
  rw [List.drop_eq_nil_of_le h]
theorem valE_none : ∀ (l : List Pr) (v : List UInt8), (∀ x ∈ l, x.1.isEmpty = false) → l.foldl (fun v x => if x.1.isEmpty then x.2 else v) v = v
  | [], v, _ => rfl
  | x :: l, v, h => by
    rw [List.foldl_cons, if_neg (by rw [h x List.mem_cons_self]; decide)]
    exact valE_none l v fun y hy => h y (List.mem_cons_of_mem _ hy)
theorem valE_some : ∀ (l : List Pr) (v w : List UInt8), (∀ x ∈ l, x.1.isEmpty = true → x.2 = w) → (v = w ∨ ∃ x ∈ l, x.1.isEmpty = true) → l.foldl (fun v x => if x.1.isEmpty then x.2 else v) v = w
  | [], v, w, _, h => by
    rcases h with h | ⟨x, hx, _⟩
    · exact h
    · cases hx
  | x :: l, v, w, h1, h2 => by
    rw [List.foldl_cons]
    refine valE_some l _ w (fun y hy => h1 y (List.mem_cons_of_mem _ hy)) ?_
    cases he : x.1.isEmpty with
    | true =>
      rw [if_pos rfl]
      exact .inl (h1 x List.mem_cons_self he)
    | false =>
      rw [if_neg (by decide)]
      rcases h2 with h2 | ⟨y, hy, h2⟩
      · exact .inl h2
      · rcases List.mem_cons.1 hy with rfl | hy
        · rw [he] at h2
          cases h2
        · exact .inr ⟨y, hy, h2⟩
theorem dr_dr (n at_ : Nat) (L : List Pr) : restP n (L.map (dr at_)) = L.map (dr (at_ + n)) := by
  unfold restP
  rw [List.map_map]
  refine List.map_congr_left fun x _ => ?_
  unfold dr
  dsimp only [Function.comp_apply]
  rw [List.drop_drop]
theorem kid_perm {at_ d : Nat} {l L : List Pr} (hp : l.Perm (L.map (dr at_))) : (kidE d l).Perm ((L.filter fun x => headD d (dr at_ x)).map (dr (at_ + 1))) := by
  have h1 : (l.filter (headD d)).Perm ((L.map (dr at_)).filter (headD d)) := hp.filter _
  rw [List.filter_map] at h1
  have h2 := h1.map (fun x : Pr => (x.1.drop 1, x.2))
  have h3 := dr_dr 1 at_ (L.filter fun x => headD d (dr at_ x))
  unfold restP at h3
  rw [← h3]
  exact h2
theorem itemT_leafG (p v : List UInt8) : itemT (.leaf p v) = .mk true [] [.mk false (ppk p true) [], .mk false v []] := rfl
theorem itemT_extG (p : List UInt8) (k : Tn) : itemT (.ext p k) = .mk true [] [.mk false (ppk p false) [], refT k] := rfl
theorem refE_nil (x : Raw) : refE [] x = .mk false [] [] := rfl
theorem refE_some {l : List Pr} (x : Raw) (h : l.isEmpty = false) : refE l x = refI x := by
  unfold refE
  rw [h, if_neg (by decide)]
theorem refT_nilG : refT .nil = .mk false [] [] := rfl
theorem refT_some {t : Tn} (h : t.isNil = false) : refT t = refI (itemT t) := by
  unfold refT
  rw [h, if_neg (by decide)]
theorem node_law : ∀ (f : Nat) (l L : List Pr) (at_ : Nat), l.Perm (L.map (dr at_)) → Rise at_ L → L ≠ [] → (∀ x ∈ L, x.1.length < at_ + f) → nodeR f l = itemT (bdF f L at_)
  | 0, l, L, at_, _, hR, hn, hf => by
    cases L with
    | nil => exact absurd rfl hn
    | cons x r =>
      have h1 := hf x List.mem_cons_self
      have h2 := hR.len x List.mem_cons_self
      omega
  | f + 1, l, L, at_, hp, hR, hn, hf => by
    match L, hn with
    | [X], _ =>
      rw [List.perm_singleton.1 hp, bd_one, nodeR, itemT_leafG]
      rfl
    | X :: Y :: R, _ =>
      have hll := hp.length_eq
      rw [List.length_map] at hll
      match l, hll with
      | a :: b :: r, _ =>
        obtain ⟨M, hM⟩ : ∃ M, X :: Y :: R = M := ⟨_, rfl⟩
        have hM0 : X ∈ M := by rw [← hM]; exact List.mem_cons_self
        have hMl : 1 < M.length := by rw [← hM]; simp
        rw [hM] at hp hR hf ⊢
        have h00 : 0 < M.length := by omega
        have hfst : M[0] = X := by simp [← hM]
        have hcm := cm_first hR h00 rfl hp
        have hmem : ∀ z ∈ a :: b :: r, ∃ x ∈ M, z = dr at_ x := fun z hz => by
          obtain ⟨x, hx, rfl⟩ := List.mem_map.1 (hp.mem_iff.1 hz)
          exact ⟨x, hx, rfl⟩
        rw [nodeR]
        by_cases hc : common (M[0].1.drop at_) (M[M.length - 1].1.drop at_) > 0
        · rw [if_pos (by rw [hcm]; exact hc), hcm, bd_ext f at_ M hMl hc]
          have hR2 := hR.more h00 rfl
          have ht : a.1.take (common (M[0].1.drop at_) (M[M.length - 1].1.drop at_)) = (M[0].1.drop at_).take (common (M[0].1.drop at_) (M[M.length - 1].1.drop at_)) := by
            obtain ⟨x, hx, e⟩ := hmem a List.mem_cons_self
            rw [e]
            obtain ⟨i, hi, rfl⟩ := List.getElem_of_mem hx
            obtain ⟨c1, c2, c3⟩ := common_take (M[0].1.drop at_) (M[M.length - 1].1.drop at_)
            exact (sandwich _ _ _ _ (hR.leDrop h00 hi (Nat.zero_le _)) (hR.leDrop hi (by omega) (by omega)) c1 c2).1
          have hrp : (restP (common (M[0].1.drop at_) (M[M.length - 1].1.drop at_)) (a :: b :: r)).Perm (M.map (dr (at_ + common (M[0].1.drop at_) (M[M.length - 1].1.drop at_)))) := by
            rw [← dr_dr]
            exact hp.map _
          rw [ht]
          generalize common (M[0].1.drop at_) (M[M.length - 1].1.drop at_) = c at *
          have hMn : M ≠ [] := fun e => by rw [e] at h00; exact absurd h00 (Nat.lt_irrefl _)
          have hlt := hf X hM0
          have hle := hR2.len X hM0
          obtain ⟨f', rfl⟩ : ∃ f', f = f' + 1 := ⟨f - 1, by omega⟩
          have ih := node_law (f' + 1) _ M (at_ + c) hrp hR2 hMn fun x hx => by have := hf x hx; omega
          rw [ih, itemT_extG, refT_some (bd_some hMn), refE_some _ (show (restP c (a :: b :: r)).isEmpty = false from rfl)]
        · rw [if_neg (by rw [hcm]; exact hc)]
          have kid : ∀ (d : Nat) (M' : List Pr), Rise at_ M' → (∀ z ∈ M', at_ < z.1.length) → (∀ z ∈ M', z ∈ M) → M.filter (fun x => headD d (dr at_ x)) = M'.filter (fun z => (nibA at_ z).toNat == d) → refE (kidE d (a :: b :: r)) (nodeR f (kidE d (a :: b :: r))) = refT (bdF f (M'.filter fun z => (nibA at_ z).toNat == d) (at_ + 1)) := by
            intro d M' hR' hl' hsub hfe
            have hkp := kid_perm (d := d) hp
            rw [hfe] at hkp
            by_cases hne : M'.filter (fun z => (nibA at_ z).toNat == d) = []
            · rw [hne] at hkp ⊢
              rw [bd_nil, List.Perm.eq_nil hkp, refE_nil, refT_nilG]
            · have hkn : (kidE d (a :: b :: r)).isEmpty = false := by
                cases hk : kidE d (a :: b :: r) with
                | nil =>
                  rw [hk] at hkp
                  exact absurd (List.map_eq_nil_iff.1 (List.Perm.eq_nil hkp.symm)) hne
                | cons _ _ => rfl
              have hex : ∃ z, z ∈ M'.filter (fun z => (nibA at_ z).toNat == d) := List.exists_mem_of_ne_nil _ hne
              obtain ⟨z, hz⟩ := hex
              have hz' := (List.mem_filter.1 hz).1
              have := hl' z hz'
              have := hf z (hsub z hz')
              obtain ⟨f', rfl⟩ : ∃ f', f = f' + 1 := ⟨f - 1, by omega⟩
              have ih := node_law (f' + 1) _ _ (at_ + 1) hkp (rise_kid hR' hl') hne fun x hx => by
                have := hf x (hsub x (List.mem_filter.1 hx).1)
                omega
              rw [ih, refE_some _ hkn, refT_some (bd_some hne)]
          by_cases h0 : (M[0].1.drop at_).length = 0
          · rw [bd_br0 f at_ M hMl hc h0]
            have hX : X.1.length ≤ at_ := by
              rw [hfst, List.length_drop] at h0
              omega
            have htl : M.tail = Y :: R := by rw [← hM]; rfl
            have hRX : Rise at_ (X :: Y :: R) := by rw [hM]; exact hR
            have hlong : ∀ z ∈ Y :: R, at_ < z.1.length := fun z hz => hRX.longer hz
            have hRt : Rise at_ (Y :: R) := hRX.sub (List.sublist_cons_self _ _)
            rw [htl, itemT_brG]
            refine congrArg (Raw.mk true []) ?_
            have hval : valE (a :: b :: r) = M[0].2 := by
              refine valE_some _ [] _ (fun z hz he => ?_) (.inr ?_)
              · obtain ⟨x, hx, rfl⟩ := hmem z hz
                rw [← hM] at hx
                rcases List.mem_cons.1 hx with rfl | hx
                · rw [hfst]
                  rfl
                · have := hlong x hx
                  unfold dr at he
                  dsimp only at he
                  rw [List.isEmpty_iff, List.drop_eq_nil_iff] at he
                  omega
              · refine ⟨dr at_ X, hp.mem_iff.2 (List.mem_map.2 ⟨X, hM0, rfl⟩), ?_⟩
                unfold dr
                dsimp only
                rw [List.drop_eq_nil_of_le hX]
                rfl
            rw [hval]
            refine congrArg (· ++ [Raw.mk false M[0].2 []]) (List.map_congr_left fun d _ => ?_)
            refine kid d (Y :: R) hRt hlong (fun z hz => by rw [← hM]; exact List.mem_cons_of_mem _ hz) ?_
            rw [← hM, List.filter_cons_of_neg (by rw [headD_end hX]; decide)]
            exact List.filter_congr fun z hz => headD_dr (hlong z hz)
          · rw [bd_br1 f at_ M hMl hc h0]
            have hX : at_ < X.1.length := by
              rw [hfst, List.length_drop] at h0
              omega
            have hlong : ∀ z ∈ M, at_ < z.1.length := all_long hR h00 (by rw [hfst]; exact hX)
            rw [itemT_brG]
            refine congrArg (Raw.mk true []) ?_
            have hval : valE (a :: b :: r) = [] := valE_none _ _ fun z hz => by
              obtain ⟨x, hx, rfl⟩ := hmem z hz
              have := hlong x hx
              unfold dr
              dsimp only
              rw [List.drop_eq_getElem_cons this]
              rfl
            rw [hval]
            refine congrArg (· ++ [Raw.mk false [] []]) (List.map_congr_left fun d _ => ?_)
            exact kid d M hR hlong (fun z hz => hz) (List.filter_congr fun z hz => headD_dr (hlong z hz))
theorem rootR_eq (l : List Pr) : rootR l = rootP l := by
  unfold rootR rootP
  by_cases he : errP l = 0
  · rw [if_neg (by rw [he]; decide), if_pos he]
    cases l with
    | nil =>
      rw [if_pos (show ([] : List Pr).isEmpty = true from rfl)]
      unfold treeT sumT
      rw [show srt (([] : List Pr).map sp) = [] from List.Perm.eq_nil (srt_perm _), bd_nil, if_pos (show Tn.nil.isNil = true from rfl)]
    | cons x r =>
      rw [if_neg (show ¬ ((x :: r).isEmpty = true) from Bool.false_ne_true)]
      obtain ⟨_, hlg, hnd⟩ := pairsF_ok he
      have hp : ((x :: r).map sp).Perm ((srt ((x :: r).map sp)).map (dr 0)) := by
        have h0 : (srt ((x :: r).map sp)).map (dr 0) = srt ((x :: r).map sp) := (List.map_congr_left fun x _ => rfl).trans (List.map_id _)
        rw [h0]
        exact (srt_perm _).symm
      have hne : srt ((x :: r).map sp) ≠ [] := fun e => by
        have := (srt_perm ((x :: r).map sp)).length_eq
        rw [e] at this
        simp at this
      have h := node_law 200 _ _ 0 hp (rise_srt hnd) hne fun z hz => by
        obtain ⟨y, hy, rfl⟩ := List.mem_map.1 ((srt_perm _).mem_iff.1 hz)
        have := not_long hlg hy
        show (split y.1).length < _
        rw [split_length]
        omega
      rw [h]
      unfold treeT sumT
      rw [bd_some (f := 199) hne, if_neg (by decide)]
  · rw [if_pos he, if_neg he]
end E
end Go.Proofs.YtmlajcbabimkjaaGreat
/-
  acct.SlotPairs, acct.Slots.
  Conditions: none.
-/
namespace Go.Proofs.YtmlajcbabimkjaaGreat
set_option linter.unusedVariables false
open Go.RowKit Mono Rlp
namespace E
def dSlP (x : Pr) : D := .tup [.arr 32 x.1, .arr 32 x.2]
def slP (s : Pr) : Option Pr := if s.2 = zero32 then none else some (hash s.1, pkB (.mk false (strip s.2) []))
def spR (l : List Pr) : R := if (l.map (·.1)).Nodup then .tpl [.sl 2 ((l.filterMap slP).map dPr), .v (.int .i64 0)] else .tpl [.v (.slice none 0 0), .v (.int .i64 1)]
theorem pkB_word {v : List UInt8} (h : v.length = 32) : packed (.mk false (strip v) []) = some (pkB (.mk false (strip v) [])) := by
  have := packed_ok (x := .mk false (strip v) []) (by rw [deepR]; omega) (by
    rw [Rlp.E]
    have := EB_short (strip v) (by have := strip_length v; omega)
    simp only [most]
    omega)
  unfold pkB
  rw [this]
  rfl
set_option maxRecDepth 20000 in
set_option maxHeartbeats 8000000 in
theorem f_slotPairs (l : List Pr) (hs : ∀ s ∈ l, s.1.length = 32 ∧ s.2.length = 32) (hlen : l.length ≤ 1000000) : Fn 63 [.sl 64 (l.map dSlP)] (· = spR l) := by
  unfold spR
  have hl : (l.map dSlP).length = l.length := by rw [List.length_map]
  refine Fn.walk 48 Tryz.func63 rfl Tryz.ntmps63 (by simp) fun X => ?_
  repeat
    (first
     | (apply P_move; (iterate 3 exact rfl)) | (apply P_assign; (iterate 3 exact rfl)) | (apply P_lensl; (iterate 4 exact rfl)) | (apply P_makeMap; exact rfl; exact rfl; exact rfl; intro _) | apply EL.nil
     | ((with_reducible apply EK.then_normal); apply EK.code)
     | (with_reducible first | apply EC.seq | apply EC.region | apply EC.skip | apply EC.label | apply EC.block | apply EC.exit | apply EC.ret | apply EK.in_normal | apply EK.in_same | apply EK.in_ret | apply EK.then_ret | apply EK.then_exit))
  rename_i gm
  refine EC.le (Le.row 72 2) ?_
  refine EC.loop (ι := {p : Value × Nat × Nat × List Ent // p.2.1 ≤ l.length ∧ ((l.take p.2.1).map (·.1)).Nodup ∧ ∀ k, getE p.2.2.2 k = if k ∈ (l.take p.2.1).map (·.1) then some (.v (.bool true)) else none})
    (fun p => ⟨[(14, .val (.v (.int .i64 (p.1.2.1 : Int)))), (13, .val (.v (.int .i64 ((l.map dSlP).length : Int)))), (12, .val (.sl 64 (l.map dSlP))), (5, .val (.v p.1.1)), (4, .val (.v (.map (some gm))))],
      [.row p.1.1 72 2 (((l.take p.1.2.1).filterMap slP).map dPr), .map gm 32 p.1.2.2.1 p.1.2.2.2], []⟩)
    (fun p => l.length - p.1.2.1) ⟨(.slice none 0 0, 0, 0, []), Nat.zero_le _, by simp, fun k => by simp [getE]⟩ ?_ ?_
  · exact (Le.keep (by repeat first | exact trivial | refine ⟨rfl, ?_⟩) (by repeat first | exact List.nil_sublist _ | apply List.Sublist.cons_cons | apply List.Sublist.cons) (by simp))
  rintro ⟨⟨rv, n, c, es⟩, hn, hnd, hes⟩
  dsimp only at hn hnd hes ⊢
  by_cases hlt : n < l.length
  · have hat : (l.map dSlP)[n]? = some (.tup [.arr 32 l[n].1, .arr 32 l[n].2]) := by rw [List.getElem?_map, List.getElem?_eq_getElem hlt]; rfl
    obtain ⟨hk, hv⟩ := hs _ (List.getElem_mem hlt)
    have hget := hes l[n].1
    by_cases hin : l[n].1 ∈ (l.take n).map (·.1)
    · rw [if_pos hin] at hget
      have hg2 : (getE es l[n].1).getD (.v (.bool false)) = .v (.bool true) := by rw [hget]; rfl
      repeat
        (first
         | (apply P_lookup; exact hg2; exact rfl; (first | exact I0 | exact I1 | exact I2 | exact I3); (iterate 5 exact rfl)) | (apply P_move; (iterate 3 exact rfl)) | (apply P_assign; (iterate 3 exact rfl))
         | (apply P_field; (iterate 6 exact rfl)) | (apply P_loadpd; (iterate 5 exact rfl))
         | (apply P_load; exact rfl; (first | exact I0 | exact I1 | exact I2 | exact I3 | exact I4 | exact I5 | exact I6); (iterate 4 exact rfl))
         | (apply P_cmp (b := true); (iterate 2 exact rfl); (focus (first | (simp [cmpI]; done) | (simp [cmpI]; omega))); (iterate 2 exact rfl))
         | (apply P_index; (iterate 4 exact rfl); (focus (first | exact ⟨by decide, rfl⟩ | (refine ⟨by omega, ?_⟩; rw [Int.toNat_natCast]; assumption))); (iterate 2 exact rfl))
         | (apply P_alloc; exact rfl; exact rfl; exact rfl; intro _) | (apply P_store; exact rfl; (focus (repeat first | exact .z | apply SetAt.s | apply SetAtF.s)); (iterate 4 exact rfl)) | apply EL.nil
         | ((with_reducible apply EK.then_normal); apply EK.code) | (apply EC.cond_true; exact rfl)
         | (with_reducible first | apply EC.seq | apply EC.region | apply EC.skip | apply EC.label | apply EC.block | apply EC.exit | apply EC.ret | apply EK.in_normal | apply EK.in_same | apply EK.in_ret | apply EK.then_ret | apply EK.then_exit))
      refine EK.ret2 rfl rfl rfl ?_
      rw [if_neg]
      intro h
      obtain ⟨j, hj, e⟩ := List.getElem_of_mem hin
      rw [List.length_map, List.length_take] at hj
      rw [List.getElem_map, List.getElem_take] at e
      have := (List.getElem_inj (h₀ := by rw [List.length_map]; omega) (h₁ := by rw [List.length_map]; exact hlt) h (i := j) (j := n)).1 (by simpa using e)
      omega
    · rw [if_neg hin] at hget
      have hg2 : (getE es l[n].1).getD (.v (.bool false)) = .v (.bool false) := by rw [hget]; rfl
      have hnd2 : ((l.take (n + 1)).map (·.1)).Nodup := by
        rw [List.take_succ_eq_append_getElem hlt, List.map_append]
        refine List.nodup_append.2 ⟨hnd, by simp, fun a ha b hb e => ?_⟩
        obtain rfl : b = l[n].1 := by simpa using hb
        exact hin (e ▸ ha)
      have hes2 : ∀ k, getE (putE c es l[n].1 (.v (.bool true))) k = if k ∈ (l.take (n + 1)).map (·.1) then some (.v (.bool true)) else none := fun k => by
        rw [getE_putE, hes k, List.take_succ_eq_append_getElem hlt, List.map_append]
        by_cases hk2 : l[n].1 = k
        · rw [if_pos hk2, if_pos (by rw [← hk2]; simp)]
        · rw [if_neg hk2]
          by_cases hm : k ∈ (l.take n).map (·.1)
          · rw [if_pos hm, if_pos (List.mem_append_left _ hm)]
          · rw [if_neg hm, if_neg fun h => ?_]
            rcases List.mem_append.1 h with h | h
            · exact hm h
            · exact hk2 (by simpa using h : k = l[n].1).symm
      have hb := (bin_word l[n].2 zero32).1
      by_cases hz : l[n].2 = zero32
      · rw [show (l[n].2 == zero32) = true by simpa using hz] at hb
        repeat
          (first
           | (apply P_lookup; exact hg2; exact rfl; (first | exact I0 | exact I1 | exact I2 | exact I3); (iterate 5 exact rfl); refine EL.le (Le.pin (p := 7) (pre := []) rfl rfl) ?_; simp only [List.nil_append])
           | (apply P_bin; (iterate 2 exact rfl); exact hb; (iterate 2 exact rfl)) | (apply P_move; (iterate 3 exact rfl)) | (apply P_field; (iterate 6 exact rfl)) | (apply P_fieldpd; (iterate 7 exact rfl))
           | (apply P_loadpd; (iterate 5 exact rfl)) | (apply P_load; exact rfl; (first | exact I0 | exact I1 | exact I2 | exact I3 | exact I4 | exact I5 | exact I6); (iterate 4 exact rfl))
           | (apply P_cmp (b := true); (iterate 2 exact rfl); (focus (first | (simp [cmpI]; done) | (simp [cmpI]; omega))); (iterate 2 exact rfl))
           | (apply P_ar; (iterate 3 exact rfl); (focus omega); (focus omega); (iterate 2 exact rfl))
           | (apply P_index; (iterate 4 exact rfl); (focus (first | exact ⟨by decide, rfl⟩ | (refine ⟨by omega, ?_⟩; rw [Int.toNat_natCast]; assumption))); (iterate 2 exact rfl))
           | (apply P_build0; (iterate 5 exact rfl)) | (apply P_mapUpd; exact rfl; (focus (repeat first | exact .z | apply SetAt.s | apply SetAtF.s)); (iterate 4 exact rfl))
           | (apply P_alloc; exact rfl; exact rfl; exact rfl; intro _) | (apply P_store; exact rfl; (focus (repeat first | exact .z | apply SetAt.s | apply SetAtF.s)); (iterate 4 exact rfl)) | apply EL.nil
           | ((with_reducible apply EK.then_normal); apply EK.code) | (apply EC.cond_true; exact rfl) | (apply EC.cond_false; exact rfl)
           | (with_reducible first | apply EC.seq | apply EC.region | apply EC.skip | apply EC.label | apply EC.block | apply EC.exit | apply EC.ret | apply EK.in_normal | apply EK.in_same | apply EK.in_ret | apply EK.then_ret | apply EK.then_exit))
        refine EK.again ⟨(rv, n + 1, tickE c es l[n].1, putE c es l[n].1 (.v (.bool true))), hlt, hnd2, hes2⟩ (by dsimp only; omega) ?_
        dsimp only
        rw [List.take_succ_eq_append_getElem hlt, List.filterMap_append, show [l[n]].filterMap slP = [] by simp [slP, hz], List.append_nil]
        simp only [Int.natCast_add]
        exact (Le.keep (by repeat first | exact trivial | refine ⟨rfl, ?_⟩) (by repeat first | exact List.nil_sublist _ | apply List.Sublist.cons_cons | apply List.Sublist.cons) (by simp))
      · rw [show (l[n].2 == zero32) = false by simpa using hz] at hb
        have h1 := f_kSum1 l[n].1
        have h2 := f_Big l[n].2 hv
        have h3 := f_Pack (.mk false (strip l[n].2) [])
        rw [pkB_word hv] at h3
        repeat
          (first
           | (apply P_lookup; exact hg2; exact rfl; (first | exact I0 | exact I1 | exact I2 | exact I3); (iterate 5 exact rfl); refine EL.le (Le.pin (p := 7) (pre := []) rfl rfl) ?_; simp only [List.nil_append])
           | (apply P_bin; (iterate 2 exact rfl); exact hb; (iterate 2 exact rfl))
           | (apply P_call (h1); exact rfl; (focus (repeat first | exact RefineL.refl _ _ | exact RL.nil | exact Rf.same | exact Rf.bs0 | exact Rf.sl0 | (apply Rf.fact; (focus (simp; done)); exact rfl) | apply Rf.tup | apply RL.cons)); (focus (intro _ _; simp [go_sem]; done)); (iterate 2 exact rfl))
           | (apply P_call (h2); exact rfl; (focus (repeat first | exact RefineL.refl _ _ | exact RL.nil | exact Rf.same | exact Rf.bs0 | exact Rf.sl0 | (apply Rf.fact; (focus (simp; done)); exact rfl) | apply Rf.tup | apply RL.cons)); (focus (intro _ _; simp [go_sem]; done)); (iterate 2 exact rfl))
           | (apply P_call (h3); exact rfl; (focus (repeat first | exact RefineL.refl _ _ | exact RL.nil | exact Rf.same | exact Rf.bs0 | exact Rf.sl0 | (apply Rf.fact; (focus (simp; done)); exact rfl) | apply Rf.tup | apply RL.cons)); (focus (intro _ _; simp [go_sem]; done)); (iterate 2 exact rfl))
           | (apply P_slpd sl_word; (iterate 6 exact rfl)) | (apply P_move; (iterate 3 exact rfl)) | (apply P_assign; (iterate 3 exact rfl)) | (apply P_field; (iterate 6 exact rfl))
           | (apply P_fieldpd; (iterate 7 exact rfl)) | (apply P_extract; (iterate 4 exact rfl)) | (apply P_loadpd; (iterate 5 exact rfl))
           | (apply P_load; exact rfl; (first | exact I0 | exact I1 | exact I2 | exact I3 | exact I4 | exact I5 | exact I6); (iterate 4 exact rfl))
           | (apply P_cmp (b := true); (iterate 2 exact rfl); (focus (first | (simp [cmpI]; done) | (simp [cmpI]; omega))); (iterate 2 exact rfl))
           | (apply P_index; (iterate 4 exact rfl); (focus (first | exact ⟨by decide, rfl⟩ | (refine ⟨by omega, ?_⟩; rw [Int.toNat_natCast]; assumption))); (iterate 2 exact rfl))
           | (apply P_build0; (iterate 5 exact rfl)) | (apply P_lit; (iterate 9 exact rfl)) | (apply P_mapUpd; exact rfl; (focus (repeat first | exact .z | apply SetAt.s | apply SetAtF.s)); (iterate 4 exact rfl))
           | (apply P_alloc; exact rfl; exact rfl; exact rfl; intro _) | (apply P_store; exact rfl; (focus (repeat first | exact .z | apply SetAt.s | apply SetAtF.s)); (iterate 4 exact rfl)) | apply EL.nil
           | ((with_reducible apply EK.then_normal); apply EK.code) | (apply EC.cond_true; exact rfl) | (apply EC.cond_false; exact rfl)
           | (with_reducible first | apply EC.seq | apply EC.region | apply EC.skip | apply EC.label | apply EC.block | apply EC.exit | apply EC.ret | apply EK.in_normal | apply EK.in_same | apply EK.in_ret | apply EK.then_ret | apply EK.then_exit))
        refine EL.le (Le.pin (p := 8) (pre := []) rfl rfl) ?_
        simp only [List.nil_append]
        have hfl : ((l.take n).filterMap slP).length ≤ 1000000 := Nat.le_trans (List.length_filterMap_le _ _) (by rw [List.length_take]; omega)
        repeat
          (first
           | (apply P_slpd sl_word; (iterate 6 exact rfl)) | (apply P_move; (iterate 3 exact rfl)) | (apply P_assign; (iterate 3 exact rfl))
           | (apply P_ar; (iterate 3 exact rfl); (focus omega); (focus omega); (iterate 2 exact rfl)) | (apply P_build; (iterate 7 exact rfl)) | (apply P_lit; (iterate 9 exact rfl))
           | ((apply P_append; exact rfl; (focus (repeat first | exact .z | apply SetAt.s | apply SetAtF.s)); (iterate 5 exact rfl); (focus (constructor <;> (first | (simp; done) | (simp; omega))))); intro _)
           | apply EL.nil | ((with_reducible apply EK.then_normal); apply EK.code)
           | (with_reducible first | apply EC.seq | apply EC.region | apply EC.skip | apply EC.label | apply EC.block | apply EC.exit | apply EC.ret | apply EK.in_normal | apply EK.in_same | apply EK.in_ret | apply EK.then_ret | apply EK.then_exit))
        rename_i v'
        refine EK.again ⟨(v', n + 1, tickE c es l[n].1, putE c es l[n].1 (.v (.bool true))), hlt, hnd2, hes2⟩ (by dsimp only; omega) ?_
        dsimp only
        rw [List.take_succ_eq_append_getElem hlt, List.filterMap_append, show [l[n]].filterMap slP = [(hash l[n].1, pkB (.mk false (strip l[n].2) []))] by simp [slP, hz], List.map_append]
        simp only [Int.natCast_add]
        exact (Le.keep (by repeat first | exact trivial | refine ⟨rfl, ?_⟩) (by repeat first | exact List.nil_sublist _ | apply List.Sublist.cons_cons | apply List.Sublist.cons) (by simp))
  · obtain rfl : n = l.length := by omega
    rw [List.take_length] at hnd
    have htl : (l.take l.length).filterMap slP = l.filterMap slP := by rw [List.take_length]
    rw [htl]
    refine EC.le (Le.freeze (pre := []) rfl) ?_
    simp only [List.nil_append]
    repeat
      (first
       | (apply P_move; (iterate 3 exact rfl)) | (apply P_assign; (iterate 3 exact rfl))
       | (apply P_cmp (b := false); (iterate 2 exact rfl); (focus (first | (simp [cmpI]; done) | (simp [cmpI]; omega))); (iterate 2 exact rfl)) | apply EL.nil
       | ((with_reducible apply EK.then_normal); apply EK.code) | (apply EC.cond_false; exact rfl)
       | (with_reducible first | apply EC.seq | apply EC.region | apply EC.skip | apply EC.label | apply EC.block | apply EC.exit | apply EC.ret | apply EK.in_normal | apply EK.in_same | apply EK.in_ret | apply EK.then_ret | apply EK.then_exit))
    refine EK.ret2r rfl rfl rfl ?_ (by rw [if_pos hnd])
    (repeat first | exact RefineL.refl _ _ | exact RL.nil | exact Rf.same | exact Rf.bs0 | exact Rf.sl0 | (apply Rf.fact; (focus (simp; done)); exact rfl) | apply Rf.tup | apply RL.cons)
end E
end Go.Proofs.YtmlajcbabimkjaaGreat
/-
  acct.Slots, acct.Pairs, acct.Root.
  Conditions: none.
-/
namespace Go.Proofs.YtmlajcbabimkjaaGreat
set_option linter.unusedVariables false
open Go.RowKit Mono Rlp
namespace E
def slE2 (l : List Pr) : Nat := if (l.map (·.1)).Nodup then errP (l.filterMap slP) else 1
def slRoot (l : List Pr) : List UInt8 := if (l.map (·.1)).Nodup then rootP (l.filterMap slP) else zero32
theorem sum_length (t : Tn) : (sumT t).length = 32 := by
  unfold sumT
  split
  · exact hash_length _
  · exact hash_length _
theorem rootP_length (l : List Pr) : (rootP l).length = 32 := by
  unfold rootP
  split
  · exact sum_length _
  · exact zero32_length
theorem slRoot_length (l : List Pr) : (slRoot l).length = 32 := by
  unfold slRoot
  split
  · exact rootP_length _
  · exact zero32_length
set_option maxRecDepth 20000 in
set_option maxHeartbeats 4000000 in
theorem f_Slots (l : List Pr) (hs : ∀ s ∈ l, s.1.length = 32 ∧ s.2.length = 32) (hlen : l.length ≤ 1000000) : Fn 38 [.sl 64 (l.map dSlP)] (· = .tpl [.arr 32 (slRoot l), .v (.int .i64 (slE2 l : Int))]) := by
  have h1 := f_slotPairs l hs hlen
  have h2 := f_Root (l.filterMap slP)
  unfold spR at h1
  unfold slRoot slE2
  refine Fn.walk 19 Tryz.func38 rfl Tryz.ntmps38 (by simp) fun X => ?_
  by_cases hn : (l.map (·.1)).Nodup
  · rw [if_pos hn] at h1
    rw [if_pos hn, if_pos hn]
    repeat
      (first
       | (apply P_call (h1); exact rfl; (focus (repeat first | exact RefineL.refl _ _ | exact RL.nil | exact Rf.same | exact Rf.bs0 | exact Rf.sl0 | (apply Rf.fact; (focus (simp; done)); exact rfl) | apply Rf.tup | apply RL.cons)); (focus (intro _ _; simp [go_sem]; done)); (iterate 2 exact rfl))
       | (apply P_call (h2); exact rfl; (focus (repeat first | exact RefineL.refl _ _ | exact RL.nil | exact Rf.same | exact Rf.bs0 | exact Rf.sl0 | (apply Rf.fact; (focus (simp; done)); exact rfl) | apply Rf.tup | apply RL.cons)); (focus (intro _ _; simp [go_sem]; done)); (iterate 2 exact rfl))
       | (apply P_move; (iterate 3 exact rfl)) | (apply P_assign; (iterate 3 exact rfl)) | (apply P_extract; (iterate 4 exact rfl))
       | (apply P_cmp (b := false); (iterate 2 exact rfl); (focus (first | (simp [cmpI]; done) | (simp [cmpI]; omega))); (iterate 2 exact rfl)) | (apply P_alloc; exact rfl; exact rfl; exact rfl; intro _)
       | (apply P_store; exact rfl; (focus (repeat first | exact .z | apply SetAt.s | apply SetAtF.s)); (iterate 4 exact rfl)) | apply EL.nil | ((with_reducible apply EK.then_normal); apply EK.code)
       | (apply EC.cond_false; exact rfl)
       | (with_reducible first | apply EC.seq | apply EC.region | apply EC.skip | apply EC.label | apply EC.block | apply EC.exit | apply EC.ret | apply EK.in_normal | apply EK.in_same | apply EK.in_ret | apply EK.then_ret | apply EK.then_exit))
    refine EK.retc2r 0 rfl rfl rfl rfl rfl ?_ rfl
    (repeat first | exact RefineL.refl _ _ | exact RL.nil | exact Rf.same | exact Rf.bs0 | exact Rf.sl0 | (apply Rf.fact; (focus (simp; done)); exact rfl) | apply Rf.tup | apply RL.cons)
  · rw [if_neg hn] at h1
    rw [if_neg hn, if_neg hn]
    repeat
      (first
       | (apply P_call (h1); exact rfl; (focus (repeat first | exact RefineL.refl _ _ | exact RL.nil | exact Rf.same | exact Rf.bs0 | exact Rf.sl0 | (apply Rf.fact; (focus (simp; done)); exact rfl) | apply Rf.tup | apply RL.cons)); (focus (intro _ _; simp [go_sem]; done)); (iterate 2 exact rfl))
       | (apply P_move; (iterate 3 exact rfl)) | (apply P_assign; (iterate 3 exact rfl)) | (apply P_extract; (iterate 4 exact rfl))
       | (apply P_cmp (b := true); (iterate 2 exact rfl); (focus (first | (simp [cmpI]; done) | (simp [cmpI]; omega))); (iterate 2 exact rfl)) | (apply P_build0; (iterate 5 exact rfl))
       | (apply P_alloc; exact rfl; exact rfl; exact rfl; intro _) | (apply P_store; exact rfl; (focus (repeat first | exact .z | apply SetAt.s | apply SetAtF.s)); (iterate 4 exact rfl)) | apply EL.nil
       | ((with_reducible apply EK.then_normal); apply EK.code) | (apply EC.cond_true; exact rfl)
       | (with_reducible first | apply EC.seq | apply EC.region | apply EC.skip | apply EC.label | apply EC.block | apply EC.exit | apply EC.ret | apply EK.in_normal | apply EK.in_same | apply EK.in_ret | apply EK.then_ret | apply EK.then_exit))
    refine EK.retc2r 0 rfl rfl rfl rfl rfl ?_ rfl
    (repeat first | exact RefineL.refl _ _ | exact RL.nil | exact Rf.same | exact Rf.bs0 | exact Rf.sl0 | (apply Rf.fact; (focus (simp; done)); exact rfl) | apply Rf.tup | apply RL.cons)
theorem sl_addrT : SliceA 27 20 := ⟨fun w g o => by
  have hn : Tryz.prog.arrayLen 27 = 20 := by kernel_rfl
  have hs : (sizeOf (Tryz.prog.elem 27)).run Tryz.prog w = .ok 1 w := by kernel_rfl
  rw [run_sliceAt_array_all (P := Tryz.prog) w 27 ⟨g, o, none⟩ (by kernel_rfl), hs]
  simp [slicedAt, hn, add_none, Result.andThen]⟩
structure Acc where
  a : List UInt8
  n : Int
  w : List UInt8
  cd : List UInt8
  sl : List Pr
structure Acc.ok (x : Acc) : Prop where
  a : x.a.length = 20
  n0 : -9223372036854775808 ≤ x.n
  n1 : x.n ≤ 9223372036854775807
  w : x.w.length = 32
  sl : ∀ s ∈ x.sl, s.1.length = 32 ∧ s.2.length = 32
  len : x.sl.length ≤ 1000000
def dAcc (x : Acc) : D := .tup [.arr 20 x.a, .v (.int .i64 x.n), .arr 32 x.w, .bs x.cd, .sl 64 (x.sl.map dSlP)]
def acP (x : Acc) : Pr := (hash x.a, Rlp.E (bodyI x.n x.w (slRoot x.sl) (hash x.cd)))
def acE (x : Acc) : Nat := if slE2 x.sl ≠ 0 then slE2 x.sl else if x.n < 0 then 1 else 0
def prE : List Acc → List (List UInt8) → Nat
  | [], _ => 0
  | x :: l, seen => if x.a ∈ seen then 1 else if acE x ≠ 0 then acE x else prE l (seen ++ [x.a])
def prR (l : List Acc) : R := if prE l [] = 0 then .tpl [.sl 2 ((l.map acP).map dPr), .v (.int .i64 0)] else .tpl [.v (.slice none 0 0), .v (.int .i64 (prE l [] : Int))]
set_option maxRecDepth 20000 in
set_option maxHeartbeats 8000000 in
theorem f_acctPairs (l : List Acc) (hok : ∀ x ∈ l, x.ok) (hlen : l.length ≤ 1000000) : Fn 47 [.sl 55 (l.map dAcc)] (· = prR l) := by
  unfold prR
  have hl : (l.map dAcc).length = l.length := by rw [List.length_map]
  refine Fn.walk 64 Tryz.func47 rfl Tryz.ntmps47 (by simp) fun X => ?_
  repeat
    (first
     | (apply P_move; (iterate 3 exact rfl)) | (apply P_assign; (iterate 3 exact rfl)) | (apply P_lensl; (iterate 4 exact rfl)) | (apply P_makeMap; exact rfl; exact rfl; exact rfl; intro _) | apply EL.nil
     | ((with_reducible apply EK.then_normal); apply EK.code)
     | (with_reducible first | apply EC.seq | apply EC.region | apply EC.skip | apply EC.label | apply EC.block | apply EC.exit | apply EC.ret | apply EK.in_normal | apply EK.in_same | apply EK.in_ret | apply EK.then_ret | apply EK.then_exit))
  rename_i gm
  refine EC.le (Le.row 72 2) ?_
  refine EC.loop (ι := {p : Value × Nat × Nat × List Ent // p.2.1 ≤ l.length ∧ prE l [] = prE (l.drop p.2.1) ((l.take p.2.1).map (·.a)) ∧ ∀ k, getE p.2.2.2 k = if k ∈ (l.take p.2.1).map (·.a) then some (.v (.bool true)) else none})
    (fun p => ⟨[(15, .val (.v (.int .i64 (p.1.2.1 : Int)))), (14, .val (.v (.int .i64 ((l.map dAcc).length : Int)))), (13, .val (.sl 55 (l.map dAcc))), (5, .val (.v p.1.1)), (4, .val (.v (.map (some gm))))],
      [.row p.1.1 72 2 (((l.take p.1.2.1).map acP).map dPr), .map gm 20 p.1.2.2.1 p.1.2.2.2], []⟩)
    (fun p => l.length - p.1.2.1) ⟨(.slice none 0 0, 0, 0, []), Nat.zero_le _, by simp, fun k => by simp [getE]⟩ ?_ ?_
  · exact (Le.keep (by repeat first | exact trivial | refine ⟨rfl, ?_⟩) (by repeat first | exact List.nil_sublist _ | apply List.Sublist.cons_cons | apply List.Sublist.cons) (by simp))
  rintro ⟨⟨rv, n, c, es⟩, hn, hI, hes⟩
  dsimp only at hn hI hes ⊢
  by_cases hlt : n < l.length
  · have hat : (l.map dAcc)[n]? = some (.tup [.arr 20 l[n].a, .v (.int .i64 l[n].n), .arr 32 l[n].w, .bs l[n].cd, .sl 64 (l[n].sl.map dSlP)]) := by rw [List.getElem?_map, List.getElem?_eq_getElem hlt]; rfl
    have hx := hok _ (List.getElem_mem hlt)
    have hget := hes l[n].a
    rw [List.drop_eq_getElem_cons hlt, prE] at hI
    by_cases hin : l[n].a ∈ (l.take n).map (·.a)
    · rw [if_pos hin] at hget hI
      have hg2 : (getE es l[n].a).getD (.v (.bool false)) = .v (.bool true) := by rw [hget]; rfl
      repeat
        (first
         | (apply P_lookup; exact hg2; exact rfl; (first | exact I0 | exact I1 | exact I2 | exact I3); (iterate 5 exact rfl)) | (apply P_move; (iterate 3 exact rfl)) | (apply P_assign; (iterate 3 exact rfl))
         | (apply P_field; (iterate 6 exact rfl)) | (apply P_loadpd; (iterate 5 exact rfl))
         | (apply P_load; exact rfl; (first | exact I0 | exact I1 | exact I2 | exact I3 | exact I4 | exact I5 | exact I6); (iterate 4 exact rfl))
         | (apply P_cmp (b := true); (iterate 2 exact rfl); (focus (first | (simp [cmpI]; done) | (simp [cmpI]; omega))); (iterate 2 exact rfl))
         | (apply P_index; (iterate 4 exact rfl); (focus (first | exact ⟨by decide, rfl⟩ | (refine ⟨by omega, ?_⟩; rw [Int.toNat_natCast]; assumption))); (iterate 2 exact rfl))
         | (apply P_alloc; exact rfl; exact rfl; exact rfl; intro _) | (apply P_store; exact rfl; (focus (repeat first | exact .z | apply SetAt.s | apply SetAtF.s)); (iterate 4 exact rfl)) | apply EL.nil
         | ((with_reducible apply EK.then_normal); apply EK.code) | (apply EC.cond_true; exact rfl)
         | (with_reducible first | apply EC.seq | apply EC.region | apply EC.skip | apply EC.label | apply EC.block | apply EC.exit | apply EC.ret | apply EK.in_normal | apply EK.in_same | apply EK.in_ret | apply EK.then_ret | apply EK.then_exit))
      refine EK.ret2 rfl rfl rfl ?_
      rw [hI]
      rfl
    · rw [if_neg hin] at hget hI
      have hg2 : (getE es l[n].a).getD (.v (.bool false)) = .v (.bool false) := by rw [hget]; rfl
      have hS := f_Slots l[n].sl hx.sl hx.len
      by_cases hse : slE2 l[n].sl = 0
      · rw [hse] at hS
        have hK := f_kSum1 l[n].cd
        have hP := f_acctPack l[n].n l[n].w (slRoot l[n].sl) (hash l[n].cd) hx.n0 hx.n1 hx.w (slRoot_length _) (hash_length _)
        unfold dBd bodyR at hP
        by_cases hneg : l[n].n < 0
        · have hae : acE l[n] = 1 := by unfold acE; rw [if_neg (by simp [hse]), if_pos hneg]
          rw [hae, if_pos (by decide)] at hI
          rw [if_pos hneg] at hP
          repeat
            (first
             | (apply P_lookup; exact hg2; exact rfl; (first | exact I0 | exact I1 | exact I2 | exact I3); (iterate 5 exact rfl); refine EL.le (Le.pin (p := 7) (pre := []) rfl rfl) ?_; simp only [List.nil_append])
             | (apply P_call (hS); exact rfl; (focus (repeat first | exact RefineL.refl _ _ | exact RL.nil | exact Rf.same | exact Rf.bs0 | exact Rf.sl0 | (apply Rf.fact; (focus (simp; done)); exact rfl) | apply Rf.tup | apply RL.cons)); (focus (intro _ _; simp [go_sem]; done)); (iterate 2 exact rfl))
             | (apply P_move; (iterate 3 exact rfl)) | (apply P_assign; (iterate 3 exact rfl)) | (apply P_field; (iterate 6 exact rfl)) | (apply P_fieldpd; (iterate 7 exact rfl))
             | (apply P_extract; (iterate 4 exact rfl)) | (apply P_loadpd; (iterate 5 exact rfl))
             | (apply P_load; exact rfl; (first | exact I0 | exact I1 | exact I2 | exact I3 | exact I4 | exact I5 | exact I6); (iterate 4 exact rfl))
             | (apply P_cmp (b := true); (iterate 2 exact rfl); (focus (first | (simp [cmpI]; done) | (simp [cmpI]; omega))); (iterate 2 exact rfl))
             | (apply P_cmp (b := false); (iterate 2 exact rfl); (focus (first | (simp [cmpI]; done) | (simp [cmpI]; omega))); (iterate 2 exact rfl))
             | (apply P_index; (iterate 4 exact rfl); (focus (first | exact ⟨by decide, rfl⟩ | (refine ⟨by omega, ?_⟩; rw [Int.toNat_natCast]; assumption))); (iterate 2 exact rfl))
             | (apply P_mapUpd; exact rfl; (focus (repeat first | exact .z | apply SetAt.s | apply SetAtF.s)); (iterate 4 exact rfl)) | (apply P_alloc; exact rfl; exact rfl; exact rfl; intro _)
             | (apply P_store; exact rfl; (focus (repeat first | exact .z | apply SetAt.s | apply SetAtF.s)); (iterate 4 exact rfl)) | apply EL.nil | ((with_reducible apply EK.then_normal); apply EK.code)
             | (apply EC.cond_true; exact rfl) | (apply EC.cond_false; exact rfl)
             | (with_reducible first | apply EC.seq | apply EC.region | apply EC.skip | apply EC.label | apply EC.block | apply EC.exit | apply EC.ret | apply EK.in_normal | apply EK.in_same | apply EK.in_ret | apply EK.then_ret | apply EK.then_exit))
          refine EC.draw 15 (by kernel_rfl) ?_
          simp only [List.take_succ_cons, List.take_zero, List.drop_succ_cons, List.drop_zero]
          repeat
            (first
             | (apply H_call (hK); exact rfl; (focus (repeat first | exact RefineL.refl _ _ | exact RL.nil | exact Rf.same | exact Rf.bs0 | exact Rf.sl0 | (apply Rf.fact; (focus (simp; done)); exact rfl) | apply Rf.tup | apply RL.cons)); (focus (intro _ _; simp [go_sem]; done)); (iterate 2 exact rfl))
             | (apply H_call (hP); exact rfl; (focus (repeat first | exact RefineL.refl _ _ | exact RL.nil | exact Rf.same | exact Rf.bs0 | exact Rf.sl0 | (apply Rf.fact; (focus (simp; done)); exact rfl) | apply Rf.tup | apply RL.cons)); (focus (intro _ _; simp [go_sem]; done)); (iterate 2 exact rfl))
             | (apply H_move; (iterate 3 exact rfl)) | (apply H_assign; (iterate 3 exact rfl)) | (apply H_fieldpd; (iterate 7 exact rfl)) | (apply H_extract; (iterate 4 exact rfl))
             | (apply H_loadpd; (iterate 5 exact rfl)) | (apply H_load; exact rfl; (first | exact I0 | exact I1 | exact I2 | exact I3 | exact I4 | exact I5 | exact I6); (iterate 4 exact rfl))
             | (apply H_build; (iterate 7 exact rfl)) | (apply H_lit; (iterate 9 exact rfl)) | ((with_reducible apply EH.nil); exact rfl))
          repeat
            (first
             | (apply P_move; (iterate 3 exact rfl)) | (apply P_assign; (iterate 3 exact rfl))
             | (apply P_cmp (b := true); (iterate 2 exact rfl); (focus (first | (simp [cmpI]; done) | (simp [cmpI]; omega))); (iterate 2 exact rfl)) | apply EL.nil
             | ((with_reducible apply EK.then_normal); apply EK.code) | (apply EC.cond_true; exact rfl)
             | (with_reducible first | apply EC.seq | apply EC.region | apply EC.skip | apply EC.label | apply EC.block | apply EC.exit | apply EC.ret | apply EK.in_normal | apply EK.in_same | apply EK.in_ret | apply EK.then_ret | apply EK.then_exit))
          refine EK.ret2 rfl rfl rfl ?_
          rw [hI]
          rfl
        · have hae : acE l[n] = 0 := by unfold acE; rw [if_neg (by simp [hse]), if_neg hneg]
          rw [hae, if_neg (by simp)] at hI
          rw [if_neg hneg] at hP
          have hA := f_kSum1 l[n].a
          repeat
            (first
             | (apply P_lookup; exact hg2; exact rfl; (first | exact I0 | exact I1 | exact I2 | exact I3); (iterate 5 exact rfl); refine EL.le (Le.pin (p := 7) (pre := []) rfl rfl) ?_; simp only [List.nil_append])
             | (apply P_call (hS); exact rfl; (focus (repeat first | exact RefineL.refl _ _ | exact RL.nil | exact Rf.same | exact Rf.bs0 | exact Rf.sl0 | (apply Rf.fact; (focus (simp; done)); exact rfl) | apply Rf.tup | apply RL.cons)); (focus (intro _ _; simp [go_sem]; done)); (iterate 2 exact rfl))
             | (apply P_move; (iterate 3 exact rfl)) | (apply P_assign; (iterate 3 exact rfl)) | (apply P_field; (iterate 6 exact rfl)) | (apply P_fieldpd; (iterate 7 exact rfl))
             | (apply P_extract; (iterate 4 exact rfl)) | (apply P_loadpd; (iterate 5 exact rfl))
             | (apply P_load; exact rfl; (first | exact I0 | exact I1 | exact I2 | exact I3 | exact I4 | exact I5 | exact I6); (iterate 4 exact rfl))
             | (apply P_cmp (b := true); (iterate 2 exact rfl); (focus (first | (simp [cmpI]; done) | (simp [cmpI]; omega))); (iterate 2 exact rfl))
             | (apply P_cmp (b := false); (iterate 2 exact rfl); (focus (first | (simp [cmpI]; done) | (simp [cmpI]; omega))); (iterate 2 exact rfl))
             | (apply P_index; (iterate 4 exact rfl); (focus (first | exact ⟨by decide, rfl⟩ | (refine ⟨by omega, ?_⟩; rw [Int.toNat_natCast]; assumption))); (iterate 2 exact rfl))
             | (apply P_mapUpd; exact rfl; (focus (repeat first | exact .z | apply SetAt.s | apply SetAtF.s)); (iterate 4 exact rfl)) | (apply P_alloc; exact rfl; exact rfl; exact rfl; intro _)
             | (apply P_store; exact rfl; (focus (repeat first | exact .z | apply SetAt.s | apply SetAtF.s)); (iterate 4 exact rfl)) | apply EL.nil | ((with_reducible apply EK.then_normal); apply EK.code)
             | (apply EC.cond_true; exact rfl) | (apply EC.cond_false; exact rfl)
             | (with_reducible first | apply EC.seq | apply EC.region | apply EC.skip | apply EC.label | apply EC.block | apply EC.exit | apply EC.ret | apply EK.in_normal | apply EK.in_same | apply EK.in_ret | apply EK.then_ret | apply EK.then_exit))
          refine EC.draw 15 (by kernel_rfl) ?_
          simp only [List.take_succ_cons, List.take_zero, List.drop_succ_cons, List.drop_zero]
          repeat
            (first
             | (apply H_call (hK); exact rfl; (focus (repeat first | exact RefineL.refl _ _ | exact RL.nil | exact Rf.same | exact Rf.bs0 | exact Rf.sl0 | (apply Rf.fact; (focus (simp; done)); exact rfl) | apply Rf.tup | apply RL.cons)); (focus (intro _ _; simp [go_sem]; done)); (iterate 2 exact rfl))
             | (apply H_call (hP); exact rfl; (focus (repeat first | exact RefineL.refl _ _ | exact RL.nil | exact Rf.same | exact Rf.bs0 | exact Rf.sl0 | (apply Rf.fact; (focus (simp; done)); exact rfl) | apply Rf.tup | apply RL.cons)); (focus (intro _ _; simp [go_sem]; done)); (iterate 2 exact rfl))
             | (apply H_move; (iterate 3 exact rfl)) | (apply H_assign; (iterate 3 exact rfl)) | (apply H_fieldpd; (iterate 7 exact rfl)) | (apply H_extract; (iterate 4 exact rfl))
             | (apply H_loadpd; (iterate 5 exact rfl)) | (apply H_load; exact rfl; (first | exact I0 | exact I1 | exact I2 | exact I3 | exact I4 | exact I5 | exact I6); (iterate 4 exact rfl))
             | (apply H_build; (iterate 7 exact rfl)) | (apply H_lit; (iterate 9 exact rfl)) | ((with_reducible apply EH.nil); exact rfl))
          have hfl : ((l.take n).map acP).length ≤ 1000000 := by rw [List.length_map, List.length_take]; omega
          have hes2 : ∀ k, getE (putE c es l[n].a (.v (.bool true))) k = if k ∈ (l.take (n + 1)).map (·.a) then some (.v (.bool true)) else none := fun k => by
            rw [getE_putE, hes k, List.take_succ_eq_append_getElem hlt, List.map_append]
            by_cases hk2 : l[n].a = k
            · rw [if_pos hk2, if_pos (by rw [← hk2]; simp)]
            · rw [if_neg hk2]
              by_cases hm : k ∈ (l.take n).map (·.a)
              · rw [if_pos hm, if_pos (List.mem_append_left _ hm)]
              · rw [if_neg hm, if_neg fun h => ?_]
                rcases List.mem_append.1 h with h | h
                · exact hm h
                · exact hk2 (by simpa using h : k = l[n].a).symm
          have hI2 : prE l [] = prE (l.drop (n + 1)) ((l.take (n + 1)).map (·.a)) := by
            rw [hI, List.take_succ_eq_append_getElem hlt, List.map_append]
            rfl
          repeat
            (first
             | (apply P_call (hA); exact rfl; (focus (repeat first | exact RefineL.refl _ _ | exact RL.nil | exact Rf.same | exact Rf.bs0 | exact Rf.sl0 | (apply Rf.fact; (focus (simp; done)); exact rfl) | apply Rf.tup | apply RL.cons)); (focus (intro _ _; simp [go_sem]; done)); (iterate 2 exact rfl))
             | (apply P_slpd sl_addrT; (iterate 6 exact rfl)) | (apply P_move; (iterate 3 exact rfl)) | (apply P_assign; (iterate 3 exact rfl)) | (apply P_fieldpd; (iterate 7 exact rfl))
             | (apply P_cmp (b := false); (iterate 2 exact rfl); (focus (first | (simp [cmpI]; done) | (simp [cmpI]; omega))); (iterate 2 exact rfl)) | (apply P_lit; (iterate 9 exact rfl))
             | (apply P_alloc; exact rfl; exact rfl; exact rfl; intro _) | (apply P_store; exact rfl; (focus (repeat first | exact .z | apply SetAt.s | apply SetAtF.s)); (iterate 4 exact rfl)) | apply EL.nil
             | ((with_reducible apply EK.then_normal); apply EK.code) | (apply EC.cond_false; exact rfl)
             | (with_reducible first | apply EC.seq | apply EC.region | apply EC.skip | apply EC.label | apply EC.block | apply EC.exit | apply EC.ret | apply EK.in_normal | apply EK.in_same | apply EK.in_ret | apply EK.then_ret | apply EK.then_exit))
          refine EL.le (Le.pin (p := 11) (pre := []) rfl rfl) ?_
          simp only [List.nil_append]
          repeat
            (first
             | (apply P_slpd sl_word; (iterate 6 exact rfl)) | (apply P_move; (iterate 3 exact rfl)) | (apply P_assign; (iterate 3 exact rfl))
             | (apply P_ar; (iterate 3 exact rfl); (focus omega); (focus omega); (iterate 2 exact rfl)) | (apply P_build; (iterate 7 exact rfl)) | (apply P_lit; (iterate 9 exact rfl))
             | ((apply P_append; exact rfl; (focus (repeat first | exact .z | apply SetAt.s | apply SetAtF.s)); (iterate 5 exact rfl); (focus (constructor <;> (first | (simp; done) | (simp; omega))))); intro _)
             | apply EL.nil | ((with_reducible apply EK.then_normal); apply EK.code)
             | (with_reducible first | apply EC.seq | apply EC.region | apply EC.skip | apply EC.label | apply EC.block | apply EC.exit | apply EC.ret | apply EK.in_normal | apply EK.in_same | apply EK.in_ret | apply EK.then_ret | apply EK.then_exit))
          rename_i v'
          refine EK.again ⟨(v', n + 1, tickE c es l[n].a, putE c es l[n].a (.v (.bool true))), hlt, hI2, hes2⟩ (by dsimp only; omega) ?_
          dsimp only
          rw [List.take_succ_eq_append_getElem hlt, List.map_append, List.map_append]
          simp only [Int.natCast_add]
          exact (Le.keep (by repeat first | exact trivial | refine ⟨rfl, ?_⟩) (by repeat first | exact List.nil_sublist _ | apply List.Sublist.cons_cons | apply List.Sublist.cons) (by simp))
      · have hsi : (slE2 l[n].sl : Int) ≠ 0 := by omega
        have hae : acE l[n] = slE2 l[n].sl := by unfold acE; rw [if_pos hse]
        rw [hae, if_pos hse] at hI
        repeat
          (first
           | (apply P_lookup; exact hg2; exact rfl; (first | exact I0 | exact I1 | exact I2 | exact I3); (iterate 5 exact rfl); refine EL.le (Le.pin (p := 7) (pre := []) rfl rfl) ?_; simp only [List.nil_append])
           | (apply P_call (hS); exact rfl; (focus (repeat first | exact RefineL.refl _ _ | exact RL.nil | exact Rf.same | exact Rf.bs0 | exact Rf.sl0 | (apply Rf.fact; (focus (simp; done)); exact rfl) | apply Rf.tup | apply RL.cons)); (focus (intro _ _; simp [go_sem]; done)); (iterate 2 exact rfl))
           | (apply P_move; (iterate 3 exact rfl)) | (apply P_assign; (iterate 3 exact rfl)) | (apply P_field; (iterate 6 exact rfl)) | (apply P_fieldpd; (iterate 7 exact rfl))
           | (apply P_extract; (iterate 4 exact rfl)) | (apply P_loadpd; (iterate 5 exact rfl))
           | (apply P_load; exact rfl; (first | exact I0 | exact I1 | exact I2 | exact I3 | exact I4 | exact I5 | exact I6); (iterate 4 exact rfl))
           | (apply P_cmp (b := true); (iterate 2 exact rfl); (focus (first | (simp [cmpI]; done) | (simp [cmpI]; omega))); (iterate 2 exact rfl))
           | (apply P_index; (iterate 4 exact rfl); (focus (first | exact ⟨by decide, rfl⟩ | (refine ⟨by omega, ?_⟩; rw [Int.toNat_natCast]; assumption))); (iterate 2 exact rfl))
           | (apply P_mapUpd; exact rfl; (focus (repeat first | exact .z | apply SetAt.s | apply SetAtF.s)); (iterate 4 exact rfl)) | (apply P_alloc; exact rfl; exact rfl; exact rfl; intro _)
           | (apply P_store; exact rfl; (focus (repeat first | exact .z | apply SetAt.s | apply SetAtF.s)); (iterate 4 exact rfl)) | apply EL.nil | ((with_reducible apply EK.then_normal); apply EK.code)
           | (apply EC.cond_true; exact rfl) | (apply EC.cond_false; exact rfl)
           | (with_reducible first | apply EC.seq | apply EC.region | apply EC.skip | apply EC.label | apply EC.block | apply EC.exit | apply EC.ret | apply EK.in_normal | apply EK.in_same | apply EK.in_ret | apply EK.then_ret | apply EK.then_exit))
        refine EK.ret2 rfl rfl rfl ?_
        rw [hI, if_neg hse]
  · obtain rfl : n = l.length := by omega
    rw [List.drop_eq_nil_of_le (Nat.le_refl _), prE] at hI
    have htl : (l.take l.length).map acP = l.map acP := by rw [List.take_length]
    rw [htl]
    refine EC.le (Le.freeze (pre := []) rfl) ?_
    simp only [List.nil_append]
    repeat
      (first
       | (apply P_move; (iterate 3 exact rfl)) | (apply P_assign; (iterate 3 exact rfl))
       | (apply P_cmp (b := false); (iterate 2 exact rfl); (focus (first | (simp [cmpI]; done) | (simp [cmpI]; omega))); (iterate 2 exact rfl)) | apply EL.nil
       | ((with_reducible apply EK.then_normal); apply EK.code) | (apply EC.cond_false; exact rfl)
       | (with_reducible first | apply EC.seq | apply EC.region | apply EC.skip | apply EC.label | apply EC.block | apply EC.exit | apply EC.ret | apply EK.in_normal | apply EK.in_same | apply EK.in_ret | apply EK.then_ret | apply EK.then_exit))
    refine EK.ret2r rfl rfl rfl ?_ (by rw [if_pos hI])
    (repeat first | exact RefineL.refl _ _ | exact RL.nil | exact Rf.same | exact Rf.bs0 | exact Rf.sl0 | (apply Rf.fact; (focus (simp; done)); exact rfl) | apply Rf.tup | apply RL.cons)
def rootA (l : List Acc) : List UInt8 := if prE l [] = 0 then rootP (l.map acP) else zero32
def errA (l : List Acc) : Nat := if prE l [] = 0 then errP (l.map acP) else prE l []
set_option maxRecDepth 20000 in
set_option maxHeartbeats 4000000 in
theorem f_acctRoot (l : List Acc) (hok : ∀ x ∈ l, x.ok) (hlen : l.length ≤ 1000000) : Fn 14 [.sl 55 (l.map dAcc)] (· = .tpl [.arr 32 (rootA l), .v (.int .i64 (errA l : Int))]) := by
  have h1 := f_acctPairs l hok hlen
  have h2 := f_Root (l.map acP)
  unfold prR at h1
  unfold rootA errA
  refine Fn.walk 19 Tryz.func14 rfl Tryz.ntmps14 (by simp) fun X => ?_
  by_cases hn : prE l [] = 0
  · rw [if_pos hn] at h1
    rw [if_pos hn, if_pos hn]
    repeat
      (first
       | (apply P_call (h1); exact rfl; (focus (repeat first | exact RefineL.refl _ _ | exact RL.nil | exact Rf.same | exact Rf.bs0 | exact Rf.sl0 | (apply Rf.fact; (focus (simp; done)); exact rfl) | apply Rf.tup | apply RL.cons)); (focus (intro _ _; simp [go_sem]; done)); (iterate 2 exact rfl))
       | (apply P_call (h2); exact rfl; (focus (repeat first | exact RefineL.refl _ _ | exact RL.nil | exact Rf.same | exact Rf.bs0 | exact Rf.sl0 | (apply Rf.fact; (focus (simp; done)); exact rfl) | apply Rf.tup | apply RL.cons)); (focus (intro _ _; simp [go_sem]; done)); (iterate 2 exact rfl))
       | (apply P_move; (iterate 3 exact rfl)) | (apply P_assign; (iterate 3 exact rfl)) | (apply P_extract; (iterate 4 exact rfl))
       | (apply P_cmp (b := false); (iterate 2 exact rfl); (focus (first | (simp [cmpI]; done) | (simp [cmpI]; omega))); (iterate 2 exact rfl)) | (apply P_alloc; exact rfl; exact rfl; exact rfl; intro _)
       | (apply P_store; exact rfl; (focus (repeat first | exact .z | apply SetAt.s | apply SetAtF.s)); (iterate 4 exact rfl)) | apply EL.nil | ((with_reducible apply EK.then_normal); apply EK.code)
       | (apply EC.cond_false; exact rfl)
       | (with_reducible first | apply EC.seq | apply EC.region | apply EC.skip | apply EC.label | apply EC.block | apply EC.exit | apply EC.ret | apply EK.in_normal | apply EK.in_same | apply EK.in_ret | apply EK.then_ret | apply EK.then_exit))
    refine EK.retc2r 0 rfl rfl rfl rfl rfl ?_ rfl
    (repeat first | exact RefineL.refl _ _ | exact RL.nil | exact Rf.same | exact Rf.bs0 | exact Rf.sl0 | (apply Rf.fact; (focus (simp; done)); exact rfl) | apply Rf.tup | apply RL.cons)
  · rw [if_neg hn] at h1
    rw [if_neg hn, if_neg hn]
    have hni : (prE l [] : Int) ≠ 0 := by omega
    repeat
      (first
       | (apply P_call (h1); exact rfl; (focus (repeat first | exact RefineL.refl _ _ | exact RL.nil | exact Rf.same | exact Rf.bs0 | exact Rf.sl0 | (apply Rf.fact; (focus (simp; done)); exact rfl) | apply Rf.tup | apply RL.cons)); (focus (intro _ _; simp [go_sem]; done)); (iterate 2 exact rfl))
       | (apply P_move; (iterate 3 exact rfl)) | (apply P_assign; (iterate 3 exact rfl)) | (apply P_extract; (iterate 4 exact rfl))
       | (apply P_cmp (b := true); (iterate 2 exact rfl); (focus (first | (simp [cmpI]; done) | (simp [cmpI]; omega))); (iterate 2 exact rfl)) | (apply P_build0; (iterate 5 exact rfl))
       | (apply P_alloc; exact rfl; exact rfl; exact rfl; intro _) | (apply P_store; exact rfl; (focus (repeat first | exact .z | apply SetAt.s | apply SetAtF.s)); (iterate 4 exact rfl)) | apply EL.nil
       | ((with_reducible apply EK.then_normal); apply EK.code) | (apply EC.cond_true; exact rfl)
       | (with_reducible first | apply EC.seq | apply EC.region | apply EC.skip | apply EC.label | apply EC.block | apply EC.exit | apply EC.ret | apply EK.in_normal | apply EK.in_same | apply EK.in_ret | apply EK.then_ret | apply EK.then_exit))
    refine EK.retc2r 0 rfl rfl rfl rfl rfl ?_ rfl
    (repeat first | exact RefineL.refl _ _ | exact RL.nil | exact Rf.same | exact Rf.bs0 | exact Rf.sl0 | (apply Rf.fact; (focus (simp; done)); exact rfl) | apply Rf.tup | apply RL.cons)
end E
end Go.Proofs.YtmlajcbabimkjaaGreat
