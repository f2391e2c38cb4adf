/-
  Merged (wip/tools/merge.py): SUA, SP1, SP2, SP3, EZ.
  Conditions: none.
-/
import Derived.Test.YtdhicdnmgmkpkaaGreatZC18
import Derived.Test.YtdhicdnmgmkpkaaGreatZC13
/-
  The program's snap.Apply: what changes make of accounts, as a list.
  Conditions: none.
-/
namespace Go.Proofs.YtdhicdnmgmkpkaaGreat
set_option linter.unusedVariables false
open Go.RowKit Mono Rlp Wd Go.Sort
namespace E
def applyA (A : As) (ch : List ChL) : As := ch.foldl (fun A c => c.of A) A
theorem applyA_snoc (A : As) (ch : List ChL) (c : ChL) : applyA A (ch ++ [c]) = c.of (applyA A ch) := by unfold applyA; rw [List.foldl_append]; rfl
set_option maxRecDepth 20000 in
set_option maxHeartbeats 16000000 in
theorem apply_ (l : List AcL) (ch : List ChL) (id par : List UInt8) (hl : l.length ≤ 1000) (hls : ∀ x ∈ l, x.sl.length ≤ 1000 ∧ x.cd.length ≤ 140737488355328) (hc : ch.length ≤ 100) (hcs : ∀ c ∈ ch, c.sl.length ≤ 1000 ∧ c.cd.length ≤ 140737488355328) : FnM 44 [.sl 55 (l.map dAcL), .tup [.arr 32 id, .arr 32 par, .sl 56 (ch.map dChL)]] [] (fun r os' => (∃ L, Canon (applyA (newA l) ch) L ∧ L.length ≤ 1000000 ∧ (∀ x ∈ L, x.sl.length ≤ 1000000) ∧ r = .val (.sl 55 (L.map dAcL))) ∧ os' = []) := by
  have h1 := new0 l 1000 (by omega) hls (by omega)
  have hml : (ch.map dChL).length = ch.length := List.length_map _
  refine FnM.walk 23 Tryz.func44 rfl Tryz.ntmps44 (by simp) fun X => ?_
  repeat
    (first
     | (apply P_callM (os := []) h1; (iterate 2 exact rfl); exact RefineL.refl _ _; (focus (intro _ _; simp [go_sem]; done)); (iterate 2 exact rfl); rintro _ os1 ⟨g, rfl, hp⟩; refine EL.le (Le.perm List.perm_append_comm) ?_; simp only [List.cons_append, List.nil_append])
     | (apply P_move; (iterate 3 exact rfl)) | (apply P_assign; (iterate 3 exact rfl)) | (apply P_field; (iterate 6 exact rfl))
     | (apply P_load; exact rfl; (first | exact I0 | exact I1 | exact I2 | exact I3 | exact I4 | exact I5 | exact I6); (iterate 4 exact rfl)) | (apply P_lensl; (iterate 4 exact rfl))
     | (apply P_box; exact rfl; exact rfl; exact rfl; intro _) | apply EL.nil | ((with_reducible apply EK.then_normal); apply EK.code)
     | (with_reducible first | apply EC.seq | apply EC.region | apply EC.skip | apply EC.label | apply EC.block | apply EC.exit | apply EC.ret | apply EK.in_normal | apply EK.in_same | apply EK.in_ret | apply EK.then_ret | apply EK.then_exit))
  rename_i g3
  refine EC.loop (ι := {x : Nat × List Obj // x.1 ≤ ch.length ∧ PSt g (applyA (newA l) (ch.take x.1)) (1000 + l.length + x.1 * 1004) x.2})
    (fun x => ⟨[(13, .val (.v (.int .i64 (x.1.1 : Int)))), (12, .val (.v (.int .i64 (ch.map dChL).length))), (11, .val (.sl 56 (ch.map dChL))), (5, .val (.v (ptr g)))], x.1.2, []⟩)
    (fun x => ch.length - x.1.1) ⟨(0, os1), Nat.zero_le _, hp⟩ ?_ ?_
  · exact (Le.keep (by repeat first | exact trivial | refine ⟨rfl, ?_⟩) (by repeat first | exact List.Sublist.refl _ | apply List.Sublist.cons_cons | apply List.Sublist.cons) (by simp))
  rintro ⟨⟨i, os2⟩, hil, hp2⟩
  dsimp only at hil hp2 ⊢
  by_cases hlt : i < ch.length
  · have hd : (ch.map dChL)[i]? = some (dChL ch[i]) := by rw [List.getElem?_map, List.getElem?_eq_getElem hlt]; rfl
    have hci := hcs ch[i] (List.getElem_mem hlt)
    have htk : ch.take (i + 1) = ch.take i ++ [ch[i]] := List.take_succ_eq_append_getElem hlt
    have h2 := apply1 hp2 ch[i] hci.2 (by omega)
    generalize ch[i] = x at hd hci htk h2
    have hx : dChL x = .tup [.arr 20 x.a, .v (.bool x.gone), .v (.int .i64 x.n), .arr 32 x.w, .bs x.cd, .sl 64 (x.sl.map dSlL)] := rfl
    rw [hx] at hd h2
    repeat
      (first
       | (apply P_callT h2 [_] rfl rfl (RefineL.refl _ _) (by intro _ _; simp [go_sem]) rfl rfl; rintro _ os3 ⟨rfl, hp3⟩; simp only [List.cons_append, List.nil_append]) | (apply P_move; (iterate 3 exact rfl))
       | (apply P_loadpd; (iterate 5 exact rfl)) | (apply P_load; exact rfl; (first | exact I0 | exact I1 | exact I2 | exact I3 | exact I4 | exact I5 | exact I6); (iterate 4 exact rfl))
       | (apply P_cmp (b := true); (iterate 2 exact rfl); (focus (first | (simp [cmpI]; done) | (simp [cmpI]; omega))); (iterate 2 exact rfl))
       | (apply P_ar; (iterate 3 exact rfl); (focus omega); (focus omega); (iterate 2 exact rfl))
       | (apply P_index; (iterate 4 exact rfl); (focus (first | exact ⟨by decide, rfl⟩ | (refine ⟨by omega, ?_⟩; rw [Int.toNat_natCast]; assumption))); (iterate 2 exact rfl))
       | (apply P_alloc; exact rfl; exact rfl; exact rfl; intro _) | (apply P_store; exact rfl; (focus (repeat first | exact .z | apply SetAt.s | apply SetAtF.s)); (iterate 4 exact rfl)) | apply EL.nil
       | ((with_reducible apply EK.then_normal); apply EK.code) | (apply EC.cond_true; exact rfl)
       | (with_reducible first | apply EC.seq | apply EC.region | apply EC.skip | apply EC.label | apply EC.block | apply EC.exit | apply EC.ret | apply EK.in_normal | apply EK.in_same | apply EK.in_ret | apply EK.then_ret | apply EK.then_exit))
    refine EK.again ⟨(i + 1, os3), hlt, by rw [htk, applyA_snoc]; exact hp3.mono (by have := hci.1; omega)⟩ (by dsimp only; omega) ?_
    simp only [Int.natCast_add]
    exact (Le.keep (by repeat first | exact trivial | refine ⟨rfl, ?_⟩) (by repeat first | exact List.Sublist.refl _ | apply List.Sublist.cons_cons | apply List.Sublist.cons) (by simp))
  · have hiE : i = ch.length := by omega
    subst hiE
    rw [List.take_length] at hp2
    have h3 := ps_accounts hp2 (by omega)
    repeat
      (first
       | (apply P_callT h3 [] rfl rfl (RefineL.refl _ _) (by intro _ _; simp [go_sem]) rfl rfl; rintro _ _ ⟨⟨L, hL, hLl, hLs, rfl⟩, rfl⟩; simp only [List.nil_append]) | (apply P_move; (iterate 3 exact rfl))
       | (apply P_assign; (iterate 3 exact rfl)) | (apply P_cmp (b := false); (iterate 2 exact rfl); (focus (first | (simp [cmpI]; done) | (simp [cmpI]; omega))); (iterate 2 exact rfl)) | apply EL.nil
       | ((with_reducible apply EK.then_normal); apply EK.code) | (apply EC.cond_false; exact rfl)
       | (with_reducible first | apply EC.seq | apply EC.region | apply EC.skip | apply EC.label | apply EC.block | apply EC.exit | apply EC.ret | apply EK.in_normal | apply EK.in_same | apply EK.in_ret | apply EK.then_ret | apply EK.then_exit))
    exact EK.retM1s [] rfl rfl (List.nil_sublist _) ⟨⟨L, hL, by omega, fun x hx => by have := hLs x hx; omega, rfl⟩, rfl⟩
end E
end Go.Proofs.YtdhicdnmgmkpkaaGreat
/-
  Between two states: the one list of changes, and that it makes the one of the other (plain law).
  Conditions: none.
-/
namespace Go.Proofs.YtdhicdnmgmkpkaaGreat
set_option linter.unusedVariables false
open Go.RowKit Mono Rlp Wd Go.Sort
namespace E
structure ChL.Is (c : ChL) (x y : Ac) : Prop where
  gone : c.gone = true ↔ y = Ac.zero
  n : c.n = y.n
  w : c.w = y.w
  cd : c.cd = y.cd
  ord : c.sl.Pairwise fun p q => p.1 < q.1
  sl : ∀ k v, (k, v) ∈ c.sl ↔ y ≠ Ac.zero ∧ x.sl k ≠ y.sl k ∧ v = y.sl k
structure BtwU (A B : As) (K : List (List UInt8)) (D : List ChL) : Prop where
  ord : D.Pairwise fun x y => x.a < y.a
  mem : ∀ c ∈ D, c.a ∈ K ∧ A c.a ≠ B c.a ∧ c.Is (A c.a) (B c.a)
  all : ∀ a ∈ K, A a ≠ B a → ∃ c ∈ D, c.a = a
structure Btw (A B : As) (D : List ChL) : Prop where
  ord : D.Pairwise fun x y => x.a < y.a
  mem : ∀ c ∈ D, A c.a ≠ B c.a ∧ c.Is (A c.a) (B c.a)
  all : ∀ a, A a ≠ B a → ∃ c ∈ D, c.a = a
theorem ChL.Is.eq {c d : ChL} {x y : Ac} (h : c.Is x y) (k : d.Is x y) (e : c.a = d.a) : c = d := by
  have hs : c.sl = d.sl := rising_eq (key := fun p : List UInt8 × List UInt8 => p.1) h.ord k.ord (fun p hp => (k.sl p.1 p.2).2 ((h.sl p.1 p.2).1 hp)) (fun p hp => (h.sl p.1 p.2).2 ((k.sl p.1 p.2).1 hp))
  have hg : c.gone = d.gone := by
    have := h.gone.trans k.gone.symm
    cases h1 : c.gone <;> cases h2 : d.gone <;> simp_all
  cases c
  cases d
  simp only [ChL.mk.injEq]
  exact ⟨e, hg, h.n.trans k.n.symm, h.w.trans k.w.symm, h.cd.trans k.cd.symm, hs⟩
theorem Btw.eq {A B : As} {D F : List ChL} (h : Btw A B D) (k : Btw A B F) : D = F := by
  have one : ∀ {D F : List ChL}, Btw A B D → Btw A B F → ∀ x ∈ D, x ∈ F := fun {D F} h k x hx => by
    obtain ⟨h1, h2⟩ := h.mem x hx
    obtain ⟨y, hy, e⟩ := k.all x.a h1
    have := (k.mem y hy).2
    rw [e] at this
    rw [h2.eq this e.symm]
    exact hy
  exact rising_eq (key := ChL.a) h.ord k.ord (one h k) (one k h)
theorem BtwU.btw {A B : As} {K : List (List UInt8)} {D : List ChL} (h : BtwU A B K D) (hK : ∀ a, A a ≠ B a → a ∈ K) : Btw A B D := ⟨h.ord, fun c hc => (h.mem c hc).2, fun a ha => h.all a (hK a ha) ha⟩
theorem BtwU.nil {A B : As} : BtwU A B [] [] := ⟨.nil, fun x hx => by simp at hx, fun a ha => by simp at ha⟩
theorem BtwU.skip {A B : As} {K : List (List UInt8)} {D : List ChL} (h : BtwU A B K D) {a : List UInt8} (ha : A a = B a) : BtwU A B (K ++ [a]) D := ⟨h.ord, fun x hx => ⟨List.mem_append_left _ (h.mem x hx).1, (h.mem x hx).2⟩, fun b hb hne => by
  rcases List.mem_append.1 hb with hb | hb
  · exact h.all b hb hne
  · obtain rfl : b = a := by simpa using hb
    exact absurd ha hne⟩
theorem BtwU.take {A B : As} {K : List (List UInt8)} {D : List ChL} (h : BtwU A B K D) {c : ChL} (hne : A c.a ≠ B c.a) (hc : c.Is (A c.a) (B c.a)) (hlt : ∀ b ∈ K, b < c.a) : BtwU A B (K ++ [c.a]) (D ++ [c]) := ⟨List.pairwise_append.2 ⟨h.ord, List.pairwise_singleton _ _, fun y hy z hz => by
    obtain rfl : z = c := by simpa using hz
    exact hlt _ (h.mem y hy).1⟩, fun y hy => by
    rcases List.mem_append.1 hy with hy | hy
    · exact ⟨List.mem_append_left _ (h.mem y hy).1, (h.mem y hy).2⟩
    · obtain rfl : y = c := by simpa using hy
      exact ⟨by simp, hne, hc⟩, fun b hb hb' => by
    rcases List.mem_append.1 hb with hb | hb
    · obtain ⟨y, hy, e⟩ := h.all b hb hb'
      exact ⟨y, List.mem_append_left _ hy, e⟩
    · obtain rfl : b = c.a := by simpa using hb
      exact ⟨c, by simp, rfl⟩⟩
def slG (sl : List (List UInt8 × List UInt8)) (f : List UInt8 → List UInt8) : List UInt8 → List UInt8 := sl.foldl (fun f p => fun k => if p.1 = k then p.2 else f k) f
theorem slG_at (z : List UInt8) : ∀ (sl : List (List UInt8 × List UInt8)) (f : List UInt8 → List UInt8) (k : List UInt8), (∀ p ∈ sl, p.1 = k → p.2 = z) → slG sl f k = if k ∈ sl.map Prod.fst then z else f k
  | [], f, k, _ => by simp [slG]
  | p :: sl, f, k, h => by
    have ih := slG_at z sl (fun k => if p.1 = k then p.2 else f k) k fun q hq => h q (List.mem_cons_of_mem _ hq)
    have e : slG (p :: sl) f k = slG sl (fun k => if p.1 = k then p.2 else f k) k := rfl
    rw [e, ih]
    by_cases h1 : k ∈ sl.map Prod.fst
    · rw [if_pos h1, if_pos (by simp only [List.map_cons, List.mem_cons]; exact .inr h1)]
    · rw [if_neg h1]
      by_cases h2 : p.1 = k
      · rw [if_pos h2, if_pos (by simp [h2]), h p List.mem_cons_self h2]
      · rw [if_neg h2, if_neg (by simp only [List.map_cons, List.mem_cons, not_or]; exact ⟨fun e => h2 e.symm, h1⟩)]
theorem upd_same (A : As) (a : List UInt8) (x : Ac) : A.upd a x a = x := by unfold As.upd; rw [if_pos rfl]
theorem upd_upd (A : As) (a : List UInt8) (x y : Ac) : (A.upd a x).upd a y = A.upd a y := by
  funext b
  unfold As.upd
  split <;> rfl
theorem slots1_eq (a : List UInt8) : ∀ (sl : List (List UInt8 × List UInt8)) (A : As), slots1 a sl A = A.upd a {A a with sl := slG sl (A a).sl}
  | [], A => by
    funext b
    unfold As.upd
    split
    · rename_i e
      subst e
      rfl
    · rfl
  | p :: sl, A => by
    have e : slots1 a (p :: sl) A = slots1 a sl (A.upd a ((A a).slot p.1 p.2)) := rfl
    rw [e, slots1_eq a sl, upd_upd, upd_same]
    rfl
def ChL.one (c : ChL) (x : Ac) : Ac := ⟨if c.n > 0 then c.n else 0, c.w, c.cd, slG c.sl (if c.gone = true then fun _ => zero32 else x.sl)⟩
theorem ChL.of_eq (c : ChL) (A : As) : c.of A = A.upd c.a (c.one (A c.a)) := by
  unfold ChL.of ChL.base
  dsimp only
  rw [slots1_eq]
  cases hg : c.gone with
  | true => simp only [if_true, upd_upd, upd_same, ChL.one, hg]; rfl
  | false => simp only [Bool.false_eq_true, if_false, upd_upd, upd_same, ChL.one, hg]
theorem applyA_off : ∀ (D : List ChL) (A : As) (b : List UInt8), b ∉ D.map ChL.a → applyA A D b = A b
  | [], A, b, _ => rfl
  | c :: D, A, b, h => by
    have e : applyA A (c :: D) = applyA (c.of A) D := rfl
    simp only [List.map_cons, List.mem_cons, not_or] at h
    rw [e, applyA_off D _ b h.2, ChL.of_eq]
    unfold As.upd
    rw [if_neg fun e => h.1 e.symm]
theorem applyA_at : ∀ (D : List ChL) (A : As) (c : ChL), c ∈ D → (D.Pairwise fun x y => x.a < y.a) → applyA A D c.a = c.one (A c.a)
  | [], A, c, h, _ => by simp at h
  | d :: D, A, c, h, ho => by
    have e : applyA A (d :: D) = applyA (d.of A) D := rfl
    obtain ⟨h1, h2⟩ := List.pairwise_cons.1 ho
    rcases List.mem_cons.1 h with rfl | h
    · rw [e, applyA_off D _ c.a fun hm => by
        obtain ⟨x, hx, hxa⟩ := List.mem_map.1 hm
        have := h1 x hx
        rw [hxa] at this
        exact List.lt_irrefl _ this, ChL.of_eq, upd_same]
    · rw [e, applyA_at D _ c h h2, ChL.of_eq]
      have hne : d.a ≠ c.a := fun e => by
        have := h1 c h
        rw [e] at this
        exact List.lt_irrefl _ this
      unfold As.upd
      rw [if_neg hne]
theorem ChL.Is.one {c : ChL} {x y : Ac} (h : c.Is x y) (hn : 0 ≤ y.n) : c.one x = y := by
  unfold ChL.one
  have h1 : (if c.n > 0 then c.n else 0) = y.n := by
    rw [h.n]
    split
    · rfl
    · omega
  have h2 : slG c.sl (if c.gone = true then fun _ => zero32 else x.sl) = y.sl := by
    funext k
    rw [slG_at (y.sl k) _ _ k fun p hp e => by
      have := ((h.sl p.1 p.2).1 hp).2.2
      rw [e] at this
      exact this]
    by_cases hm : k ∈ c.sl.map Prod.fst
    · rw [if_pos hm]
    · rw [if_neg hm]
      by_cases hg : c.gone = true
      · rw [if_pos hg, h.gone.1 hg]
        rfl
      · rw [if_neg hg]
        refine Classical.byContradiction fun hne => hm (List.mem_map.2 ⟨(k, y.sl k), (h.sl k _).2 ⟨fun e => hg (h.gone.2 e), hne, rfl⟩, rfl⟩)
  rw [h1, h2, h.w, h.cd]
theorem Btw.apply {A B : As} {D : List ChL} (h : Btw A B D) (hB : ∀ a, 0 ≤ (B a).n) : applyA A D = B := by
  funext b
  by_cases hb : b ∈ D.map ChL.a
  · obtain ⟨c, hc, rfl⟩ := List.mem_map.1 hb
    rw [applyA_at D A c hc h.ord, (h.mem c hc).2.one (hB _)]
  · rw [applyA_off D A b hb]
    exact Classical.byContradiction fun hne => hb (by
      obtain ⟨c, hc, e⟩ := h.all b hne
      exact List.mem_map.2 ⟨c, hc, e⟩)
theorem newA_nn (l : List AcL) : ∀ a, 0 ≤ (newA l a).n := by
  have h : ∀ (l : List AcL) (A : As), (∀ a, 0 ≤ (A a).n) → ∀ a, 0 ≤ (l.foldl (fun A x => A.upd x.a x.take) A a).n := fun l => by
    induction l with
    | nil => exact fun A h => h
    | cons x l ih =>
      intro A h
      refine ih _ fun a => ?_
      show 0 ≤ (if x.a = a then x.take else A a).n
      split
      · unfold AcL.take
        dsimp only
        split <;> omega
      · exact h a
  exact h l _ fun a => Int.le_refl _
theorem AcL.Is.slF {x : AcL} {y : Ac} (h : x.Is y) : slF x.sl = y.sl := by
  funext k
  have e : E.slF x.sl k = slG x.sl (fun _ => zero32) k := rfl
  rw [e, slG_at (y.sl k) _ _ k fun p hp e => by rw [(h.val p hp).1, e]]
  by_cases hm : k ∈ x.sl.map Prod.fst
  · rw [if_pos hm]
  · rw [if_neg hm]
    refine Classical.byContradiction fun hne => hm ?_
    obtain ⟨p, hp, e⟩ := h.all k fun e => hne e.symm
    exact List.mem_map.2 ⟨p, hp, e⟩
theorem AcL.Is.take {x : AcL} {y : Ac} (h : x.Is y) (hn : 0 ≤ y.n) : x.take = y := by
  unfold AcL.take
  have h1 : (if x.n > 0 then x.n else 0) = y.n := by
    rw [h.n]
    split
    · rfl
    · omega
  rw [h1, h.slF, h.w, h.cd]
theorem newF_off : ∀ (L : List AcL) (A : As) (b : List UInt8), b ∉ L.map AcL.a → L.foldl (fun A x => A.upd x.a x.take) A b = A b
  | [], A, b, _ => rfl
  | x :: L, A, b, h => by
    simp only [List.map_cons, List.mem_cons, not_or] at h
    rw [List.foldl_cons, newF_off L _ b h.2]
    unfold As.upd
    rw [if_neg fun e => h.1 e.symm]
theorem newF_at : ∀ (L : List AcL) (A : As) (x : AcL), x ∈ L → (L.Pairwise fun x y => x.a < y.a) → L.foldl (fun A x => A.upd x.a x.take) A x.a = x.take
  | [], A, x, h, _ => by simp at h
  | d :: L, A, x, h, ho => by
    obtain ⟨h1, h2⟩ := List.pairwise_cons.1 ho
    rw [List.foldl_cons]
    rcases List.mem_cons.1 h with rfl | h
    · rw [newF_off L _ x.a fun hm => by
        obtain ⟨y, hy, hya⟩ := List.mem_map.1 hm
        have := h1 y hy
        rw [hya] at this
        exact List.lt_irrefl _ this, upd_same]
    · exact newF_at L _ x h h2
theorem Canon.new {A : As} {L : List AcL} (h : Canon A L) (hn : ∀ a, 0 ≤ (A a).n) : newA L = A := by
  funext b
  unfold newA
  by_cases hb : b ∈ L.map AcL.a
  · obtain ⟨x, hx, rfl⟩ := List.mem_map.1 hb
    rw [newF_at L _ x hx h.ord, (h.mem x hx).1.take (hn _)]
  · rw [newF_off L _ b hb]
    refine Classical.byContradiction fun hne => hb ?_
    obtain ⟨x, hx, e⟩ := h.all b fun e => hne e.symm
    exact List.mem_map.2 ⟨x, hx, e⟩
theorem Canon.length_le {l L : List AcL} (h : Canon (newA l) L) : L.length ≤ l.length := by
  have h1 : (L.map AcL.a).Nodup := by
    have := h.ord
    unfold List.Nodup
    rw [List.pairwise_map]
    exact this.imp fun h e => by rw [e] at h; exact List.lt_irrefl _ h
  have h2 : ∀ b ∈ L.map AcL.a, b ∈ l.map AcL.a := fun b hb => by
    obtain ⟨x, hx, rfl⟩ := List.mem_map.1 hb
    refine Classical.byContradiction fun hn => (h.mem x hx).2 ?_
    unfold newA
    rw [newF_off l _ _ hn]
  have := h1.length_le_of_subset h2
  simpa using this
end E
end Go.Proofs.YtdhicdnmgmkpkaaGreat
/-
  Which slots are not the same, by a map (plain law).
  Conditions: none.
-/
namespace Go.Proofs.YtdhicdnmgmkpkaaGreat
set_option linter.unusedVariables false
open Go.RowKit Mono Rlp Wd Go.Sort
namespace E
abbrev OpF := List UInt8 → Option (List UInt8)
def OpF.put (F : OpF) (k v : List UInt8) : OpF := fun q => if k = q then some v else F q
def OpF.del (F : OpF) (k : List UInt8) : OpF := fun q => if k = q then none else F q
def slF1 (a : List (List UInt8 × List UInt8)) : OpF := a.foldl (fun F x => F.put x.1 zero32) fun _ => none
def slF2 (b : List (List UInt8 × List UInt8)) (F : OpF) : OpF := b.foldl (fun F x => F.put x.1 x.2) F
def OpF.cut (F : OpF) (x : List UInt8 × List UInt8) : OpF := if (F x.1).getD zero32 = x.2 then F.del x.1 else F
def slF3 (a : List (List UInt8 × List UInt8)) (F : OpF) : OpF := a.foldl OpF.cut F
theorem slF1_snoc (a : List (List UInt8 × List UInt8)) (x : List UInt8 × List UInt8) : slF1 (a ++ [x]) = (slF1 a).put x.1 zero32 := by unfold slF1; rw [List.foldl_append]; rfl
theorem slF2_snoc (a : List (List UInt8 × List UInt8)) (F : OpF) (x : List UInt8 × List UInt8) : slF2 (a ++ [x]) F = (slF2 a F).put x.1 x.2 := by unfold slF2; rw [List.foldl_append]; rfl
theorem slF3_snoc (a : List (List UInt8 × List UInt8)) (F : OpF) (x : List UInt8 × List UInt8) : slF3 (a ++ [x]) F = (slF3 a F).cut x := by unfold slF3; rw [List.foldl_append]; rfl
theorem slF2_at (z k : List UInt8) : ∀ (b : List (List UInt8 × List UInt8)) (F : OpF), (∀ p ∈ b, p.1 = k → p.2 = z) → slF2 b F k = if k ∈ b.map Prod.fst then some z else F k
  | [], F, _ => by simp [slF2]
  | p :: b, F, h => by
    have e : slF2 (p :: b) F = slF2 b (F.put p.1 p.2) := rfl
    rw [e, slF2_at z k b _ fun q hq => h q (List.mem_cons_of_mem _ hq)]
    by_cases h1 : k ∈ b.map Prod.fst
    · rw [if_pos h1, if_pos (by simp only [List.map_cons, List.mem_cons]; exact .inr h1)]
    · rw [if_neg h1]
      unfold OpF.put
      by_cases h2 : p.1 = k
      · rw [if_pos h2, if_pos (by simp [h2]), h p List.mem_cons_self h2]
      · rw [if_neg h2, if_neg (by simp only [List.map_cons, List.mem_cons, not_or]; exact ⟨fun e => h2 e.symm, h1⟩)]
theorem slF1_at (k : List UInt8) (a : List (List UInt8 × List UInt8)) : slF1 a k = if k ∈ a.map Prod.fst then some zero32 else none := by
  have e : slF1 a = slF2 (a.map fun p => (p.1, zero32)) fun _ => none := by
    unfold slF1 slF2
    rw [List.foldl_map]
  rw [e, slF2_at zero32 k _ _ fun p hp _ => by obtain ⟨q, _, rfl⟩ := List.mem_map.1 hp; rfl, List.map_map]
  rfl
theorem slF3_at (z k : List UInt8) (hz : z ≠ zero32) : ∀ (a : List (List UInt8 × List UInt8)) (F : OpF), (∀ p ∈ a, p.1 = k → p.2 = z) → slF3 a F k = if k ∈ a.map Prod.fst ∧ (F k).getD zero32 = z then none else F k
  | [], F, _ => by simp [slF3]
  | p :: a, F, h => by
    have e : slF3 (p :: a) F = slF3 a (F.cut p) := rfl
    rw [e, slF3_at z k hz a _ fun q hq => h q (List.mem_cons_of_mem _ hq)]
    by_cases h2 : p.1 = k
    · have hp2 := h p List.mem_cons_self h2
      by_cases h3 : (F k).getD zero32 = z
      · have hc : F.cut p k = none := by
          unfold OpF.cut
          rw [h2, hp2, if_pos h3]
          unfold OpF.del
          rw [if_pos rfl]
        rw [hc]
        rw [if_neg (by rintro ⟨_, h4⟩; exact hz h4.symm), if_pos ⟨by simp [h2], h3⟩]
      · have hc : F.cut p = F := by
          unfold OpF.cut
          rw [h2, hp2, if_neg h3]
        rw [hc, if_neg fun h => h3 h.2, if_neg fun h => h3 h.2]
    · have hc : F.cut p k = F k := by
        unfold OpF.cut
        split
        · unfold OpF.del
          rw [if_neg h2]
        · rfl
      rw [hc]
      have hm : k ∈ (p :: a).map Prod.fst ↔ k ∈ a.map Prod.fst := by
        simp only [List.map_cons, List.mem_cons]
        exact ⟨fun h => h.resolve_left fun e => h2 e.symm, .inr⟩
      simp only [hm]
def slDiff (a b : List (List UInt8 × List UInt8)) : OpF := slF3 a (slF2 b (slF1 a))
theorem AcL.Is.keys {x : AcL} {y : Ac} (h : x.Is y) (k : List UInt8) : k ∈ x.sl.map Prod.fst ↔ y.sl k ≠ zero32 := by
  constructor
  · intro hk
    obtain ⟨p, hp, rfl⟩ := List.mem_map.1 hk
    obtain ⟨h1, h2⟩ := h.val p hp
    rw [← h1]
    exact h2
  · intro hk
    obtain ⟨p, hp, e⟩ := h.all k hk
    exact List.mem_map.2 ⟨p, hp, e⟩
theorem slDiff_iff {a b : AcL} {x y : Ac} (ha : a.Is x) (hb : b.Is y) (k v : List UInt8) : slDiff a.sl b.sl k = some v ↔ x.sl k ≠ y.sl k ∧ v = y.sl k := by
  have h2 : slF2 b.sl (slF1 a.sl) k = if y.sl k ≠ zero32 ∨ x.sl k ≠ zero32 then some (y.sl k) else none := by
    rw [slF2_at (y.sl k) k _ _ fun p hp e => by rw [(hb.val p hp).1, e], slF1_at]
    by_cases h1 : k ∈ b.sl.map Prod.fst
    · rw [if_pos h1, if_pos (.inl ((hb.keys k).1 h1))]
    · rw [if_neg h1]
      have h1' : y.sl k = zero32 := Classical.byContradiction fun h => h1 ((hb.keys k).2 h)
      by_cases h3 : k ∈ a.sl.map Prod.fst
      · rw [if_pos h3, if_pos (.inr ((ha.keys k).1 h3)), h1']
      · rw [if_neg h3, if_neg]
        rintro (h | h)
        · exact h h1'
        · exact h3 ((ha.keys k).2 h)
  unfold slDiff
  by_cases hx : x.sl k = zero32
  · have hn : k ∉ a.sl.map Prod.fst := fun h => (ha.keys k).1 h hx
    have h3 : slF3 a.sl (slF2 b.sl (slF1 a.sl)) k = slF2 b.sl (slF1 a.sl) k := by
      have := slF3_at [] k (by decide) a.sl (slF2 b.sl (slF1 a.sl)) fun p hp e => absurd (List.mem_map.2 ⟨p, hp, e⟩) hn
      rw [this, if_neg fun h => hn h.1]
    rw [h3, h2, hx]
    by_cases hy : y.sl k = zero32
    · rw [if_neg (by rintro (h | h); exact h hy; exact h rfl), hy]
      simp
    · rw [if_pos (.inl hy)]
      simp only [Option.some.injEq]
      exact ⟨fun h => ⟨fun e => hy e.symm, h.symm⟩, fun h => h.2.symm⟩
  · have hm := (ha.keys k).2 hx
    rw [slF3_at (x.sl k) k hx a.sl _ fun p hp e => by rw [(ha.val p hp).1, e], h2, show (if y.sl k ≠ zero32 ∨ x.sl k ≠ zero32 then some (y.sl k) else none) = some (y.sl k) from if_pos (.inr hx)]
    simp only [Option.getD_some, hm, true_and]
    by_cases he : y.sl k = x.sl k
    · rw [if_pos he]
      constructor
      · intro h
        cases h
      · rintro ⟨h, _⟩
        exact absurd he.symm h
    · rw [if_neg he]
      simp only [Option.some.injEq]
      exact ⟨fun h => ⟨fun e => he e.symm, h.symm⟩, fun h => h.2.symm⟩
structure MapF (es : List Ent) (F : OpF) (N : Nat) : Prop where
  at_ : ∀ k, getE es k = (F k).map (D.arr 32)
  nod : (es.map (·.2.1)).Nodup
  len : es.length ≤ N
theorem MapF.nil : MapF [] (fun _ => none) 0 := ⟨fun k => rfl, List.nodup_nil, Nat.le_refl _⟩
theorem MapF.put {es : List Ent} {F : OpF} {N c : Nat} (h : MapF es F N) (k v : List UInt8) : MapF (putE c es k (.arr 32 v)) (F.put k v) (N + 1) := ⟨fun q => by
  rw [getE_putE]
  unfold OpF.put
  split
  · rfl
  · exact h.at_ q, putE_nodup _ _ _ _ h.nod, Nat.le_trans (putE_length _ _ _ _) (Nat.succ_le_succ h.len)⟩
theorem MapF.del {es : List Ent} {F : OpF} {N : Nat} (h : MapF es F N) (k : List UInt8) : MapF (delE es k) (F.del k) N := ⟨fun q => by
  rw [getE_delE _ _ _ h.nod]
  unfold OpF.del
  split
  · rfl
  · exact h.at_ q, h.nod.sublist ((delE_sub _ _).map _), Nat.le_trans (delE_length _ _) h.len⟩
theorem MapF.getD {es : List Ent} {F : OpF} {N : Nat} (h : MapF es F N) (k : List UInt8) : (getE es k).getD (.arr 32 zero32) = .arr 32 ((F k).getD zero32) := by
  rw [h.at_]
  cases F k <;> rfl
theorem MapF.mem {es : List Ent} {F : OpF} {N : Nat} (h : MapF es F N) (k : List UInt8) : k ∈ es.map (·.2.1) ↔ ∃ v, F k = some v := by
  have h1 := h.at_ k
  constructor
  · intro hk
    obtain ⟨d, hd⟩ := getE_some hk
    rw [hd] at h1
    cases hF : F k with
    | none => rw [hF] at h1; cases h1
    | some v => exact ⟨v, rfl⟩
  · rintro ⟨v, hv⟩
    rw [hv] at h1
    exact Classical.byContradiction fun hn => by
      rw [(getE_none es k).2 hn] at h1
      cases h1
structure RiseF (F : OpF) (L : List (List UInt8 × List UInt8)) : Prop where
  ord : L.Pairwise fun p q => p.1 < q.1
  mem : ∀ k v, (k, v) ∈ L ↔ F k = some v
theorem MapF.rise {es : List Ent} {F : OpF} {N : Nat} (h : MapF es F N) : RiseF F ((sortL (es.map (·.2.1))).map fun k => (k, (F k).getD zero32)) := by
  refine ⟨?_, fun k v => ?_⟩
  · rw [List.pairwise_map]
    exact sortL_lt h.nod
  · rw [List.mem_map]
    constructor
    · rintro ⟨q, hq, e⟩
      obtain ⟨v', hv'⟩ := (h.mem q).1 ((sortL_perm _).mem_iff.1 hq)
      simp only [Prod.mk.injEq] at e
      obtain ⟨rfl, rfl⟩ := e
      rw [hv']
      rfl
    · intro hv
      refine ⟨k, (sortL_perm _).mem_iff.2 ((h.mem k).2 ⟨v, hv⟩), ?_⟩
      rw [hv]
      rfl
end E
end Go.Proofs.YtdhicdnmgmkpkaaGreat
/-
  The program's snap: which slots are not the same.
  Conditions: none.
-/
namespace Go.Proofs.YtdhicdnmgmkpkaaGreat
set_option linter.unusedVariables false
open Go.RowKit Mono Rlp Wd Go.Sort
namespace E
theorem OpF.cut_yes {F : OpF} {x : List UInt8 × List UInt8} (h : ((F x.1).getD zero32 == x.2) = true) : F.cut x = F.del x.1 := by
  unfold OpF.cut
  rw [if_pos (by simpa using h)]
theorem OpF.cut_no {F : OpF} {x : List UInt8 × List UInt8} (h : ((F x.1).getD zero32 == x.2) = false) : F.cut x = F := by
  unfold OpF.cut
  rw [if_neg (by simpa using h)]
set_option maxRecDepth 20000 in
set_option maxHeartbeats 16000000 in
theorem slots_ (a b : List (List UInt8 × List UInt8)) (ha : a.length ≤ 1000000) (hb : b.length ≤ 1000000) : FnM 98 [.sl 64 (a.map dSlL), .sl 64 (b.map dSlL)] [] (fun r os' => (∃ L, RiseF (slDiff a b) L ∧ L.length ≤ a.length + b.length ∧ r = .val (.sl 64 (L.map dSlL))) ∧ os' = []) := by
  have hma : (a.map dSlL).length = a.length := List.length_map _
  have hmb : (b.map dSlL).length = b.length := List.length_map _
  refine FnM.walk 74 Tryz.func98 rfl Tryz.ntmps98 (by simp) fun X => ?_
  repeat
    (first
     | (apply P_move; (iterate 3 exact rfl)) | (apply P_assign; (iterate 3 exact rfl)) | (apply P_lensl; (iterate 4 exact rfl)) | (apply P_makeMap; exact rfl; exact rfl; exact rfl; intro _) | apply EL.nil
     | ((with_reducible apply EK.then_normal); apply EK.code)
     | (with_reducible first | apply EC.seq | apply EC.region | apply EC.skip | apply EC.label | apply EC.block | apply EC.exit | apply EC.ret | apply EK.in_normal | apply EK.in_same | apply EK.in_ret | apply EK.then_ret | apply EK.then_exit))
  rename_i m
  refine EC.loop (ι := {x : Nat × Nat × List Ent // x.1 ≤ a.length ∧ MapF x.2.2 (slF1 (a.take x.1)) x.1})
    (fun x => ⟨[(18, .val (.v (.int .i64 (x.1.1 : Int)))), (17, .val (.v (.int .i64 (a.map dSlL).length))), (16, .val (.sl 64 (a.map dSlL))), (5, .val (.v (.map (some m)))), (1, .val (.sl 64 (b.map dSlL))), (0, .val (.sl 64 (a.map dSlL)))], [.map m 32 x.1.2.1 x.1.2.2], []⟩)
    (fun x => a.length - x.1.1) ⟨(0, 0, []), Nat.zero_le _, MapF.nil⟩ ?_ ?_
  · exact (Le.keep (by repeat first | exact trivial | refine ⟨rfl, ?_⟩) (by repeat first | exact List.nil_sublist _ | apply List.Sublist.cons_cons | apply List.Sublist.cons) (by simp))
  rintro ⟨⟨i, c, es⟩, hi, hm⟩
  dsimp only at hi hm ⊢
  by_cases hlt : i < a.length
  · have hd : (a.map dSlL)[i]? = some (dSlL a[i]) := by rw [List.getElem?_map, List.getElem?_eq_getElem hlt]; rfl
    have htk : a.take (i + 1) = a.take i ++ [a[i]] := List.take_succ_eq_append_getElem hlt
    generalize a[i] = x at hd htk
    obtain ⟨q, v⟩ := x
    unfold dSlL at hd
    dsimp only at hd
    repeat
      (first
       | (apply P_move; (iterate 3 exact rfl)) | (apply P_field; (iterate 6 exact rfl)) | (apply P_loadpd; (iterate 5 exact rfl))
       | (apply P_load; exact rfl; (first | exact I0 | exact I1 | exact I2 | exact I3 | exact I4 | exact I5 | exact I6); (iterate 4 exact rfl))
       | (apply P_cmp (b := true); (iterate 2 exact rfl); (focus (first | (simp [cmpI]; done) | (simp [cmpI]; omega))); (iterate 2 exact rfl))
       | (apply P_ar; (iterate 3 exact rfl); (focus omega); (focus omega); (iterate 2 exact rfl))
       | (apply P_index; (iterate 4 exact rfl); (focus (first | exact ⟨by decide, rfl⟩ | (refine ⟨by omega, ?_⟩; rw [Int.toNat_natCast]; assumption))); (iterate 2 exact rfl))
       | (apply P_build0; (iterate 5 exact rfl)) | (apply P_mapUpd; exact rfl; (focus (repeat first | exact .z | apply SetAt.s | apply SetAtF.s)); (iterate 4 exact rfl))
       | (apply P_alloc; exact rfl; exact rfl; exact rfl; intro _) | (apply P_store; exact rfl; (focus (repeat first | exact .z | apply SetAt.s | apply SetAtF.s)); (iterate 4 exact rfl)) | apply EL.nil
       | ((with_reducible apply EK.then_normal); apply EK.code) | (apply EC.cond_true; exact rfl)
       | (with_reducible first | apply EC.seq | apply EC.region | apply EC.skip | apply EC.label | apply EC.block | apply EC.exit | apply EC.ret | apply EK.in_normal | apply EK.in_same | apply EK.in_ret | apply EK.then_ret | apply EK.then_exit))
    refine EK.again ⟨(i + 1, tickE c es q, putE c es q (.arr 32 zero32)), hlt, by rw [htk, slF1_snoc]; exact hm.put q zero32⟩ (by dsimp only; omega) ?_
    simp only [Int.natCast_add]
    exact (Le.keep (by repeat first | exact trivial | refine ⟨rfl, ?_⟩) (by repeat first | exact List.nil_sublist _ | apply List.Sublist.cons_cons | apply List.Sublist.cons) (by simp))
  have hiE : i = a.length := by omega
  subst hiE
  rw [List.take_length] at hm
  repeat
    (first
     | (apply P_move; (iterate 3 exact rfl)) | (apply P_cmp (b := false); (iterate 2 exact rfl); (focus (first | (simp [cmpI]; done) | (simp [cmpI]; omega))); (iterate 2 exact rfl))
     | (apply P_lensl; (iterate 4 exact rfl)) | apply EL.nil | ((with_reducible apply EK.then_normal); apply EK.code) | (apply EC.cond_false; exact rfl)
     | (with_reducible first | apply EC.seq | apply EC.region | apply EC.skip | apply EC.label | apply EC.block | apply EC.exit | apply EC.ret | apply EK.in_normal | apply EK.in_same | apply EK.in_ret | apply EK.then_ret | apply EK.then_exit))
  refine EC.loop (ι := {x : Nat × Nat × List Ent // x.1 ≤ b.length ∧ MapF x.2.2 (slF2 (b.take x.1) (slF1 a)) (a.length + x.1)})
    (fun x => ⟨[(29, .val (.v (.int .i64 (x.1.1 : Int)))), (28, .val (.v (.int .i64 (b.map dSlL).length))), (27, .val (.sl 64 (b.map dSlL))), (5, .val (.v (.map (some m)))), (0, .val (.sl 64 (a.map dSlL)))], [.map m 32 x.1.2.1 x.1.2.2], []⟩)
    (fun x => b.length - x.1.1) ⟨(0, c, es), Nat.zero_le _, hm⟩ ?_ ?_
  · exact (Le.keep (by repeat first | exact trivial | refine ⟨rfl, ?_⟩) (by repeat first | exact List.nil_sublist _ | apply List.Sublist.cons_cons | apply List.Sublist.cons) (by simp))
  rintro ⟨⟨i, c, es⟩, hi, hm⟩
  dsimp only at hi hm ⊢
  by_cases hlt : i < b.length
  · have hd : (b.map dSlL)[i]? = some (dSlL b[i]) := by rw [List.getElem?_map, List.getElem?_eq_getElem hlt]; rfl
    have htk : b.take (i + 1) = b.take i ++ [b[i]] := List.take_succ_eq_append_getElem hlt
    generalize b[i] = x at hd htk
    obtain ⟨q, v⟩ := x
    unfold dSlL at hd
    dsimp only at hd
    repeat
      (first
       | (apply P_move; (iterate 3 exact rfl)) | (apply P_field; (iterate 6 exact rfl)) | (apply P_loadpd; (iterate 5 exact rfl))
       | (apply P_load; exact rfl; (first | exact I0 | exact I1 | exact I2 | exact I3 | exact I4 | exact I5 | exact I6); (iterate 4 exact rfl))
       | (apply P_cmp (b := true); (iterate 2 exact rfl); (focus (first | (simp [cmpI]; done) | (simp [cmpI]; omega))); (iterate 2 exact rfl))
       | (apply P_ar; (iterate 3 exact rfl); (focus omega); (focus omega); (iterate 2 exact rfl))
       | (apply P_index; (iterate 4 exact rfl); (focus (first | exact ⟨by decide, rfl⟩ | (refine ⟨by omega, ?_⟩; rw [Int.toNat_natCast]; assumption))); (iterate 2 exact rfl))
       | (apply P_mapUpd; exact rfl; (focus (repeat first | exact .z | apply SetAt.s | apply SetAtF.s)); (iterate 4 exact rfl)) | (apply P_alloc; exact rfl; exact rfl; exact rfl; intro _)
       | (apply P_store; exact rfl; (focus (repeat first | exact .z | apply SetAt.s | apply SetAtF.s)); (iterate 4 exact rfl)) | apply EL.nil | ((with_reducible apply EK.then_normal); apply EK.code)
       | (apply EC.cond_true; exact rfl)
       | (with_reducible first | apply EC.seq | apply EC.region | apply EC.skip | apply EC.label | apply EC.block | apply EC.exit | apply EC.ret | apply EK.in_normal | apply EK.in_same | apply EK.in_ret | apply EK.then_ret | apply EK.then_exit))
    refine EK.again ⟨(i + 1, tickE c es q, putE c es q (.arr 32 v)), hlt, by rw [htk, slF2_snoc]; exact hm.put q v⟩ (by dsimp only; omega) ?_
    simp only [Int.natCast_add]
    exact (Le.keep (by repeat first | exact trivial | refine ⟨rfl, ?_⟩) (by repeat first | exact List.nil_sublist _ | apply List.Sublist.cons_cons | apply List.Sublist.cons) (by simp))
  have hiE : i = b.length := by omega
  subst hiE
  rw [List.take_length] at hm
  repeat
    (first
     | (apply P_move; (iterate 3 exact rfl)) | (apply P_cmp (b := false); (iterate 2 exact rfl); (focus (first | (simp [cmpI]; done) | (simp [cmpI]; omega))); (iterate 2 exact rfl))
     | (apply P_lensl; (iterate 4 exact rfl)) | apply EL.nil | ((with_reducible apply EK.then_normal); apply EK.code) | (apply EC.cond_false; exact rfl)
     | (with_reducible first | apply EC.seq | apply EC.region | apply EC.skip | apply EC.label | apply EC.block | apply EC.exit | apply EC.ret | apply EK.in_normal | apply EK.in_same | apply EK.in_ret | apply EK.then_ret | apply EK.then_exit))
  refine EC.loop (ι := {x : Nat × List Ent // x.1 ≤ a.length ∧ MapF x.2 (slF3 (a.take x.1) (slF2 b (slF1 a))) (a.length + b.length)})
    (fun x => ⟨[(41, .val (.v (.int .i64 (x.1.1 : Int)))), (40, .val (.v (.int .i64 (a.map dSlL).length))), (39, .val (.sl 64 (a.map dSlL))), (5, .val (.v (.map (some m))))], [.map m 32 c x.1.2], []⟩)
    (fun x => a.length - x.1.1) ⟨(0, es), Nat.zero_le _, hm⟩ ?_ ?_
  · exact (Le.keep (by repeat first | exact trivial | refine ⟨rfl, ?_⟩) (by repeat first | exact List.nil_sublist _ | apply List.Sublist.cons_cons | apply List.Sublist.cons) (by simp))
  rintro ⟨⟨i, es⟩, hi, hm⟩
  dsimp only at hi hm ⊢
  by_cases hlt : i < a.length
  · have hd : (a.map dSlL)[i]? = some (dSlL a[i]) := by rw [List.getElem?_map, List.getElem?_eq_getElem hlt]; rfl
    have htk : a.take (i + 1) = a.take i ++ [a[i]] := List.take_succ_eq_append_getElem hlt
    generalize a[i] = x at hd htk
    obtain ⟨q, v⟩ := x
    unfold dSlL at hd
    dsimp only at hd
    have hg := hm.getD q
    cases he : ((slF3 (a.take i) (slF2 b (slF1 a)) q).getD zero32 == v) with
    | true =>
      have hb2 := (bin_word ((slF3 (a.take i) (slF2 b (slF1 a)) q).getD zero32) v).1
      rw [he] at hb2
      have hcut := OpF.cut_yes (F := slF3 (a.take i) (slF2 b (slF1 a))) (x := (q, v)) he
      generalize (slF3 (a.take i) (slF2 b (slF1 a)) q).getD zero32 = u at hg hb2
      repeat
        (first
         | (apply P_loadpd; (iterate 5 exact rfl)) | (apply P_cmp (b := true); (iterate 2 exact rfl); (focus (first | (simp [cmpI]; done) | (simp [cmpI]; omega))); (iterate 2 exact rfl))
         | (apply P_index; (iterate 4 exact rfl); (focus (first | exact ⟨by decide, rfl⟩ | (refine ⟨by omega, ?_⟩; rw [Int.toNat_natCast]; assumption))); (iterate 2 exact rfl))
         | (apply P_alloc; exact rfl; exact rfl; exact rfl; intro _) | (apply P_store; exact rfl; (focus (repeat first | exact .z | apply SetAt.s | apply SetAtF.s)); (iterate 4 exact rfl)) | apply EL.nil
         | ((with_reducible apply EK.then_normal); apply EK.code) | (apply EC.cond_true; exact rfl)
         | (with_reducible first | apply EC.seq | apply EC.region | apply EC.skip | apply EC.label | apply EC.block | apply EC.exit | apply EC.ret | apply EK.in_normal | apply EK.in_same | apply EK.in_ret | apply EK.then_ret | apply EK.then_exit))
      refine EC.draw 7 (by kernel_rfl) ?_
      simp only [List.take_succ_cons, List.take_zero, List.drop_succ_cons, List.drop_zero]
      repeat
        (first
         | (apply H_lookup; exact hg; exact rfl; (first | exact I0 | exact I1 | exact I2 | exact I3 | exact I4 | exact I5); (iterate 5 exact rfl))
         | (apply H_bin; (iterate 2 exact rfl); exact hb2; (iterate 2 exact rfl)) | (apply H_move; (iterate 3 exact rfl)) | (apply H_field; (iterate 6 exact rfl))
         | (apply H_load; exact rfl; (first | exact I0 | exact I1 | exact I2 | exact I3 | exact I4 | exact I5 | exact I6); (iterate 4 exact rfl)) | ((with_reducible apply EH.nil); exact rfl))
      repeat
        (first
         | (apply P_move; (iterate 3 exact rfl)) | (apply P_field; (iterate 6 exact rfl))
         | (apply P_load; exact rfl; (first | exact I0 | exact I1 | exact I2 | exact I3 | exact I4 | exact I5 | exact I6); (iterate 4 exact rfl))
         | (apply P_ar; (iterate 3 exact rfl); (focus omega); (focus omega); (iterate 2 exact rfl))
         | (apply P_delete; exact rfl; (focus (repeat first | exact .z | apply SetAt.s | apply SetAtF.s)); (iterate 3 exact rfl)) | apply EL.nil | ((with_reducible apply EK.then_normal); apply EK.code)
         | (apply EC.cond_true; exact rfl)
         | (with_reducible first | apply EC.seq | apply EC.region | apply EC.skip | apply EC.label | apply EC.block | apply EC.exit | apply EC.ret | apply EK.in_normal | apply EK.in_same | apply EK.in_ret | apply EK.then_ret | apply EK.then_exit))
      refine EK.again ⟨(i + 1, delE es q), hlt, by rw [htk, slF3_snoc, hcut]; exact hm.del q⟩ (by dsimp only; omega) ?_
      simp only [Int.natCast_add]
      exact (Le.keep (by repeat first | exact trivial | refine ⟨rfl, ?_⟩) (by repeat first | exact List.nil_sublist _ | apply List.Sublist.cons_cons | apply List.Sublist.cons) (by simp))
    | false =>
      have hb2 := (bin_word ((slF3 (a.take i) (slF2 b (slF1 a)) q).getD zero32) v).1
      rw [he] at hb2
      have hcut := OpF.cut_no (F := slF3 (a.take i) (slF2 b (slF1 a))) (x := (q, v)) he
      generalize (slF3 (a.take i) (slF2 b (slF1 a)) q).getD zero32 = u at hg hb2
      repeat
        (first
         | (apply P_loadpd; (iterate 5 exact rfl)) | (apply P_cmp (b := true); (iterate 2 exact rfl); (focus (first | (simp [cmpI]; done) | (simp [cmpI]; omega))); (iterate 2 exact rfl))
         | (apply P_index; (iterate 4 exact rfl); (focus (first | exact ⟨by decide, rfl⟩ | (refine ⟨by omega, ?_⟩; rw [Int.toNat_natCast]; assumption))); (iterate 2 exact rfl))
         | (apply P_alloc; exact rfl; exact rfl; exact rfl; intro _) | (apply P_store; exact rfl; (focus (repeat first | exact .z | apply SetAt.s | apply SetAtF.s)); (iterate 4 exact rfl)) | apply EL.nil
         | ((with_reducible apply EK.then_normal); apply EK.code) | (apply EC.cond_true; exact rfl)
         | (with_reducible first | apply EC.seq | apply EC.region | apply EC.skip | apply EC.label | apply EC.block | apply EC.exit | apply EC.ret | apply EK.in_normal | apply EK.in_same | apply EK.in_ret | apply EK.then_ret | apply EK.then_exit))
      refine EC.draw 7 (by kernel_rfl) ?_
      simp only [List.take_succ_cons, List.take_zero, List.drop_succ_cons, List.drop_zero]
      repeat
        (first
         | (apply H_lookup; exact hg; exact rfl; (first | exact I0 | exact I1 | exact I2 | exact I3 | exact I4 | exact I5); (iterate 5 exact rfl))
         | (apply H_bin; (iterate 2 exact rfl); exact hb2; (iterate 2 exact rfl)) | (apply H_move; (iterate 3 exact rfl)) | (apply H_field; (iterate 6 exact rfl))
         | (apply H_load; exact rfl; (first | exact I0 | exact I1 | exact I2 | exact I3 | exact I4 | exact I5 | exact I6); (iterate 4 exact rfl)) | ((with_reducible apply EH.nil); exact rfl))
      repeat
        (first
         | (apply P_move; (iterate 3 exact rfl)) | (apply P_ar; (iterate 3 exact rfl); (focus omega); (focus omega); (iterate 2 exact rfl)) | apply EL.nil | ((with_reducible apply EK.then_normal); apply EK.code)
         | (apply EC.cond_false; exact rfl)
         | (with_reducible first | apply EC.seq | apply EC.region | apply EC.skip | apply EC.label | apply EC.block | apply EC.exit | apply EC.ret | apply EK.in_normal | apply EK.in_same | apply EK.in_ret | apply EK.then_ret | apply EK.then_exit))
      refine EK.again ⟨(i + 1, es), hlt, by rw [htk, slF3_snoc, hcut]; exact hm⟩ (by dsimp only; omega) ?_
      simp only [Int.natCast_add]
      exact (Le.keep (by repeat first | exact trivial | refine ⟨rfl, ?_⟩) (by repeat first | exact List.nil_sublist _ | apply List.Sublist.cons_cons | apply List.Sublist.cons) (by simp))
  have hiE : i = a.length := by omega
  subst hiE
  rw [List.take_length] at hm
  have hm : MapF es (slDiff a b) (a.length + b.length) := hm
  have hel := hm.len
  have h3 := keys_word m
  have h4 := fun gk => sorted_word 81 cmp_word enters_tc gk m c es (by omega)
  have hKl : (sortL (es.map (·.2.1))).length = es.length := by rw [(sortL_perm _).length_eq, List.length_map]
  have hR := hm.rise
  generalize sortL (es.map (·.2.1)) = K at h4 hKl hR
  have hmk : (K.map (D.arr 32)).length = K.length := List.length_map _
  repeat
    (first
     | (apply P_callM (os := []) h3; (iterate 2 exact rfl); exact RefineL.refl _ _; (focus (intro _ _; simp [go_sem]; done)); (iterate 2 exact rfl); rintro _ _ ⟨gk2, rfl, rfl⟩; simp only [List.cons_append, List.nil_append]; apply P_callM (os := [.var gk2 113 (.v (.map (some m))), .map m 32 c es]) (h4 gk2); (iterate 2 exact rfl); exact RefineL.refl _ _; (focus (intro _ _; simp [go_sem]; done)); (iterate 2 exact rfl); rintro _ _ ⟨kv2, rfl, rfl⟩; refine EL.le (Le.freeze (pre := []) rfl) ?_; refine EL.le (Le.refine (t := 58) (d' := .sl 32 (K.map (D.arr 32))) rfl (Rf.fact (by simp) rfl)) ?_; simp only [List.nil_append])
     | (apply P_move; (iterate 3 exact rfl)) | (apply P_assign; (iterate 3 exact rfl))
     | (apply P_cmp (b := false); (iterate 2 exact rfl); (focus (first | (simp [cmpI]; done) | (simp [cmpI]; omega))); (iterate 2 exact rfl)) | (apply P_lensl; (iterate 4 exact rfl)) | apply EL.nil
     | ((with_reducible apply EK.then_normal); apply EK.code) | (apply EC.cond_false; exact rfl)
     | (with_reducible first | apply EC.seq | apply EC.region | apply EC.skip | apply EC.label | apply EC.block | apply EC.exit | apply EC.ret | apply EK.in_normal | apply EK.in_same | apply EK.in_ret | apply EK.then_ret | apply EK.then_exit))
  refine EC.le (Le.row 103 64) ?_
  refine EC.loop (ι := {x : Nat × Value // x.1 ≤ K.length})
    (fun x => ⟨[(60, .val (.v (.int .i64 (x.1.1 : Int)))), (59, .val (.v (.int .i64 (K.map (D.arr 32)).length))), (58, .val (.sl 32 (K.map (D.arr 32)))), (12, .val (.v x.1.2)), (5, .val (.v (.map (some m))))],
      [.row x.1.2 103 64 ((K.take x.1.1).map fun k => dSlL (k, (slDiff a b k).getD zero32)), .map m 32 c es], []⟩)
    (fun x => K.length - x.1.1) ⟨(0, nilS), Nat.zero_le _⟩ ?_ ?_
  · exact (Le.keep (by repeat first | exact trivial | refine ⟨rfl, ?_⟩) (by repeat first | exact List.nil_sublist _ | apply List.Sublist.cons_cons | apply List.Sublist.cons) (by simp))
  rintro ⟨⟨j, sv⟩, hjK⟩
  dsimp only at hjK ⊢
  by_cases hlj : j < K.length
  · have hd2 : (K.map (D.arr 32))[j]? = some (D.arr 32 K[j]) := by rw [List.getElem?_map, List.getElem?_eq_getElem hlj]; rfl
    have hg2 := hm.getD K[j]
    have htk : (K.take (j + 1)).map (fun k => dSlL (k, (slDiff a b k).getD zero32)) = (K.take j).map (fun k => dSlL (k, (slDiff a b k).getD zero32)) ++ [dSlL (K[j], (slDiff a b K[j]).getD zero32)] := by rw [List.take_succ_eq_append_getElem hlj, List.map_append]; rfl
    have hl3 : ((K.take j).map fun k => dSlL (k, (slDiff a b k).getD zero32)).length = j := by rw [List.length_map, List.length_take]; omega
    generalize K[j] = q at hd2 hg2 htk
    generalize (K.take j).map (fun k => dSlL (k, (slDiff a b k).getD zero32)) = R at htk hl3 ⊢
    repeat
      (first
       | (apply P_loadpd; (iterate 5 exact rfl)) | (apply P_cmp (b := true); (iterate 2 exact rfl); (focus (first | (simp [cmpI]; done) | (simp [cmpI]; omega))); (iterate 2 exact rfl))
       | (apply P_index; (iterate 4 exact rfl); (focus (first | exact ⟨by decide, rfl⟩ | (refine ⟨by omega, ?_⟩; rw [Int.toNat_natCast]; assumption))); (iterate 2 exact rfl))
       | (apply P_alloc; exact rfl; exact rfl; exact rfl; intro _) | (apply P_store; exact rfl; (focus (repeat first | exact .z | apply SetAt.s | apply SetAtF.s)); (iterate 4 exact rfl)) | apply EL.nil
       | ((with_reducible apply EK.then_normal); apply EK.code) | (apply EC.cond_true; exact rfl)
       | (with_reducible first | apply EC.seq | apply EC.region | apply EC.skip | apply EC.label | apply EC.block | apply EC.exit | apply EC.ret | apply EK.in_normal | apply EK.in_same | apply EK.in_ret | apply EK.then_ret | apply EK.then_exit))
    refine EC.le (Le.pick [1, 0, 2] [_, _, _] rfl (by decide) rfl) ?_
    refine EC.drawC 8 [0, 1, 2, 3, 4, 5] [6, 7] [_] _ (by kernel_rfl) (by kernel_rfl) rfl ?_
    simp only [pickL, List.filterMap_cons, List.filterMap_nil, List.getElem?_cons_zero, List.getElem?_cons_succ]
    repeat
      (first
       | (apply H_lookup; exact hg2; exact rfl; (first | exact I0 | exact I1 | exact I2 | exact I3 | exact I4 | exact I5); (iterate 5 exact rfl)) | (apply H_move; (iterate 3 exact rfl))
       | (apply H_load; exact rfl; (first | exact I0 | exact I1 | exact I2 | exact I3 | exact I4 | exact I5 | exact I6); (iterate 4 exact rfl)) | (apply H_build; (iterate 7 exact rfl)))
    refine EM.nil ?_
    repeat (first | rw [List.cons_append] | rw [List.nil_append])
    refine CH.cut 1 ?_
    simp only [List.take_succ_cons, List.take_zero, List.drop_succ_cons, List.drop_zero]
    repeat
      (first
       | (apply H_lit; (iterate 9 exact rfl)))
    refine EM.nil ?_
    repeat (first | rw [List.cons_append] | rw [List.nil_append])
    refine CH.mut (os := [_]) (rest := []) rfl rfl (m_append rfl rfl rfl rfl rfl ?_) ?_
    · rw [hl3]
      constructor <;> (simp; omega)
    rintro _ _ ⟨sv', rfl, rfl⟩
    try simp only [St.put]
    repeat (first | rw [List.cons_append] | rw [List.nil_append])
    refine CH.nil ?_
    try simp only [List.drop_succ_cons, List.drop_zero]
    repeat
      (first
       | (apply P_move; (iterate 3 exact rfl)) | (apply P_assign; (iterate 3 exact rfl)) | (apply P_ar; (iterate 3 exact rfl); (focus omega); (focus omega); (iterate 2 exact rfl)) | apply EL.nil
       | ((with_reducible apply EK.then_normal); apply EK.code)
       | (with_reducible first | apply EC.seq | apply EC.region | apply EC.skip | apply EC.label | apply EC.block | apply EC.exit | apply EC.ret | apply EK.in_normal | apply EK.in_same | apply EK.in_ret | apply EK.then_ret | apply EK.then_exit))
    refine EK.again ⟨(j + 1, sv'), hlj⟩ (by dsimp only; omega) ?_
    dsimp only
    rw [htk]
    simp only [Int.natCast_add]
    exact (Le.keep (by repeat first | exact trivial | refine ⟨rfl, ?_⟩) (by repeat first | exact List.nil_sublist _ | apply List.Sublist.cons_cons | apply List.Sublist.cons) (by simp))
  · have hjE : j = K.length := by omega
    subst hjE
    rw [List.take_length]
    repeat
      (first
       | (apply P_move; (iterate 3 exact rfl)) | (apply P_assign; (iterate 3 exact rfl))
       | (apply P_cmp (b := false); (iterate 2 exact rfl); (focus (first | (simp [cmpI]; done) | (simp [cmpI]; omega))); (iterate 2 exact rfl)) | apply EL.nil
       | ((with_reducible apply EK.then_normal); apply EK.code) | (apply EC.cond_false; exact rfl)
       | (with_reducible first | apply EC.seq | apply EC.region | apply EC.skip | apply EC.label | apply EC.block | apply EC.exit | apply EC.ret | apply EK.in_normal | apply EK.in_same | apply EK.in_ret | apply EK.then_ret | apply EK.then_exit))
    rw [show K.map (fun k => dSlL (k, (slDiff a b k).getD zero32)) = (K.map fun k => (k, (slDiff a b k).getD zero32)).map dSlL by rw [List.map_map]; rfl]
    refine EK.le (Le.freeze (pre := []) rfl) ?_
    refine EK.retM1k [] rfl rfl (RL.cons (Rf.fact List.mem_cons_self rfl) RL.nil) (List.nil_sublist _) ⟨⟨_, hR, by rw [List.length_map]; omega, rfl⟩, rfl⟩
end E
end Go.Proofs.YtdhicdnmgmkpkaaGreat
/-
  A field of a struct's value.
  Conditions: none.
-/
namespace Go.Proofs.YtdhicdnmgmkpkaaGreat
set_option linter.unusedVariables false
open Go.RowKit Mono Rlp
namespace E
section
variable {N : Nat} {X : Cx N} {S : St} {ops : Array Oper} {o : Oper} {w : World} {ok : Nat → Prop} {Q : Exit → Act → World → Prop} {l' : List Oper} {TT : St → List Fr → Prop} {EE : List Fr} {rs : List (Tmp × R)} {os : List Obj} {fs : List (Value × D)}
theorem run_fieldV {T k off sz : Nat} {ag : Bool} (F : Fld Tryz.prog T k off sz ag) {d d' : D} {cs : List Value} (hr : Reads ok w d cs) (hs : d.sub off sz ag = some d') : ∃ mid, Reads ok w d' mid ∧ (Instr.field T (.agg cs.toArray) k).run Tryz.prog w = .ok (form d' mid) w := by
  obtain ⟨e1, e2, pre, mid, post, rfl, e3, e4⟩ := sub_spec d off sz ag d' cs hs hr
  obtain ⟨⟨fs, f, dd, h1, h2, h3, h4, h5, h6⟩, hpos⟩ := F
  have hml : mid.length = sz := by rw [← e1]; exact Reads.len _ _ e4
  have hA : (isAgg f.type).run Tryz.prog w = .ok ag w := by
    unfold isAgg
    simp only [Sem.run_bind, run_underlying h5, Result.andThen_ok]
    subst h6
    cases dd <;> rfl
  refine ⟨mid, e4, ?_⟩
  subst h3
  cases ag with
  | true =>
    have hf : form d' mid = .agg mid.toArray := by unfold form; rw [e2]; rfl
    rw [hf]
    unfold Instr.field
    cases hi : Tryz.prog.info? f.type with
    | none => rw [hi] at h4; cases h4
    | some i =>
      rw [hi] at h4
      have hsz : i.size = sz := by simpa using h4
      simp [run_underlying h1, h2, asAgg, part, hA, sizeOf, typeInfo, hi, hsz]
      rw [← e3, ← hml]
      simp
  | false =>
    have hf : form d' mid = mid.headD undef := by unfold form; rw [e2]; rfl
    rw [hf]
    unfold Instr.field
    obtain ⟨x, rest, rfl⟩ : ∃ x rest, mid = x :: rest := by
      cases mid with
      | nil => simp at hml; omega
      | cons x rest => exact ⟨x, rest, rfl⟩
    simp [run_underlying h1, h2, asAgg, part, hA, ← e3]
theorem g_fieldv {x : Operand} {T k off sz : Nat} {ag : Bool} {d d' : D} {lf : List (Nat × Nat × Bool)} (ho : o.op = .field T x k) (hx : ev S x = some (.val d)) (ha : d.agg = true) (h : assoc stL T = some lf) (hk : lf[k]? = some (off, sz, ag)) (h0 : Nat.blt 0 sz = true) (hs : d.sub off sz ag = some d') : Still ops S o (.val d') := fun base ok a w hkn => by
  obtain ⟨cs, h1, h2⟩ := (readV_agg ha).1 (hkn.ev hx (looks_op (by rw [ho]; simp [Op.operands])))
  obtain ⟨mid, h3, h4⟩ := run_fieldV (fldI h hk h0) h1 hs
  refine ⟨form d' mid, ?_, mid, h3, rfl⟩
  unfold execOp
  simp only [ho, h2, Sem.run_bind, h4, Result.andThen_ok, Sem.run_pure]
theorem H_fieldv {t ty : Nat} {pos : String} {af : Array Edge} {gd : Option (Nat × Bool)} {x : Operand} {T k off sz : Nat} {ag : Bool} {d d' : D} {lf : List (Nat × Nat × Bool)} (hx : ev (⟨rs, os, fs⟩ : St) x = some (.val d)) (ha : d.agg = true) (h : assoc stL T = some lf) (hk : lf[k]? = some (off, sz, ag)) (h0 : Nat.blt 0 sz = true) (hs : d.sub off sz ag = some d') (hg : guardOf ops ⟨rs, os, fs⟩ ⟨some t, .field T x k, ty, pos, af, gd⟩ = some true) (hoff : offB N (some t) EE = true) (kk : EM N ops TT l' ⟨(t, .val d') :: rs, os, fs⟩ EE) : EM N ops TT (⟨some t, .field T x k, ty, pos, af, gd⟩ :: l') ⟨rs, os, fs⟩ EE := EH.still (g_fieldv rfl hx ha h hk h0 hs) hg rfl hoff kk
end
end E
end Go.Proofs.YtdhicdnmgmkpkaaGreat
