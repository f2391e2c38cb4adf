/-
  Merged (wip/tools/merge.py): SNB, SUA, SP1, SP2, SP3, EO, EP, EQ.
  Conditions: none.
-/
import Derived.Test.YtdhicdnmgmkpkaaGreatZN24
import Derived.Test.YtdhicdnmgmkpkaaGreatZN13
import Derived.Lib.SliceRun
import Derived.Lib.AppendZeros
import Derived.Test.YtdhicdnmgmkpkaaGreatZN22
import Derived.Test.YtdhicdnmgmkpkaaGreatZN21
/-
  The laws' Big.
  Conditions: none.
-/
namespace Go.Proofs.YtdhicdnmgmkpkaaGreat
set_option linter.unusedVariables false
open Go.RowKit Mono Rlp Wd Go.Sort
namespace E
def bigA (l : List AcL) : Bool := decide (20 < l.length) || l.any fun x => decide (300 < x.cd.length) || decide (20 < x.sl.length)
theorem any_at {α : Type} {p : α → Bool} {l : List α} {i : Nat} (h : i < l.length) (hp : p l[i] = true) : l.any p = true := List.any_eq_true.2 ⟨l[i], List.getElem_mem h, hp⟩
set_option maxRecDepth 20000 in
set_option maxHeartbeats 8000000 in
theorem f_bigA (l : List AcL) : Fn 12 [.sl 55 (l.map dAcL)] (· = .val (.v (.bool (bigA l)))) := by
  have hml : (l.map dAcL).length = l.length := List.length_map _
  refine Fn.walk 29 Tryz.func12 rfl Tryz.ntmps12 (by simp) fun X => ?_
  unfold bigA
  by_cases h20 : 20 < l.length
  · rw [show decide (20 < l.length) = true by simp [h20], Bool.true_or]
    repeat
      (first
       | (apply P_move; (iterate 3 exact rfl)) | (apply P_assign; (iterate 3 exact rfl))
       | (apply P_cmp (b := true); (iterate 2 exact rfl); (focus (first | (simp [cmpI]; done) | (simp [cmpI]; omega))); (iterate 2 exact rfl)) | (apply P_lensl; (iterate 4 exact rfl)) | apply EL.nil
       | ((with_reducible apply EK.then_normal); apply EK.code) | (apply EC.cond_true; exact rfl)
       | (with_reducible first | apply EC.seq | apply EC.region | apply EC.skip | apply EC.label | apply EC.block | apply EC.exit | apply EC.ret | apply EK.in_normal | apply EK.in_same | apply EK.in_ret | apply EK.then_ret | apply EK.then_exit))
    exact EK.ret1 rfl rfl rfl
  · rw [show decide (20 < l.length) = false by simp [h20], Bool.false_or]
    repeat
      (first
       | (apply P_move; (iterate 3 exact rfl)) | (apply P_assign; (iterate 3 exact rfl))
       | (apply P_cmp (b := false); (iterate 2 exact rfl); (focus (first | (simp [cmpI]; done) | (simp [cmpI]; omega))); (iterate 2 exact rfl)) | (apply P_lensl; (iterate 4 exact rfl)) | apply EL.nil
       | ((with_reducible apply EK.then_normal); apply EK.code) | (apply EC.cond_false; exact rfl)
       | (with_reducible first | apply EC.seq | apply EC.region | apply EC.skip | apply EC.label | apply EC.block | apply EC.exit | apply EC.ret | apply EK.in_normal | apply EK.in_same | apply EK.in_ret | apply EK.then_ret | apply EK.then_exit))
    refine EC.loop (ι := {i : Nat // i ≤ l.length ∧ (l.take i).any (fun x => decide (300 < x.cd.length) || decide (20 < x.sl.length)) = false})
      (fun i => ⟨[(3, .val (.v (.int .i64 (i.1 : Int)))), (0, .val (.sl 55 (l.map dAcL)))], [], []⟩)
      (fun i => l.length - i.1) ⟨0, Nat.zero_le _, rfl⟩ ?_ ?_
    · exact (Le.keep (by repeat first | exact trivial | refine ⟨rfl, ?_⟩) (by repeat first | exact List.nil_sublist _ | apply List.Sublist.cons_cons | apply List.Sublist.cons) (by simp))
    rintro ⟨i, hi, hno⟩
    dsimp only at hi ⊢
    by_cases hlt : i < l.length
    · have hd : (l.map dAcL)[i]? = some (dAcL l[i]) := by rw [List.getElem?_map, List.getElem?_eq_getElem hlt]; rfl
      have htk : l.take (i + 1) = l.take i ++ [l[i]] := List.take_succ_eq_append_getElem hlt
      have hat := any_at (p := fun x : AcL => decide (300 < x.cd.length) || decide (20 < x.sl.length)) hlt
      generalize l[i] = x at hd htk hat
      have hsl : (x.sl.map dSlL).length = x.sl.length := List.length_map _
      unfold dAcL at hd
      by_cases hc : 300 < x.cd.length
      · rw [hat (by simp [hc])]
        repeat
          (first
           | (apply P_skip; (iterate 2 exact rfl)) | (apply P_move; (iterate 3 exact rfl)) | (apply P_assign; (iterate 3 exact rfl)) | (apply P_fieldpd; (iterate 7 exact rfl))
           | (apply P_loadpd; (iterate 5 exact rfl)) | (apply P_pick; (iterate 4 exact rfl))
           | (apply P_cmp (b := true); (iterate 2 exact rfl); (focus (first | (simp [cmpI]; done) | (simp [cmpI]; omega))); (iterate 2 exact rfl)) | (apply P_lenbs; (iterate 4 exact rfl))
           | (apply P_lensl; (iterate 4 exact rfl))
           | (apply P_index; (iterate 4 exact rfl); (focus (first | exact ⟨by decide, rfl⟩ | (refine ⟨by omega, ?_⟩; rw [Int.toNat_natCast]; assumption))); (iterate 2 exact rfl)) | apply EL.nil
           | ((with_reducible apply EK.then_normal); apply EK.code) | (apply EC.cond_true; exact rfl)
           | (with_reducible first | apply EC.seq | apply EC.region | apply EC.skip | apply EC.label | apply EC.block | apply EC.exit | apply EC.ret | apply EK.in_normal | apply EK.in_same | apply EK.in_ret | apply EK.then_ret | apply EK.then_exit))
        exact EK.ret1 rfl rfl rfl
      · by_cases hs : 20 < x.sl.length
        · rw [hat (by simp [hs])]
          repeat
            (first
             | (apply P_move; (iterate 3 exact rfl)) | (apply P_assign; (iterate 3 exact rfl)) | (apply P_fieldpd; (iterate 7 exact rfl)) | (apply P_loadpd; (iterate 5 exact rfl))
             | (apply P_pick; (iterate 4 exact rfl)) | (apply P_cmp (b := true); (iterate 2 exact rfl); (focus (first | (simp [cmpI]; done) | (simp [cmpI]; omega))); (iterate 2 exact rfl))
             | (apply P_cmp (b := false); (iterate 2 exact rfl); (focus (first | (simp [cmpI]; done) | (simp [cmpI]; omega))); (iterate 2 exact rfl)) | (apply P_lenbs; (iterate 4 exact rfl))
             | (apply P_lensl; (iterate 4 exact rfl))
             | (apply P_index; (iterate 4 exact rfl); (focus (first | exact ⟨by decide, rfl⟩ | (refine ⟨by omega, ?_⟩; rw [Int.toNat_natCast]; assumption))); (iterate 2 exact rfl)) | apply EL.nil
             | ((with_reducible apply EK.then_normal); apply EK.code) | (apply EC.cond_true; exact rfl)
             | (with_reducible first | apply EC.seq | apply EC.region | apply EC.skip | apply EC.label | apply EC.block | apply EC.exit | apply EC.ret | apply EK.in_normal | apply EK.in_same | apply EK.in_ret | apply EK.then_ret | apply EK.then_exit))
          exact EK.ret1 rfl rfl rfl
        · skip
          repeat
            (first
             | (apply P_move; (iterate 3 exact rfl)) | (apply P_assign; (iterate 3 exact rfl)) | (apply P_fieldpd; (iterate 7 exact rfl)) | (apply P_loadpd; (iterate 5 exact rfl))
             | (apply P_pick; (iterate 4 exact rfl)) | (apply P_cmp (b := true); (iterate 2 exact rfl); (focus (first | (simp [cmpI]; done) | (simp [cmpI]; omega))); (iterate 2 exact rfl))
             | (apply P_cmp (b := false); (iterate 2 exact rfl); (focus (first | (simp [cmpI]; done) | (simp [cmpI]; omega))); (iterate 2 exact rfl))
             | (apply P_ar; (iterate 3 exact rfl); (focus omega); (focus omega); (iterate 2 exact rfl)) | (apply P_lenbs; (iterate 4 exact rfl)) | (apply P_lensl; (iterate 4 exact rfl))
             | (apply P_index; (iterate 4 exact rfl); (focus (first | exact ⟨by decide, rfl⟩ | (refine ⟨by omega, ?_⟩; rw [Int.toNat_natCast]; assumption))); (iterate 2 exact rfl)) | apply EL.nil
             | ((with_reducible apply EK.then_normal); apply EK.code) | (apply EC.cond_true; exact rfl) | (apply EC.cond_false; exact rfl)
             | (with_reducible first | apply EC.seq | apply EC.region | apply EC.skip | apply EC.label | apply EC.block | apply EC.exit | apply EC.ret | apply EK.in_normal | apply EK.in_same | apply EK.in_ret | apply EK.then_ret | apply EK.then_exit))
          refine EK.again ⟨i + 1, hlt, ?_⟩ (by dsimp only; omega) ?_
          · rw [htk, List.any_append, hno]
            simp [hc, hs]
          · simp only [Int.natCast_add]
            exact (Le.keep (by repeat first | exact trivial | refine ⟨rfl, ?_⟩) (by repeat first | exact List.nil_sublist _ | apply List.Sublist.cons_cons | apply List.Sublist.cons) (by simp))
    · have hiE : i = l.length := by omega
      subst hiE
      rw [List.take_length] at hno
      rw [hno]
      repeat
        (first
         | (apply P_move; (iterate 3 exact rfl)) | (apply P_assign; (iterate 3 exact rfl))
         | (apply P_cmp (b := false); (iterate 2 exact rfl); (focus (first | (simp [cmpI]; done) | (simp [cmpI]; omega))); (iterate 2 exact rfl)) | (apply P_lensl; (iterate 4 exact rfl)) | apply EL.nil
         | ((with_reducible apply EK.then_normal); apply EK.code) | (apply EC.cond_false; exact rfl)
         | (with_reducible first | apply EC.seq | apply EC.region | apply EC.skip | apply EC.label | apply EC.block | apply EC.exit | apply EC.ret | apply EK.in_normal | apply EK.in_same | apply EK.in_ret | apply EK.then_ret | apply EK.then_exit))
      exact EK.ret1 rfl rfl rfl
theorem small_A {l : List AcL} (h : bigA l = false) : l.length ≤ 20 ∧ ∀ x ∈ l, x.cd.length ≤ 300 ∧ x.sl.length ≤ 20 := by
  unfold bigA at h
  rw [Bool.or_eq_false_iff, decide_eq_false_iff_not, List.any_eq_false] at h
  refine ⟨by omega, fun x hx => ?_⟩
  have := h.2 x hx
  simp only [Bool.or_eq_true, decide_eq_true_eq, not_or] at this
  omega
end E
end Go.Proofs.YtdhicdnmgmkpkaaGreat
/-
  The program's snap.Apply: what changes make of accounts, as a list.
  Conditions: none.
-/
namespace Go.Proofs.YtdhicdnmgmkpkaaGreat
set_option linter.unusedVariables false
open Go.RowKit Mono Rlp Wd Go.Sort
namespace E
def applyA (A : As) (ch : List ChL) : As := ch.foldl (fun A c => c.of A) A
end E
end Go.Proofs.YtdhicdnmgmkpkaaGreat
/-
  Between two states: the one list of changes, and that it makes the one of the other (plain law).
  Conditions: none.
-/
namespace Go.Proofs.YtdhicdnmgmkpkaaGreat
set_option linter.unusedVariables false
open Go.RowKit Mono Rlp Wd Go.Sort
namespace E
structure ChL.Is (c : ChL) (x y : Ac) : Prop where
  gone : c.gone = true ↔ y = Ac.zero
  n : c.n = y.n
  w : c.w = y.w
  cd : c.cd = y.cd
  ord : c.sl.Pairwise fun p q => p.1 < q.1
  sl : ∀ k v, (k, v) ∈ c.sl ↔ y ≠ Ac.zero ∧ x.sl k ≠ y.sl k ∧ v = y.sl k
structure BtwU (A B : As) (K : List (List UInt8)) (D : List ChL) : Prop where
  ord : D.Pairwise fun x y => x.a < y.a
  mem : ∀ c ∈ D, c.a ∈ K ∧ A c.a ≠ B c.a ∧ c.Is (A c.a) (B c.a)
  all : ∀ a ∈ K, A a ≠ B a → ∃ c ∈ D, c.a = a
structure Btw (A B : As) (D : List ChL) : Prop where
  ord : D.Pairwise fun x y => x.a < y.a
  mem : ∀ c ∈ D, A c.a ≠ B c.a ∧ c.Is (A c.a) (B c.a)
  all : ∀ a, A a ≠ B a → ∃ c ∈ D, c.a = a
theorem ChL.Is.eq {c d : ChL} {x y : Ac} (h : c.Is x y) (k : d.Is x y) (e : c.a = d.a) : c = d := by
  have hs : c.sl = d.sl := rising_eq (key := fun p : List UInt8 × List UInt8 => p.1) h.ord k.ord (fun p hp => (k.sl p.1 p.2).2 ((h.sl p.1 p.2).1 hp)) (fun p hp => (h.sl p.1 p.2).2 ((k.sl p.1 p.2).1 hp))
  have hg : c.gone = d.gone := by
    have := h.gone.trans k.gone.symm
    cases h1 : c.gone <;> cases h2 : d.gone <;> simp_all
  cases c
  cases d
  simp only [ChL.mk.injEq]
  exact ⟨e, hg, h.n.trans k.n.symm, h.w.trans k.w.symm, h.cd.trans k.cd.symm, hs⟩
theorem Btw.eq {A B : As} {D F : List ChL} (h : Btw A B D) (k : Btw A B F) : D = F := by
  have one : ∀ {D F : List ChL}, Btw A B D → Btw A B F → ∀ x ∈ D, x ∈ F := fun {D F} h k x hx => by
    obtain ⟨h1, h2⟩ := h.mem x hx
    obtain ⟨y, hy, e⟩ := k.all x.a h1
    have := (k.mem y hy).2
    rw [e] at this
    rw [h2.eq this e.symm]
    exact hy
  exact rising_eq (key := ChL.a) h.ord k.ord (one h k) (one k h)
theorem BtwU.nil {A B : As} : BtwU A B [] [] := ⟨.nil, fun x hx => by simp at hx, fun a ha => by simp at ha⟩
theorem BtwU.skip {A B : As} {K : List (List UInt8)} {D : List ChL} (h : BtwU A B K D) {a : List UInt8} (ha : A a = B a) : BtwU A B (K ++ [a]) D := ⟨h.ord, fun x hx => ⟨List.mem_append_left _ (h.mem x hx).1, (h.mem x hx).2⟩, fun b hb hne => by
  rcases List.mem_append.1 hb with hb | hb
  · exact h.all b hb hne
  · obtain rfl : b = a := by simpa using hb
    exact absurd ha hne⟩
theorem BtwU.take {A B : As} {K : List (List UInt8)} {D : List ChL} (h : BtwU A B K D) {c : ChL} (hne : A c.a ≠ B c.a) (hc : c.Is (A c.a) (B c.a)) (hlt : ∀ b ∈ K, b < c.a) : BtwU A B (K ++ [c.a]) (D ++ [c]) := ⟨List.pairwise_append.2 ⟨h.ord, List.pairwise_singleton _ _, fun y hy z hz => by
    obtain rfl : z = c := by simpa using hz
    exact hlt _ (h.mem y hy).1⟩, fun y hy => by
    rcases List.mem_append.1 hy with hy | hy
    · exact ⟨List.mem_append_left _ (h.mem y hy).1, (h.mem y hy).2⟩
    · obtain rfl : y = c := by simpa using hy
      exact ⟨by simp, hne, hc⟩, fun b hb hb' => by
    rcases List.mem_append.1 hb with hb | hb
    · obtain ⟨y, hy, e⟩ := h.all b hb hb'
      exact ⟨y, List.mem_append_left _ hy, e⟩
    · obtain rfl : b = c.a := by simpa using hb
      exact ⟨c, by simp, rfl⟩⟩
def slG (sl : List (List UInt8 × List UInt8)) (f : List UInt8 → List UInt8) : List UInt8 → List UInt8 := sl.foldl (fun f p => fun k => if p.1 = k then p.2 else f k) f
theorem slG_at (z : List UInt8) : ∀ (sl : List (List UInt8 × List UInt8)) (f : List UInt8 → List UInt8) (k : List UInt8), (∀ p ∈ sl, p.1 = k → p.2 = z) → slG sl f k = if k ∈ sl.map Prod.fst then z else f k
  | [], f, k, _ => by simp [slG]
  | p :: sl, f, k, h => by
    have ih := slG_at z sl (fun k => if p.1 = k then p.2 else f k) k fun q hq => h q (List.mem_cons_of_mem _ hq)
    have e : slG (p :: sl) f k = slG sl (fun k => if p.1 = k then p.2 else f k) k := rfl
    rw [e, ih]
    by_cases h1 : k ∈ sl.map Prod.fst
    · rw [if_pos h1, if_pos (by simp only [List.map_cons, List.mem_cons]; exact .inr h1)]
    · rw [if_neg h1]
      by_cases h2 : p.1 = k
      · rw [if_pos h2, if_pos (by simp [h2]), h p List.mem_cons_self h2]
      · rw [if_neg h2, if_neg (by simp only [List.map_cons, List.mem_cons, not_or]; exact ⟨fun e => h2 e.symm, h1⟩)]
theorem upd_same (A : As) (a : List UInt8) (x : Ac) : A.upd a x a = x := by unfold As.upd; rw [if_pos rfl]
theorem upd_upd (A : As) (a : List UInt8) (x y : Ac) : (A.upd a x).upd a y = A.upd a y := by
  funext b
  unfold As.upd
  split <;> rfl
theorem slots1_eq (a : List UInt8) : ∀ (sl : List (List UInt8 × List UInt8)) (A : As), slots1 a sl A = A.upd a {A a with sl := slG sl (A a).sl}
  | [], A => by
    funext b
    unfold As.upd
    split
    · rename_i e
      subst e
      rfl
    · rfl
  | p :: sl, A => by
    have e : slots1 a (p :: sl) A = slots1 a sl (A.upd a ((A a).slot p.1 p.2)) := rfl
    rw [e, slots1_eq a sl, upd_upd, upd_same]
    rfl
def ChL.one (c : ChL) (x : Ac) : Ac := ⟨if c.n > 0 then c.n else 0, c.w, c.cd, slG c.sl (if c.gone = true then fun _ => zero32 else x.sl)⟩
theorem ChL.of_eq (c : ChL) (A : As) : c.of A = A.upd c.a (c.one (A c.a)) := by
  unfold ChL.of ChL.base
  dsimp only
  rw [slots1_eq]
  cases hg : c.gone with
  | true => simp only [if_true, upd_upd, upd_same, ChL.one, hg]; rfl
  | false => simp only [Bool.false_eq_true, if_false, upd_upd, upd_same, ChL.one, hg]
theorem applyA_off : ∀ (D : List ChL) (A : As) (b : List UInt8), b ∉ D.map ChL.a → applyA A D b = A b
  | [], A, b, _ => rfl
  | c :: D, A, b, h => by
    have e : applyA A (c :: D) = applyA (c.of A) D := rfl
    simp only [List.map_cons, List.mem_cons, not_or] at h
    rw [e, applyA_off D _ b h.2, ChL.of_eq]
    unfold As.upd
    rw [if_neg fun e => h.1 e.symm]
theorem applyA_at : ∀ (D : List ChL) (A : As) (c : ChL), c ∈ D → (D.Pairwise fun x y => x.a < y.a) → applyA A D c.a = c.one (A c.a)
  | [], A, c, h, _ => by simp at h
  | d :: D, A, c, h, ho => by
    have e : applyA A (d :: D) = applyA (d.of A) D := rfl
    obtain ⟨h1, h2⟩ := List.pairwise_cons.1 ho
    rcases List.mem_cons.1 h with rfl | h
    · rw [e, applyA_off D _ c.a fun hm => by
        obtain ⟨x, hx, hxa⟩ := List.mem_map.1 hm
        have := h1 x hx
        rw [hxa] at this
        exact List.lt_irrefl _ this, ChL.of_eq, upd_same]
    · rw [e, applyA_at D _ c h h2, ChL.of_eq]
      have hne : d.a ≠ c.a := fun e => by
        have := h1 c h
        rw [e] at this
        exact List.lt_irrefl _ this
      unfold As.upd
      rw [if_neg hne]
theorem ChL.Is.one {c : ChL} {x y : Ac} (h : c.Is x y) (hn : 0 ≤ y.n) : c.one x = y := by
  unfold ChL.one
  have h1 : (if c.n > 0 then c.n else 0) = y.n := by
    rw [h.n]
    split
    · rfl
    · omega
  have h2 : slG c.sl (if c.gone = true then fun _ => zero32 else x.sl) = y.sl := by
    funext k
    rw [slG_at (y.sl k) _ _ k fun p hp e => by
      have := ((h.sl p.1 p.2).1 hp).2.2
      rw [e] at this
      exact this]
    by_cases hm : k ∈ c.sl.map Prod.fst
    · rw [if_pos hm]
    · rw [if_neg hm]
      by_cases hg : c.gone = true
      · rw [if_pos hg, h.gone.1 hg]
        rfl
      · rw [if_neg hg]
        refine Classical.byContradiction fun hne => hm (List.mem_map.2 ⟨(k, y.sl k), (h.sl k _).2 ⟨fun e => hg (h.gone.2 e), hne, rfl⟩, rfl⟩)
  rw [h1, h2, h.w, h.cd]
theorem Btw.apply {A B : As} {D : List ChL} (h : Btw A B D) (hB : ∀ a, 0 ≤ (B a).n) : applyA A D = B := by
  funext b
  by_cases hb : b ∈ D.map ChL.a
  · obtain ⟨c, hc, rfl⟩ := List.mem_map.1 hb
    rw [applyA_at D A c hc h.ord, (h.mem c hc).2.one (hB _)]
  · rw [applyA_off D A b hb]
    exact Classical.byContradiction fun hne => hb (by
      obtain ⟨c, hc, e⟩ := h.all b hne
      exact List.mem_map.2 ⟨c, hc, e⟩)
theorem newA_nn (l : List AcL) : ∀ a, 0 ≤ (newA l a).n := by
  have h : ∀ (l : List AcL) (A : As), (∀ a, 0 ≤ (A a).n) → ∀ a, 0 ≤ (l.foldl (fun A x => A.upd x.a x.take) A a).n := fun l => by
    induction l with
    | nil => exact fun A h => h
    | cons x l ih =>
      intro A h
      refine ih _ fun a => ?_
      show 0 ≤ (if x.a = a then x.take else A a).n
      split
      · unfold AcL.take
        dsimp only
        split <;> omega
      · exact h a
  exact h l _ fun a => Int.le_refl _
theorem AcL.Is.slF {x : AcL} {y : Ac} (h : x.Is y) : slF x.sl = y.sl := by
  funext k
  have e : E.slF x.sl k = slG x.sl (fun _ => zero32) k := rfl
  rw [e, slG_at (y.sl k) _ _ k fun p hp e => by rw [(h.val p hp).1, e]]
  by_cases hm : k ∈ x.sl.map Prod.fst
  · rw [if_pos hm]
  · rw [if_neg hm]
    refine Classical.byContradiction fun hne => hm ?_
    obtain ⟨p, hp, e⟩ := h.all k fun e => hne e.symm
    exact List.mem_map.2 ⟨p, hp, e⟩
theorem AcL.Is.take {x : AcL} {y : Ac} (h : x.Is y) (hn : 0 ≤ y.n) : x.take = y := by
  unfold AcL.take
  have h1 : (if x.n > 0 then x.n else 0) = y.n := by
    rw [h.n]
    split
    · rfl
    · omega
  rw [h1, h.slF, h.w, h.cd]
theorem newF_off : ∀ (L : List AcL) (A : As) (b : List UInt8), b ∉ L.map AcL.a → L.foldl (fun A x => A.upd x.a x.take) A b = A b
  | [], A, b, _ => rfl
  | x :: L, A, b, h => by
    simp only [List.map_cons, List.mem_cons, not_or] at h
    rw [List.foldl_cons, newF_off L _ b h.2]
    unfold As.upd
    rw [if_neg fun e => h.1 e.symm]
theorem newF_at : ∀ (L : List AcL) (A : As) (x : AcL), x ∈ L → (L.Pairwise fun x y => x.a < y.a) → L.foldl (fun A x => A.upd x.a x.take) A x.a = x.take
  | [], A, x, h, _ => by simp at h
  | d :: L, A, x, h, ho => by
    obtain ⟨h1, h2⟩ := List.pairwise_cons.1 ho
    rw [List.foldl_cons]
    rcases List.mem_cons.1 h with rfl | h
    · rw [newF_off L _ x.a fun hm => by
        obtain ⟨y, hy, hya⟩ := List.mem_map.1 hm
        have := h1 y hy
        rw [hya] at this
        exact List.lt_irrefl _ this, upd_same]
    · exact newF_at L _ x h h2
theorem Canon.new {A : As} {L : List AcL} (h : Canon A L) (hn : ∀ a, 0 ≤ (A a).n) : newA L = A := by
  funext b
  unfold newA
  by_cases hb : b ∈ L.map AcL.a
  · obtain ⟨x, hx, rfl⟩ := List.mem_map.1 hb
    rw [newF_at L _ x hx h.ord, (h.mem x hx).1.take (hn _)]
  · rw [newF_off L _ b hb]
    refine Classical.byContradiction fun hne => hb ?_
    obtain ⟨x, hx, e⟩ := h.all b fun e => hne e.symm
    exact List.mem_map.2 ⟨x, hx, e⟩
theorem Canon.length_le {l L : List AcL} (h : Canon (newA l) L) : L.length ≤ l.length := by
  have h1 : (L.map AcL.a).Nodup := by
    have := h.ord
    unfold List.Nodup
    rw [List.pairwise_map]
    exact this.imp fun h e => by rw [e] at h; exact List.lt_irrefl _ h
  have h2 : ∀ b ∈ L.map AcL.a, b ∈ l.map AcL.a := fun b hb => by
    obtain ⟨x, hx, rfl⟩ := List.mem_map.1 hb
    refine Classical.byContradiction fun hn => (h.mem x hx).2 ?_
    unfold newA
    rw [newF_off l _ _ hn]
  have := h1.length_le_of_subset h2
  simpa using this
end E
end Go.Proofs.YtdhicdnmgmkpkaaGreat
/-
  Which slots are not the same, by a map (plain law).
  Conditions: none.
-/
namespace Go.Proofs.YtdhicdnmgmkpkaaGreat
set_option linter.unusedVariables false
open Go.RowKit Mono Rlp Wd Go.Sort
namespace E
abbrev OpF := List UInt8 → Option (List UInt8)
def OpF.put (F : OpF) (k v : List UInt8) : OpF := fun q => if k = q then some v else F q
def OpF.del (F : OpF) (k : List UInt8) : OpF := fun q => if k = q then none else F q
def OpF.cut (F : OpF) (x : List UInt8 × List UInt8) : OpF := if (F x.1).getD zero32 = x.2 then F.del x.1 else F
theorem AcL.Is.keys {x : AcL} {y : Ac} (h : x.Is y) (k : List UInt8) : k ∈ x.sl.map Prod.fst ↔ y.sl k ≠ zero32 := by
  constructor
  · intro hk
    obtain ⟨p, hp, rfl⟩ := List.mem_map.1 hk
    obtain ⟨h1, h2⟩ := h.val p hp
    rw [← h1]
    exact h2
  · intro hk
    obtain ⟨p, hp, e⟩ := h.all k hk
    exact List.mem_map.2 ⟨p, hp, e⟩
structure MapF (es : List Ent) (F : OpF) (N : Nat) : Prop where
  at_ : ∀ k, getE es k = (F k).map (D.arr 32)
  nod : (es.map (·.2.1)).Nodup
  len : es.length ≤ N
theorem MapF.nil : MapF [] (fun _ => none) 0 := ⟨fun k => rfl, List.nodup_nil, Nat.le_refl _⟩
theorem MapF.put {es : List Ent} {F : OpF} {N c : Nat} (h : MapF es F N) (k v : List UInt8) : MapF (putE c es k (.arr 32 v)) (F.put k v) (N + 1) := ⟨fun q => by
  rw [getE_putE]
  unfold OpF.put
  split
  · rfl
  · exact h.at_ q, putE_nodup _ _ _ _ h.nod, Nat.le_trans (putE_length _ _ _ _) (Nat.succ_le_succ h.len)⟩
theorem MapF.del {es : List Ent} {F : OpF} {N : Nat} (h : MapF es F N) (k : List UInt8) : MapF (delE es k) (F.del k) N := ⟨fun q => by
  rw [getE_delE _ _ _ h.nod]
  unfold OpF.del
  split
  · rfl
  · exact h.at_ q, h.nod.sublist ((delE_sub _ _).map _), Nat.le_trans (delE_length _ _) h.len⟩
theorem MapF.getD {es : List Ent} {F : OpF} {N : Nat} (h : MapF es F N) (k : List UInt8) : (getE es k).getD (.arr 32 zero32) = .arr 32 ((F k).getD zero32) := by
  rw [h.at_]
  cases F k <;> rfl
theorem MapF.mem {es : List Ent} {F : OpF} {N : Nat} (h : MapF es F N) (k : List UInt8) : k ∈ es.map (·.2.1) ↔ ∃ v, F k = some v := by
  have h1 := h.at_ k
  constructor
  · intro hk
    obtain ⟨d, hd⟩ := getE_some hk
    rw [hd] at h1
    cases hF : F k with
    | none => rw [hF] at h1; cases h1
    | some v => exact ⟨v, rfl⟩
  · rintro ⟨v, hv⟩
    rw [hv] at h1
    exact Classical.byContradiction fun hn => by
      rw [(getE_none es k).2 hn] at h1
      cases h1
structure RiseF (F : OpF) (L : List (List UInt8 × List UInt8)) : Prop where
  ord : L.Pairwise fun p q => p.1 < q.1
  mem : ∀ k v, (k, v) ∈ L ↔ F k = some v
theorem MapF.rise {es : List Ent} {F : OpF} {N : Nat} (h : MapF es F N) : RiseF F ((sortL (es.map (·.2.1))).map fun k => (k, (F k).getD zero32)) := by
  refine ⟨?_, fun k v => ?_⟩
  · rw [List.pairwise_map]
    exact sortL_lt h.nod
  · rw [List.mem_map]
    constructor
    · rintro ⟨q, hq, e⟩
      obtain ⟨v', hv'⟩ := (h.mem q).1 ((sortL_perm _).mem_iff.1 hq)
      simp only [Prod.mk.injEq] at e
      obtain ⟨rfl, rfl⟩ := e
      rw [hv']
      rfl
    · intro hv
      refine ⟨k, (sortL_perm _).mem_iff.2 ((h.mem k).2 ⟨v, hv⟩), ?_⟩
      rw [hv]
      rfl
end E
end Go.Proofs.YtdhicdnmgmkpkaaGreat
/-
  The program's snap: which slots are not the same.
  Conditions: none.
-/
namespace Go.Proofs.YtdhicdnmgmkpkaaGreat
set_option linter.unusedVariables false
open Go.RowKit Mono Rlp Wd Go.Sort
namespace E
end E
end Go.Proofs.YtdhicdnmgmkpkaaGreat
/-
  The abstract machine: what is behind the first of a row, and 'clear' of the last one.
  Conditions: none.
-/
namespace Go.Proofs.YtdhicdnmgmkpkaaGreat
set_option linter.unusedVariables false
open Go.RowKit Mono Rlp
namespace E
end E
end Go.Proofs.YtdhicdnmgmkpkaaGreat
/-
  The abstract machine: 'append(nil, make(..)...)', 'clear' of a row's end.
  Conditions: none.
-/
namespace Go.Proofs.YtdhicdnmgmkpkaaGreat
set_option linter.unusedVariables false
open Go.RowKit Mono Rlp
namespace E
end E
end Go.Proofs.YtdhicdnmgmkpkaaGreat
/-
  bytes.Compare of arrays in variables of the call's own; bytes.Equal; trie.Compare; halving.
  Conditions: none.
-/
namespace Go.Proofs.YtdhicdnmgmkpkaaGreat
set_option linter.unusedVariables false
open Go.RowKit Mono Rlp Go.Sort
namespace E
end E
end Go.Proofs.YtdhicdnmgmkpkaaGreat
