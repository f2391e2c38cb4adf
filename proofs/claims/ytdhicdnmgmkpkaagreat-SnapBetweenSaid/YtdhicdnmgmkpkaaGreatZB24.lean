/-
  Merged (wip/tools/merge.py): SP2, SP3, EZ, EN, EO.
  Conditions: none.
-/
import Derived.Test.YtdhicdnmgmkpkaaGreatZB23
import Derived.Test.YtdhicdnmgmkpkaaGreatZB13
import Derived.Maps.RangeRun
import Derived.Lib.SliceRun
/-
  Which slots are not the same, by a map (plain law).
  Conditions: none.
-/
namespace Go.Proofs.YtdhicdnmgmkpkaaGreat
set_option linter.unusedVariables false
open Go.RowKit Mono Rlp Wd Go.Sort
namespace E
abbrev OpF := List UInt8 → Option (List UInt8)
def OpF.put (F : OpF) (k v : List UInt8) : OpF := fun q => if k = q then some v else F q
def OpF.del (F : OpF) (k : List UInt8) : OpF := fun q => if k = q then none else F q
def slF1 (a : List (List UInt8 × List UInt8)) : OpF := a.foldl (fun F x => F.put x.1 zero32) fun _ => none
def slF2 (b : List (List UInt8 × List UInt8)) (F : OpF) : OpF := b.foldl (fun F x => F.put x.1 x.2) F
def OpF.cut (F : OpF) (x : List UInt8 × List UInt8) : OpF := if (F x.1).getD zero32 = x.2 then F.del x.1 else F
def slF3 (a : List (List UInt8 × List UInt8)) (F : OpF) : OpF := a.foldl OpF.cut F
theorem slF1_snoc (a : List (List UInt8 × List UInt8)) (x : List UInt8 × List UInt8) : slF1 (a ++ [x]) = (slF1 a).put x.1 zero32 := by unfold slF1; rw [List.foldl_append]; rfl
theorem slF2_snoc (a : List (List UInt8 × List UInt8)) (F : OpF) (x : List UInt8 × List UInt8) : slF2 (a ++ [x]) F = (slF2 a F).put x.1 x.2 := by unfold slF2; rw [List.foldl_append]; rfl
theorem slF3_snoc (a : List (List UInt8 × List UInt8)) (F : OpF) (x : List UInt8 × List UInt8) : slF3 (a ++ [x]) F = (slF3 a F).cut x := by unfold slF3; rw [List.foldl_append]; rfl
theorem slF2_at (z k : List UInt8) : ∀ (b : List (List UInt8 × List UInt8)) (F : OpF), (∀ p ∈ b, p.1 = k → p.2 = z) → slF2 b F k = if k ∈ b.map Prod.fst then some z else F k
  | [], F, _ => by simp [slF2]
  | p :: b, F, h => by
    have e : slF2 (p :: b) F = slF2 b (F.put p.1 p.2) := rfl
    rw [e, slF2_at z k b _ fun q hq => h q (List.mem_cons_of_mem _ hq)]
    by_cases h1 : k ∈ b.map Prod.fst
    · rw [if_pos h1, if_pos (by simp only [List.map_cons, List.mem_cons]; exact .inr h1)]
    · rw [if_neg h1]
      unfold OpF.put
      by_cases h2 : p.1 = k
      · rw [if_pos h2, if_pos (by simp [h2]), h p List.mem_cons_self h2]
      · rw [if_neg h2, if_neg (by simp only [List.map_cons, List.mem_cons, not_or]; exact ⟨fun e => h2 e.symm, h1⟩)]
theorem slF1_at (k : List UInt8) (a : List (List UInt8 × List UInt8)) : slF1 a k = if k ∈ a.map Prod.fst then some zero32 else none := by
  have e : slF1 a = slF2 (a.map fun p => (p.1, zero32)) fun _ => none := by
    unfold slF1 slF2
    rw [List.foldl_map]
  rw [e, slF2_at zero32 k _ _ fun p hp _ => by obtain ⟨q, _, rfl⟩ := List.mem_map.1 hp; rfl, List.map_map]
  rfl
theorem slF3_at (z k : List UInt8) (hz : z ≠ zero32) : ∀ (a : List (List UInt8 × List UInt8)) (F : OpF), (∀ p ∈ a, p.1 = k → p.2 = z) → slF3 a F k = if k ∈ a.map Prod.fst ∧ (F k).getD zero32 = z then none else F k
  | [], F, _ => by simp [slF3]
  | p :: a, F, h => by
    have e : slF3 (p :: a) F = slF3 a (F.cut p) := rfl
    rw [e, slF3_at z k hz a _ fun q hq => h q (List.mem_cons_of_mem _ hq)]
    by_cases h2 : p.1 = k
    · have hp2 := h p List.mem_cons_self h2
      by_cases h3 : (F k).getD zero32 = z
      · have hc : F.cut p k = none := by
          unfold OpF.cut
          rw [h2, hp2, if_pos h3]
          unfold OpF.del
          rw [if_pos rfl]
        rw [hc]
        rw [if_neg (by rintro ⟨_, h4⟩; exact hz h4.symm), if_pos ⟨by simp [h2], h3⟩]
      · have hc : F.cut p = F := by
          unfold OpF.cut
          rw [h2, hp2, if_neg h3]
        rw [hc, if_neg fun h => h3 h.2, if_neg fun h => h3 h.2]
    · have hc : F.cut p k = F k := by
        unfold OpF.cut
        split
        · unfold OpF.del
          rw [if_neg h2]
        · rfl
      rw [hc]
      have hm : k ∈ (p :: a).map Prod.fst ↔ k ∈ a.map Prod.fst := by
        simp only [List.map_cons, List.mem_cons]
        exact ⟨fun h => h.resolve_left fun e => h2 e.symm, .inr⟩
      simp only [hm]
def slDiff (a b : List (List UInt8 × List UInt8)) : OpF := slF3 a (slF2 b (slF1 a))
theorem AcL.Is.keys {x : AcL} {y : Ac} (h : x.Is y) (k : List UInt8) : k ∈ x.sl.map Prod.fst ↔ y.sl k ≠ zero32 := by
  constructor
  · intro hk
    obtain ⟨p, hp, rfl⟩ := List.mem_map.1 hk
    obtain ⟨h1, h2⟩ := h.val p hp
    rw [← h1]
    exact h2
  · intro hk
    obtain ⟨p, hp, e⟩ := h.all k hk
    exact List.mem_map.2 ⟨p, hp, e⟩
theorem slDiff_iff {a b : AcL} {x y : Ac} (ha : a.Is x) (hb : b.Is y) (k v : List UInt8) : slDiff a.sl b.sl k = some v ↔ x.sl k ≠ y.sl k ∧ v = y.sl k := by
  have h2 : slF2 b.sl (slF1 a.sl) k = if y.sl k ≠ zero32 ∨ x.sl k ≠ zero32 then some (y.sl k) else none := by
    rw [slF2_at (y.sl k) k _ _ fun p hp e => by rw [(hb.val p hp).1, e], slF1_at]
    by_cases h1 : k ∈ b.sl.map Prod.fst
    · rw [if_pos h1, if_pos (.inl ((hb.keys k).1 h1))]
    · rw [if_neg h1]
      have h1' : y.sl k = zero32 := Classical.byContradiction fun h => h1 ((hb.keys k).2 h)
      by_cases h3 : k ∈ a.sl.map Prod.fst
      · rw [if_pos h3, if_pos (.inr ((ha.keys k).1 h3)), h1']
      · rw [if_neg h3, if_neg]
        rintro (h | h)
        · exact h h1'
        · exact h3 ((ha.keys k).2 h)
  unfold slDiff
  by_cases hx : x.sl k = zero32
  · have hn : k ∉ a.sl.map Prod.fst := fun h => (ha.keys k).1 h hx
    have h3 : slF3 a.sl (slF2 b.sl (slF1 a.sl)) k = slF2 b.sl (slF1 a.sl) k := by
      have := slF3_at [] k (by decide) a.sl (slF2 b.sl (slF1 a.sl)) fun p hp e => absurd (List.mem_map.2 ⟨p, hp, e⟩) hn
      rw [this, if_neg fun h => hn h.1]
    rw [h3, h2, hx]
    by_cases hy : y.sl k = zero32
    · rw [if_neg (by rintro (h | h); exact h hy; exact h rfl), hy]
      simp
    · rw [if_pos (.inl hy)]
      simp only [Option.some.injEq]
      exact ⟨fun h => ⟨fun e => hy e.symm, h.symm⟩, fun h => h.2.symm⟩
  · have hm := (ha.keys k).2 hx
    rw [slF3_at (x.sl k) k hx a.sl _ fun p hp e => by rw [(ha.val p hp).1, e], h2, show (if y.sl k ≠ zero32 ∨ x.sl k ≠ zero32 then some (y.sl k) else none) = some (y.sl k) from if_pos (.inr hx)]
    simp only [Option.getD_some, hm, true_and]
    by_cases he : y.sl k = x.sl k
    · rw [if_pos he]
      constructor
      · intro h
        cases h
      · rintro ⟨h, _⟩
        exact absurd he.symm h
    · rw [if_neg he]
      simp only [Option.some.injEq]
      exact ⟨fun h => ⟨fun e => he e.symm, h.symm⟩, fun h => h.2.symm⟩
structure MapF (es : List Ent) (F : OpF) (N : Nat) : Prop where
  at_ : ∀ k, getE es k = (F k).map (D.arr 32)
  nod : (es.map (·.2.1)).Nodup
  len : es.length ≤ N
theorem MapF.nil : MapF [] (fun _ => none) 0 := ⟨fun k => rfl, List.nodup_nil, Nat.le_refl _⟩
theorem MapF.put {es : List Ent} {F : OpF} {N c : Nat} (h : MapF es F N) (k v : List UInt8) : MapF (putE c es k (.arr 32 v)) (F.put k v) (N + 1) := ⟨fun q => by
  rw [getE_putE]
  unfold OpF.put
  split
  · rfl
  · exact h.at_ q, putE_nodup _ _ _ _ h.nod, Nat.le_trans (putE_length _ _ _ _) (Nat.succ_le_succ h.len)⟩
theorem MapF.del {es : List Ent} {F : OpF} {N : Nat} (h : MapF es F N) (k : List UInt8) : MapF (delE es k) (F.del k) N := ⟨fun q => by
  rw [getE_delE _ _ _ h.nod]
  unfold OpF.del
  split
  · rfl
  · exact h.at_ q, h.nod.sublist ((delE_sub _ _).map _), Nat.le_trans (delE_length _ _) h.len⟩
theorem MapF.getD {es : List Ent} {F : OpF} {N : Nat} (h : MapF es F N) (k : List UInt8) : (getE es k).getD (.arr 32 zero32) = .arr 32 ((F k).getD zero32) := by
  rw [h.at_]
  cases F k <;> rfl
theorem MapF.mem {es : List Ent} {F : OpF} {N : Nat} (h : MapF es F N) (k : List UInt8) : k ∈ es.map (·.2.1) ↔ ∃ v, F k = some v := by
  have h1 := h.at_ k
  constructor
  · intro hk
    obtain ⟨d, hd⟩ := getE_some hk
    rw [hd] at h1
    cases hF : F k with
    | none => rw [hF] at h1; cases h1
    | some v => exact ⟨v, rfl⟩
  · rintro ⟨v, hv⟩
    rw [hv] at h1
    exact Classical.byContradiction fun hn => by
      rw [(getE_none es k).2 hn] at h1
      cases h1
structure RiseF (F : OpF) (L : List (List UInt8 × List UInt8)) : Prop where
  ord : L.Pairwise fun p q => p.1 < q.1
  mem : ∀ k v, (k, v) ∈ L ↔ F k = some v
theorem MapF.rise {es : List Ent} {F : OpF} {N : Nat} (h : MapF es F N) : RiseF F ((sortL (es.map (·.2.1))).map fun k => (k, (F k).getD zero32)) := by
  refine ⟨?_, fun k v => ?_⟩
  · rw [List.pairwise_map]
    exact sortL_lt h.nod
  · rw [List.mem_map]
    constructor
    · rintro ⟨q, hq, e⟩
      obtain ⟨v', hv'⟩ := (h.mem q).1 ((sortL_perm _).mem_iff.1 hq)
      simp only [Prod.mk.injEq] at e
      obtain ⟨rfl, rfl⟩ := e
      rw [hv']
      rfl
    · intro hv
      refine ⟨k, (sortL_perm _).mem_iff.2 ((h.mem k).2 ⟨v, hv⟩), ?_⟩
      rw [hv]
      rfl
end E
end Go.Proofs.YtdhicdnmgmkpkaaGreat
/-
  The program's snap: which slots are not the same.
  Conditions: none.
-/
namespace Go.Proofs.YtdhicdnmgmkpkaaGreat
set_option linter.unusedVariables false
open Go.RowKit Mono Rlp Wd Go.Sort
namespace E
theorem OpF.cut_yes {F : OpF} {x : List UInt8 × List UInt8} (h : ((F x.1).getD zero32 == x.2) = true) : F.cut x = F.del x.1 := by
  unfold OpF.cut
  rw [if_pos (by simpa using h)]
theorem OpF.cut_no {F : OpF} {x : List UInt8 × List UInt8} (h : ((F x.1).getD zero32 == x.2) = false) : F.cut x = F := by
  unfold OpF.cut
  rw [if_neg (by simpa using h)]
set_option maxRecDepth 20000 in
set_option maxHeartbeats 16000000 in
theorem slots_ (a b : List (List UInt8 × List UInt8)) (ha : a.length ≤ 1000000) (hb : b.length ≤ 1000000) : FnM 98 [.sl 64 (a.map dSlL), .sl 64 (b.map dSlL)] [] (fun r os' => (∃ L, RiseF (slDiff a b) L ∧ L.length ≤ a.length + b.length ∧ r = .val (.sl 64 (L.map dSlL))) ∧ os' = []) := by
  have hma : (a.map dSlL).length = a.length := List.length_map _
  have hmb : (b.map dSlL).length = b.length := List.length_map _
  refine FnM.walk 74 Tryz.func98 rfl Tryz.ntmps98 (by simp) fun X => ?_
  repeat
    (first
     | (apply P_move; (iterate 3 exact rfl)) | (apply P_assign; (iterate 3 exact rfl)) | (apply P_lensl; (iterate 4 exact rfl)) | (apply P_makeMap; exact rfl; exact rfl; exact rfl; intro _) | apply EL.nil
     | ((with_reducible apply EK.then_normal); apply EK.code)
     | (with_reducible first | apply EC.seq | apply EC.region | apply EC.skip | apply EC.label | apply EC.block | apply EC.exit | apply EC.ret | apply EK.in_normal | apply EK.in_same | apply EK.in_ret | apply EK.then_ret | apply EK.then_exit))
  rename_i m
  refine EC.loop (ι := {x : Nat × Nat × List Ent // x.1 ≤ a.length ∧ MapF x.2.2 (slF1 (a.take x.1)) x.1})
    (fun x => ⟨[(18, .val (.v (.int .i64 (x.1.1 : Int)))), (17, .val (.v (.int .i64 (a.map dSlL).length))), (16, .val (.sl 64 (a.map dSlL))), (5, .val (.v (.map (some m)))), (1, .val (.sl 64 (b.map dSlL))), (0, .val (.sl 64 (a.map dSlL)))], [.map m 32 x.1.2.1 x.1.2.2], []⟩)
    (fun x => a.length - x.1.1) ⟨(0, 0, []), Nat.zero_le _, MapF.nil⟩ ?_ ?_
  · exact (Le.keep (by repeat first | exact trivial | refine ⟨rfl, ?_⟩) (by repeat first | exact List.nil_sublist _ | apply List.Sublist.cons_cons | apply List.Sublist.cons) (by simp))
  rintro ⟨⟨i, c, es⟩, hi, hm⟩
  dsimp only at hi hm ⊢
  by_cases hlt : i < a.length
  · have hd : (a.map dSlL)[i]? = some (dSlL a[i]) := by rw [List.getElem?_map, List.getElem?_eq_getElem hlt]; rfl
    have htk : a.take (i + 1) = a.take i ++ [a[i]] := List.take_succ_eq_append_getElem hlt
    generalize a[i] = x at hd htk
    obtain ⟨q, v⟩ := x
    unfold dSlL at hd
    dsimp only at hd
    repeat
      (first
       | (apply P_move; (iterate 3 exact rfl)) | (apply P_field; (iterate 6 exact rfl)) | (apply P_loadpd; (iterate 5 exact rfl))
       | (apply P_load; exact rfl; (first | exact I0 | exact I1 | exact I2 | exact I3 | exact I4 | exact I5 | exact I6); (iterate 4 exact rfl))
       | (apply P_cmp (b := true); (iterate 2 exact rfl); (focus (first | (simp [cmpI]; done) | (simp [cmpI]; omega))); (iterate 2 exact rfl))
       | (apply P_ar; (iterate 3 exact rfl); (focus omega); (focus omega); (iterate 2 exact rfl))
       | (apply P_index; (iterate 4 exact rfl); (focus (first | exact ⟨by decide, rfl⟩ | (refine ⟨by omega, ?_⟩; rw [Int.toNat_natCast]; assumption))); (iterate 2 exact rfl))
       | (apply P_build0; (iterate 5 exact rfl)) | (apply P_mapUpd; exact rfl; (focus (repeat first | exact .z | apply SetAt.s | apply SetAtF.s)); (iterate 4 exact rfl))
       | (apply P_alloc; exact rfl; exact rfl; exact rfl; intro _) | (apply P_store; exact rfl; (focus (repeat first | exact .z | apply SetAt.s | apply SetAtF.s)); (iterate 4 exact rfl)) | apply EL.nil
       | ((with_reducible apply EK.then_normal); apply EK.code) | (apply EC.cond_true; exact rfl)
       | (with_reducible first | apply EC.seq | apply EC.region | apply EC.skip | apply EC.label | apply EC.block | apply EC.exit | apply EC.ret | apply EK.in_normal | apply EK.in_same | apply EK.in_ret | apply EK.then_ret | apply EK.then_exit))
    refine EK.again ⟨(i + 1, tickE c es q, putE c es q (.arr 32 zero32)), hlt, by rw [htk, slF1_snoc]; exact hm.put q zero32⟩ (by dsimp only; omega) ?_
    simp only [Int.natCast_add]
    exact (Le.keep (by repeat first | exact trivial | refine ⟨rfl, ?_⟩) (by repeat first | exact List.nil_sublist _ | apply List.Sublist.cons_cons | apply List.Sublist.cons) (by simp))
  have hiE : i = a.length := by omega
  subst hiE
  rw [List.take_length] at hm
  repeat
    (first
     | (apply P_move; (iterate 3 exact rfl)) | (apply P_cmp (b := false); (iterate 2 exact rfl); (focus (first | (simp [cmpI]; done) | (simp [cmpI]; omega))); (iterate 2 exact rfl))
     | (apply P_lensl; (iterate 4 exact rfl)) | apply EL.nil | ((with_reducible apply EK.then_normal); apply EK.code) | (apply EC.cond_false; exact rfl)
     | (with_reducible first | apply EC.seq | apply EC.region | apply EC.skip | apply EC.label | apply EC.block | apply EC.exit | apply EC.ret | apply EK.in_normal | apply EK.in_same | apply EK.in_ret | apply EK.then_ret | apply EK.then_exit))
  refine EC.loop (ι := {x : Nat × Nat × List Ent // x.1 ≤ b.length ∧ MapF x.2.2 (slF2 (b.take x.1) (slF1 a)) (a.length + x.1)})
    (fun x => ⟨[(29, .val (.v (.int .i64 (x.1.1 : Int)))), (28, .val (.v (.int .i64 (b.map dSlL).length))), (27, .val (.sl 64 (b.map dSlL))), (5, .val (.v (.map (some m)))), (0, .val (.sl 64 (a.map dSlL)))], [.map m 32 x.1.2.1 x.1.2.2], []⟩)
    (fun x => b.length - x.1.1) ⟨(0, c, es), Nat.zero_le _, hm⟩ ?_ ?_
  · exact (Le.keep (by repeat first | exact trivial | refine ⟨rfl, ?_⟩) (by repeat first | exact List.nil_sublist _ | apply List.Sublist.cons_cons | apply List.Sublist.cons) (by simp))
  rintro ⟨⟨i, c, es⟩, hi, hm⟩
  dsimp only at hi hm ⊢
  by_cases hlt : i < b.length
  · have hd : (b.map dSlL)[i]? = some (dSlL b[i]) := by rw [List.getElem?_map, List.getElem?_eq_getElem hlt]; rfl
    have htk : b.take (i + 1) = b.take i ++ [b[i]] := List.take_succ_eq_append_getElem hlt
    generalize b[i] = x at hd htk
    obtain ⟨q, v⟩ := x
    unfold dSlL at hd
    dsimp only at hd
    repeat
      (first
       | (apply P_move; (iterate 3 exact rfl)) | (apply P_field; (iterate 6 exact rfl)) | (apply P_loadpd; (iterate 5 exact rfl))
       | (apply P_load; exact rfl; (first | exact I0 | exact I1 | exact I2 | exact I3 | exact I4 | exact I5 | exact I6); (iterate 4 exact rfl))
       | (apply P_cmp (b := true); (iterate 2 exact rfl); (focus (first | (simp [cmpI]; done) | (simp [cmpI]; omega))); (iterate 2 exact rfl))
       | (apply P_ar; (iterate 3 exact rfl); (focus omega); (focus omega); (iterate 2 exact rfl))
       | (apply P_index; (iterate 4 exact rfl); (focus (first | exact ⟨by decide, rfl⟩ | (refine ⟨by omega, ?_⟩; rw [Int.toNat_natCast]; assumption))); (iterate 2 exact rfl))
       | (apply P_mapUpd; exact rfl; (focus (repeat first | exact .z | apply SetAt.s | apply SetAtF.s)); (iterate 4 exact rfl)) | (apply P_alloc; exact rfl; exact rfl; exact rfl; intro _)
       | (apply P_store; exact rfl; (focus (repeat first | exact .z | apply SetAt.s | apply SetAtF.s)); (iterate 4 exact rfl)) | apply EL.nil | ((with_reducible apply EK.then_normal); apply EK.code)
       | (apply EC.cond_true; exact rfl)
       | (with_reducible first | apply EC.seq | apply EC.region | apply EC.skip | apply EC.label | apply EC.block | apply EC.exit | apply EC.ret | apply EK.in_normal | apply EK.in_same | apply EK.in_ret | apply EK.then_ret | apply EK.then_exit))
    refine EK.again ⟨(i + 1, tickE c es q, putE c es q (.arr 32 v)), hlt, by rw [htk, slF2_snoc]; exact hm.put q v⟩ (by dsimp only; omega) ?_
    simp only [Int.natCast_add]
    exact (Le.keep (by repeat first | exact trivial | refine ⟨rfl, ?_⟩) (by repeat first | exact List.nil_sublist _ | apply List.Sublist.cons_cons | apply List.Sublist.cons) (by simp))
  have hiE : i = b.length := by omega
  subst hiE
  rw [List.take_length] at hm
  repeat
    (first
     | (apply P_move; (iterate 3 exact rfl)) | (apply P_cmp (b := false); (iterate 2 exact rfl); (focus (first | (simp [cmpI]; done) | (simp [cmpI]; omega))); (iterate 2 exact rfl))
     | (apply P_lensl; (iterate 4 exact rfl)) | apply EL.nil | ((with_reducible apply EK.then_normal); apply EK.code) | (apply EC.cond_false; exact rfl)
     | (with_reducible first | apply EC.seq | apply EC.region | apply EC.skip | apply EC.label | apply EC.block | apply EC.exit | apply EC.ret | apply EK.in_normal | apply EK.in_same | apply EK.in_ret | apply EK.then_ret | apply EK.then_exit))
  refine EC.loop (ι := {x : Nat × List Ent // x.1 ≤ a.length ∧ MapF x.2 (slF3 (a.take x.1) (slF2 b (slF1 a))) (a.length + b.length)})
    (fun x => ⟨[(41, .val (.v (.int .i64 (x.1.1 : Int)))), (40, .val (.v (.int .i64 (a.map dSlL).length))), (39, .val (.sl 64 (a.map dSlL))), (5, .val (.v (.map (some m))))], [.map m 32 c x.1.2], []⟩)
    (fun x => a.length - x.1.1) ⟨(0, es), Nat.zero_le _, hm⟩ ?_ ?_
  · exact (Le.keep (by repeat first | exact trivial | refine ⟨rfl, ?_⟩) (by repeat first | exact List.nil_sublist _ | apply List.Sublist.cons_cons | apply List.Sublist.cons) (by simp))
  rintro ⟨⟨i, es⟩, hi, hm⟩
  dsimp only at hi hm ⊢
  by_cases hlt : i < a.length
  · have hd : (a.map dSlL)[i]? = some (dSlL a[i]) := by rw [List.getElem?_map, List.getElem?_eq_getElem hlt]; rfl
    have htk : a.take (i + 1) = a.take i ++ [a[i]] := List.take_succ_eq_append_getElem hlt
    generalize a[i] = x at hd htk
    obtain ⟨q, v⟩ := x
    unfold dSlL at hd
    dsimp only at hd
    have hg := hm.getD q
    cases he : ((slF3 (a.take i) (slF2 b (slF1 a)) q).getD zero32 == v) with
    | true =>
      have hb2 := (bin_word ((slF3 (a.take i) (slF2 b (slF1 a)) q).getD zero32) v).1
      rw [he] at hb2
      have hcut := OpF.cut_yes (F := slF3 (a.take i) (slF2 b (slF1 a))) (x := (q, v)) he
      generalize (slF3 (a.take i) (slF2 b (slF1 a)) q).getD zero32 = u at hg hb2
      repeat
        (first
         | (apply P_loadpd; (iterate 5 exact rfl)) | (apply P_cmp (b := true); (iterate 2 exact rfl); (focus (first | (simp [cmpI]; done) | (simp [cmpI]; omega))); (iterate 2 exact rfl))
         | (apply P_index; (iterate 4 exact rfl); (focus (first | exact ⟨by decide, rfl⟩ | (refine ⟨by omega, ?_⟩; rw [Int.toNat_natCast]; assumption))); (iterate 2 exact rfl))
         | (apply P_alloc; exact rfl; exact rfl; exact rfl; intro _) | (apply P_store; exact rfl; (focus (repeat first | exact .z | apply SetAt.s | apply SetAtF.s)); (iterate 4 exact rfl)) | apply EL.nil
         | ((with_reducible apply EK.then_normal); apply EK.code) | (apply EC.cond_true; exact rfl)
         | (with_reducible first | apply EC.seq | apply EC.region | apply EC.skip | apply EC.label | apply EC.block | apply EC.exit | apply EC.ret | apply EK.in_normal | apply EK.in_same | apply EK.in_ret | apply EK.then_ret | apply EK.then_exit))
      refine EC.draw 7 (by kernel_rfl) ?_
      simp only [List.take_succ_cons, List.take_zero, List.drop_succ_cons, List.drop_zero]
      repeat
        (first
         | (apply H_lookup; exact hg; exact rfl; (first | exact I0 | exact I1 | exact I2 | exact I3 | exact I4 | exact I5); (iterate 5 exact rfl))
         | (apply H_bin; (iterate 2 exact rfl); exact hb2; (iterate 2 exact rfl)) | (apply H_move; (iterate 3 exact rfl)) | (apply H_field; (iterate 6 exact rfl))
         | (apply H_load; exact rfl; (first | exact I0 | exact I1 | exact I2 | exact I3 | exact I4 | exact I5 | exact I6); (iterate 4 exact rfl)) | ((with_reducible apply EH.nil); exact rfl))
      repeat
        (first
         | (apply P_move; (iterate 3 exact rfl)) | (apply P_field; (iterate 6 exact rfl))
         | (apply P_load; exact rfl; (first | exact I0 | exact I1 | exact I2 | exact I3 | exact I4 | exact I5 | exact I6); (iterate 4 exact rfl))
         | (apply P_ar; (iterate 3 exact rfl); (focus omega); (focus omega); (iterate 2 exact rfl))
         | (apply P_delete; exact rfl; (focus (repeat first | exact .z | apply SetAt.s | apply SetAtF.s)); (iterate 3 exact rfl)) | apply EL.nil | ((with_reducible apply EK.then_normal); apply EK.code)
         | (apply EC.cond_true; exact rfl)
         | (with_reducible first | apply EC.seq | apply EC.region | apply EC.skip | apply EC.label | apply EC.block | apply EC.exit | apply EC.ret | apply EK.in_normal | apply EK.in_same | apply EK.in_ret | apply EK.then_ret | apply EK.then_exit))
      refine EK.again ⟨(i + 1, delE es q), hlt, by rw [htk, slF3_snoc, hcut]; exact hm.del q⟩ (by dsimp only; omega) ?_
      simp only [Int.natCast_add]
      exact (Le.keep (by repeat first | exact trivial | refine ⟨rfl, ?_⟩) (by repeat first | exact List.nil_sublist _ | apply List.Sublist.cons_cons | apply List.Sublist.cons) (by simp))
    | false =>
      have hb2 := (bin_word ((slF3 (a.take i) (slF2 b (slF1 a)) q).getD zero32) v).1
      rw [he] at hb2
      have hcut := OpF.cut_no (F := slF3 (a.take i) (slF2 b (slF1 a))) (x := (q, v)) he
      generalize (slF3 (a.take i) (slF2 b (slF1 a)) q).getD zero32 = u at hg hb2
      repeat
        (first
         | (apply P_loadpd; (iterate 5 exact rfl)) | (apply P_cmp (b := true); (iterate 2 exact rfl); (focus (first | (simp [cmpI]; done) | (simp [cmpI]; omega))); (iterate 2 exact rfl))
         | (apply P_index; (iterate 4 exact rfl); (focus (first | exact ⟨by decide, rfl⟩ | (refine ⟨by omega, ?_⟩; rw [Int.toNat_natCast]; assumption))); (iterate 2 exact rfl))
         | (apply P_alloc; exact rfl; exact rfl; exact rfl; intro _) | (apply P_store; exact rfl; (focus (repeat first | exact .z | apply SetAt.s | apply SetAtF.s)); (iterate 4 exact rfl)) | apply EL.nil
         | ((with_reducible apply EK.then_normal); apply EK.code) | (apply EC.cond_true; exact rfl)
         | (with_reducible first | apply EC.seq | apply EC.region | apply EC.skip | apply EC.label | apply EC.block | apply EC.exit | apply EC.ret | apply EK.in_normal | apply EK.in_same | apply EK.in_ret | apply EK.then_ret | apply EK.then_exit))
      refine EC.draw 7 (by kernel_rfl) ?_
      simp only [List.take_succ_cons, List.take_zero, List.drop_succ_cons, List.drop_zero]
      repeat
        (first
         | (apply H_lookup; exact hg; exact rfl; (first | exact I0 | exact I1 | exact I2 | exact I3 | exact I4 | exact I5); (iterate 5 exact rfl))
         | (apply H_bin; (iterate 2 exact rfl); exact hb2; (iterate 2 exact rfl)) | (apply H_move; (iterate 3 exact rfl)) | (apply H_field; (iterate 6 exact rfl))
         | (apply H_load; exact rfl; (first | exact I0 | exact I1 | exact I2 | exact I3 | exact I4 | exact I5 | exact I6); (iterate 4 exact rfl)) | ((with_reducible apply EH.nil); exact rfl))
      repeat
        (first
         | (apply P_move; (iterate 3 exact rfl)) | (apply P_ar; (iterate 3 exact rfl); (focus omega); (focus omega); (iterate 2 exact rfl)) | apply EL.nil | ((with_reducible apply EK.then_normal); apply EK.code)
         | (apply EC.cond_false; exact rfl)
         | (with_reducible first | apply EC.seq | apply EC.region | apply EC.skip | apply EC.label | apply EC.block | apply EC.exit | apply EC.ret | apply EK.in_normal | apply EK.in_same | apply EK.in_ret | apply EK.then_ret | apply EK.then_exit))
      refine EK.again ⟨(i + 1, es), hlt, by rw [htk, slF3_snoc, hcut]; exact hm⟩ (by dsimp only; omega) ?_
      simp only [Int.natCast_add]
      exact (Le.keep (by repeat first | exact trivial | refine ⟨rfl, ?_⟩) (by repeat first | exact List.nil_sublist _ | apply List.Sublist.cons_cons | apply List.Sublist.cons) (by simp))
  have hiE : i = a.length := by omega
  subst hiE
  rw [List.take_length] at hm
  have hm : MapF es (slDiff a b) (a.length + b.length) := hm
  have hel := hm.len
  have h3 := keys_word m
  have h4 := fun gk => sorted_word 81 cmp_word enters_tc gk m c es (by omega)
  have hKl : (sortL (es.map (·.2.1))).length = es.length := by rw [(sortL_perm _).length_eq, List.length_map]
  have hR := hm.rise
  generalize sortL (es.map (·.2.1)) = K at h4 hKl hR
  have hmk : (K.map (D.arr 32)).length = K.length := List.length_map _
  repeat
    (first
     | (apply P_callM (os := []) h3; (iterate 2 exact rfl); exact RefineL.refl _ _; (focus (intro _ _; simp [go_sem]; done)); (iterate 2 exact rfl); rintro _ _ ⟨gk2, rfl, rfl⟩; simp only [List.cons_append, List.nil_append]; apply P_callM (os := [.var gk2 113 (.v (.map (some m))), .map m 32 c es]) (h4 gk2); (iterate 2 exact rfl); exact RefineL.refl _ _; (focus (intro _ _; simp [go_sem]; done)); (iterate 2 exact rfl); rintro _ _ ⟨kv2, rfl, rfl⟩; refine EL.le (Le.freeze (pre := []) rfl) ?_; refine EL.le (Le.refine (t := 58) (d' := .sl 32 (K.map (D.arr 32))) rfl (Rf.fact (by simp) rfl)) ?_; simp only [List.nil_append])
     | (apply P_move; (iterate 3 exact rfl)) | (apply P_assign; (iterate 3 exact rfl))
     | (apply P_cmp (b := false); (iterate 2 exact rfl); (focus (first | (simp [cmpI]; done) | (simp [cmpI]; omega))); (iterate 2 exact rfl)) | (apply P_lensl; (iterate 4 exact rfl)) | apply EL.nil
     | ((with_reducible apply EK.then_normal); apply EK.code) | (apply EC.cond_false; exact rfl)
     | (with_reducible first | apply EC.seq | apply EC.region | apply EC.skip | apply EC.label | apply EC.block | apply EC.exit | apply EC.ret | apply EK.in_normal | apply EK.in_same | apply EK.in_ret | apply EK.then_ret | apply EK.then_exit))
  refine EC.le (Le.row 103 64) ?_
  refine EC.loop (ι := {x : Nat × Value // x.1 ≤ K.length})
    (fun x => ⟨[(60, .val (.v (.int .i64 (x.1.1 : Int)))), (59, .val (.v (.int .i64 (K.map (D.arr 32)).length))), (58, .val (.sl 32 (K.map (D.arr 32)))), (12, .val (.v x.1.2)), (5, .val (.v (.map (some m))))],
      [.row x.1.2 103 64 ((K.take x.1.1).map fun k => dSlL (k, (slDiff a b k).getD zero32)), .map m 32 c es], []⟩)
    (fun x => K.length - x.1.1) ⟨(0, nilS), Nat.zero_le _⟩ ?_ ?_
  · exact (Le.keep (by repeat first | exact trivial | refine ⟨rfl, ?_⟩) (by repeat first | exact List.nil_sublist _ | apply List.Sublist.cons_cons | apply List.Sublist.cons) (by simp))
  rintro ⟨⟨j, sv⟩, hjK⟩
  dsimp only at hjK ⊢
  by_cases hlj : j < K.length
  · have hd2 : (K.map (D.arr 32))[j]? = some (D.arr 32 K[j]) := by rw [List.getElem?_map, List.getElem?_eq_getElem hlj]; rfl
    have hg2 := hm.getD K[j]
    have htk : (K.take (j + 1)).map (fun k => dSlL (k, (slDiff a b k).getD zero32)) = (K.take j).map (fun k => dSlL (k, (slDiff a b k).getD zero32)) ++ [dSlL (K[j], (slDiff a b K[j]).getD zero32)] := by rw [List.take_succ_eq_append_getElem hlj, List.map_append]; rfl
    have hl3 : ((K.take j).map fun k => dSlL (k, (slDiff a b k).getD zero32)).length = j := by rw [List.length_map, List.length_take]; omega
    generalize K[j] = q at hd2 hg2 htk
    generalize (K.take j).map (fun k => dSlL (k, (slDiff a b k).getD zero32)) = R at htk hl3 ⊢
    repeat
      (first
       | (apply P_loadpd; (iterate 5 exact rfl)) | (apply P_cmp (b := true); (iterate 2 exact rfl); (focus (first | (simp [cmpI]; done) | (simp [cmpI]; omega))); (iterate 2 exact rfl))
       | (apply P_index; (iterate 4 exact rfl); (focus (first | exact ⟨by decide, rfl⟩ | (refine ⟨by omega, ?_⟩; rw [Int.toNat_natCast]; assumption))); (iterate 2 exact rfl))
       | (apply P_alloc; exact rfl; exact rfl; exact rfl; intro _) | (apply P_store; exact rfl; (focus (repeat first | exact .z | apply SetAt.s | apply SetAtF.s)); (iterate 4 exact rfl)) | apply EL.nil
       | ((with_reducible apply EK.then_normal); apply EK.code) | (apply EC.cond_true; exact rfl)
       | (with_reducible first | apply EC.seq | apply EC.region | apply EC.skip | apply EC.label | apply EC.block | apply EC.exit | apply EC.ret | apply EK.in_normal | apply EK.in_same | apply EK.in_ret | apply EK.then_ret | apply EK.then_exit))
    refine EC.le (Le.pick [1, 0, 2] [_, _, _] rfl (by decide) rfl) ?_
    refine EC.drawC 8 [0, 1, 2, 3, 4, 5] [6, 7] [_] _ (by kernel_rfl) (by kernel_rfl) rfl ?_
    simp only [pickL, List.filterMap_cons, List.filterMap_nil, List.getElem?_cons_zero, List.getElem?_cons_succ]
    repeat
      (first
       | (apply H_lookup; exact hg2; exact rfl; (first | exact I0 | exact I1 | exact I2 | exact I3 | exact I4 | exact I5); (iterate 5 exact rfl)) | (apply H_move; (iterate 3 exact rfl))
       | (apply H_load; exact rfl; (first | exact I0 | exact I1 | exact I2 | exact I3 | exact I4 | exact I5 | exact I6); (iterate 4 exact rfl)) | (apply H_build; (iterate 7 exact rfl)))
    refine EM.nil ?_
    repeat (first | rw [List.cons_append] | rw [List.nil_append])
    refine CH.cut 1 ?_
    simp only [List.take_succ_cons, List.take_zero, List.drop_succ_cons, List.drop_zero]
    repeat
      (first
       | (apply H_lit; (iterate 9 exact rfl)))
    refine EM.nil ?_
    repeat (first | rw [List.cons_append] | rw [List.nil_append])
    refine CH.mut (os := [_]) (rest := []) rfl rfl (m_append rfl rfl rfl rfl rfl ?_) ?_
    · rw [hl3]
      constructor <;> (simp; omega)
    rintro _ _ ⟨sv', rfl, rfl⟩
    try simp only [St.put]
    repeat (first | rw [List.cons_append] | rw [List.nil_append])
    refine CH.nil ?_
    try simp only [List.drop_succ_cons, List.drop_zero]
    repeat
      (first
       | (apply P_move; (iterate 3 exact rfl)) | (apply P_assign; (iterate 3 exact rfl)) | (apply P_ar; (iterate 3 exact rfl); (focus omega); (focus omega); (iterate 2 exact rfl)) | apply EL.nil
       | ((with_reducible apply EK.then_normal); apply EK.code)
       | (with_reducible first | apply EC.seq | apply EC.region | apply EC.skip | apply EC.label | apply EC.block | apply EC.exit | apply EC.ret | apply EK.in_normal | apply EK.in_same | apply EK.in_ret | apply EK.then_ret | apply EK.then_exit))
    refine EK.again ⟨(j + 1, sv'), hlj⟩ (by dsimp only; omega) ?_
    dsimp only
    rw [htk]
    simp only [Int.natCast_add]
    exact (Le.keep (by repeat first | exact trivial | refine ⟨rfl, ?_⟩) (by repeat first | exact List.nil_sublist _ | apply List.Sublist.cons_cons | apply List.Sublist.cons) (by simp))
  · have hjE : j = K.length := by omega
    subst hjE
    rw [List.take_length]
    repeat
      (first
       | (apply P_move; (iterate 3 exact rfl)) | (apply P_assign; (iterate 3 exact rfl))
       | (apply P_cmp (b := false); (iterate 2 exact rfl); (focus (first | (simp [cmpI]; done) | (simp [cmpI]; omega))); (iterate 2 exact rfl)) | apply EL.nil
       | ((with_reducible apply EK.then_normal); apply EK.code) | (apply EC.cond_false; exact rfl)
       | (with_reducible first | apply EC.seq | apply EC.region | apply EC.skip | apply EC.label | apply EC.block | apply EC.exit | apply EC.ret | apply EK.in_normal | apply EK.in_same | apply EK.in_ret | apply EK.then_ret | apply EK.then_exit))
    rw [show K.map (fun k => dSlL (k, (slDiff a b k).getD zero32)) = (K.map fun k => (k, (slDiff a b k).getD zero32)).map dSlL by rw [List.map_map]; rfl]
    refine EK.le (Le.freeze (pre := []) rfl) ?_
    refine EK.retM1k [] rfl rfl (RL.cons (Rf.fact List.mem_cons_self rfl) RL.nil) (List.nil_sublist _) ⟨⟨_, hR, by rw [List.length_map]; omega, rfl⟩, rfl⟩
end E
end Go.Proofs.YtdhicdnmgmkpkaaGreat
/-
  A field of a struct's value.
  Conditions: none.
-/
namespace Go.Proofs.YtdhicdnmgmkpkaaGreat
set_option linter.unusedVariables false
open Go.RowKit Mono Rlp
namespace E
end E
end Go.Proofs.YtdhicdnmgmkpkaaGreat
/-
  The abstract machine: ranges over maps; an entry of a map's literal; pieces of a chain in another order.
  Conditions: none.
-/
namespace Go.Proofs.YtdhicdnmgmkpkaaGreat
set_option linter.unusedVariables false
open Go.RowKit Mono Rlp
open Go.ChangeMaps (setBlock)
namespace E
abbrev itO (r b c : Nat) (seen : Array Nat) : Obj := .it r (.mapIter (some b) c seen c)
theorem All2.left {α β : Type} {R : α → β → Prop} : ∀ {l : List α} {m : List β}, All2 R l m → ∀ a ∈ l, ∃ b ∈ m, R a b
  | _, _, .nil, a, h => by cases h
  | _, _, .cons h1 h2, a, h => by
    rcases List.mem_cons.1 h with rfl | h
    · exact ⟨_, List.mem_cons_self, h1⟩
    · obtain ⟨b, hb, hr⟩ := h2.left a h
      exact ⟨b, List.mem_cons_of_mem _ hb, hr⟩
theorem All2.right {α β : Type} {R : α → β → Prop} : ∀ {l : List α} {m : List β}, All2 R l m → ∀ b ∈ m, ∃ a ∈ l, R a b
  | _, _, .nil, a, h => by cases h
  | _, _, .cons h1 h2, a, h => by
    rcases List.mem_cons.1 h with rfl | h
    · exact ⟨_, List.mem_cons_self, h1⟩
    · obtain ⟨b, hb, hr⟩ := h2.right a h
      exact ⟨b, List.mem_cons_of_mem _ hb, hr⟩
theorem borns_eq {ok : Nat → Prop} {w : World} {n : Nat} : ∀ {l : List MapEntry} {m : List Ent}, All2 (EntAt ok w n) l m → l.map (·.born) = m.map (·.1)
  | _, _, .nil => rfl
  | _, _, .cons h1 h2 => by rw [List.map_cons, List.map_cons, h1.born, borns_eq h2]
section
variable {N : Nat} {X : Cx N} {S : St} {a : Act} {w w' : World} {ops : Array Oper} {o : Oper} {Q : Exit → Act → World → Prop} {l : List Oper} {rs : List (Tmp × R)} {os os' rest : List Obj} {fs : List (Value × D)}
theorem m_range {T K n E b c i : Nat} {es : List Ent} {x : Operand} (ho : o.op = .range T x) (hx : ev S x = some (.val (.v (.map (some b))))) (hi : S.objs[i]? = some (.map b n c es)) (hT : assoc mapL T = some (K, n, E)) : Muts ops S o [] (fun r os' => ∃ g, r = .val (.v (.pointer (some ⟨g, 0, none⟩))) ∧ os' = [itO g b c #[]]) := .mk fun base ok a w ha hown => by
  have h1 := ev_v ha hx (looks_op (by rw [ho]; simp [Op.operands]))
  obtain ⟨_, _, arr, h2, _⟩ := ha.map hi
  have hr : (execOp a.eval o).run Tryz.prog w = .ok (.value (.pointer (some ⟨w.heap.size, 0, none⟩))) (w.alloc (.mapIter (some b) c #[] c)) := by
    simp [execOp, ho, h1, run_range_map w T _ _ b arr c (mapI hT).1 h2, Result.andThen]
  rw [hr]
  obtain ⟨g1, g2⟩ := m_new (ok := ok) (w := w) (q := itO w.heap.size b c #[]) (r := .val (.v (.pointer (some ⟨w.heap.size, 0, none⟩)))) (ob := .mapIter (some b) c #[] c) (v := .pointer (some ⟨w.heap.size, 0, none⟩)) rfl (fun ok' _ => ⟨.inr (Nat.le_refl _), heap_alloc_new w _⟩) (fun _ => v_mk rfl) ha.lt
  exact ⟨_, _, ⟨_, rfl, rfl⟩, g1, g2⟩
theorem P_range {t T K n E b c i ty : Nat} {pos : String} {af : Array Edge} {gd : Option (Nat × Bool)} {es : List Ent} {x : Operand} (hx : ev (⟨rs, os, fs⟩ : St) x = some (.val (.v (.map (some b))))) (hi : os[i]? = some (.map b n c es)) (hT : assoc mapL T = some (K, n, E)) (hg : guardOf ops ⟨rs, os, fs⟩ ⟨some t, .range T x, ty, pos, af, gd⟩ = some true) (hN : Nat.blt t N = true) (kk : ∀ g, EL X ops Q l ⟨(t, .val (.v (.pointer (some ⟨g, 0, none⟩)))) :: rs, itO g b c #[] :: os, fs⟩) : EL X ops Q (⟨some t, .range T x, ty, pos, af, gd⟩ :: l) ⟨rs, os, fs⟩ :=
  EL.mut (os := []) (rest := os) hg (dst_lt rfl hN) (m_range rfl hx hi hT) fun r os' ⟨g, h1, h2⟩ => by
    subst h1 h2
    exact kk g
theorem m_next {b n c g : Nat} {es : List Ent} {seen : Array Nat} {x : Operand} (ho : o.op = .next x false) (hx : ev S x = some (.val (.v (.pointer (some ⟨g, 0, none⟩))))) :
    Muts ops S o [itO g b c seen, .map b n c es] (fun r os' => (r = .tpl [.v (.bool false)] ∧ (∀ e ∈ es, e.1 ∈ seen) ∧ os' = [itO g b c seen, .map b n c es]) ∨ (∃ e ∈ es, e.1 ∉ seen ∧ r = .tpl [.v (.bool true), .arr n e.2.1, e.2.2] ∧ os' = [itO g b c (seen.push e.1), .map b n c es])) := .mk fun base ok a w ha hown => by
  have h1 := ev_v ha hx (looks_op (by rw [ho]; simp [Op.operands]))
  obtain ⟨_, h2⟩ := hown.at_ (itO g b c seen) (by simp)
  obtain ⟨_, hE, arr, h3, h4⟩ := hown.at_ (.map b n c es) (by simp)
  have hne : g ≠ b := fun e => by rw [e, h3] at h2; cases h2
  have hlt : ∀ x ∈ arr.toList, x.born < c := fun x hx => by
    obtain ⟨y, hy, h5⟩ := h4.left x hx
    rw [h5.born]
    exact hE.lt y hy
  have hBg : Blks [itO g b c seen, .map b n c es] g := ⟨_, List.mem_cons_self, rfl⟩
  rcases run_next_at (P := Tryz.prog) w o.type g b c c seen arr c h2 h3 hlt (Nat.le_refl _) with ⟨h0, hrun⟩ | ⟨e, he, w1, hal, hrun⟩
  · have hr : (execOp a.eval o).run Tryz.prog w = .ok (.value (.tuple #[.bool false])) w := by simp [execOp, ho, h1, hrun, Result.andThen]
    rw [hr]
    refine ⟨_, _, .inl ⟨rfl, fun e he => ?_, rfl⟩, ⟨.refl w, hown.apart, fun p hp => ?_⟩, ?_⟩
    · obtain ⟨x, hx, h5⟩ := h4.right e he
      have h6 : leftOf arr seen = #[] := Array.eq_empty_of_size_eq_zero h0
      refine Classical.byContradiction fun hn => ?_
      have : x ∈ leftOf arr seen := by
        unfold leftOf
        rw [Array.mem_filter]
        refine ⟨by simpa using hx, ?_⟩
        rw [h5.born]
        simpa using hn
      rw [h6] at this
      simp at this
    · refine ((hown.at_ p hp).move (fun b' hb' => ⟨.inl hb', ha.lt b' hb', fun o' ho' e => hown.off b' ⟨o', ho', e⟩ hb'⟩) (fun _ _ => rfl) fun _ _ => rfl).rebase fun b' e => .inl ⟨p, hp, e⟩
    · exact ⟨[.bool false], rfl, _, _, rfl, v_mk rfl, rfl⟩
  · obtain ⟨hem, hes⟩ := mem_left he
    have hr1 : w1.heap[g]? = some (.mapIter (some b) c seen c) := by rcases hal with rfl | rfl <;> exact h2
    have hset : (setBlock w1 g (.mapIter (some b) c (seen.push e.born) c)).heap[g]? = some (.mapIter (some b) c (seen.push e.born) c) ∧ ∀ j, j ≠ g → (setBlock w1 g (.mapIter (some b) c (seen.push e.born) c)).heap[j]? = w1.heap[j]? := MapKept.heap_set (o' := .mapIter (some b) c (seen.push e.born) c) hr1
    have hgr : w.grownBy (setBlock w1 g (.mapIter (some b) c (seen.push e.born) c)) (some g) := by rcases hal with rfl | rfl <;> exact ⟨rfl, rfl, rfl, by simp [setBlock], fun i _ hi => hset.2 i (fun e1 => hi (by rw [e1]))⟩
    have hr : (execOp a.eval o).run Tryz.prog w = .ok (.value (.tuple #[.bool true, e.key, e.val])) (setBlock w1 g (.mapIter (some b) c (seen.push e.born) c)) := by simp [execOp, ho, h1, hrun, Result.andThen]
    rw [hr]
    obtain ⟨x, hx, h5⟩ := h4.left e (by simpa using hem)
    generalize setBlock w1 g (.mapIter (some b) c (seen.push e.born) c) = w2 at hset hgr hr ⊢
    rw [h5.born] at hset
    have hok : ∀ b', ok b' → okM ok [itO g b c seen, .map b n c es] w [itO g b c (seen.push x.1), .map b n c es] w2 b' := fun b' hb' => ⟨.inl hb', Nat.lt_of_lt_of_le (ha.lt b' hb') hgr.size, fun o' ho' e' => by
      simp only [List.mem_cons, List.not_mem_nil, or_false] at ho'
      rcases ho' with rfl | rfl
      · exact hown.off b' ⟨itO g b c seen, List.mem_cons_self, e'⟩ hb'
      · exact hown.off b' ⟨.map b n c es, by simp, e'⟩ hb'⟩
    have hcell : ∀ p : Addr, ok p.block → w2.cell? p = w.cell? p := fun p hp => World.cell?_of_block (hgr.block _ (ha.lt _ hp) fun e' => hown.off p.block ⟨itO g b c seen, List.mem_cons_self, e'.symm ▸ rfl⟩ hp)
    refine ⟨_, _, .inr ⟨x, hx, ?_, rfl, rfl⟩, ⟨⟨hgr.os, hgr.tape, hgr.output, hgr.size, fun k hk hn => hgr.block k hk fun e' => hn (by injection e' with e'; subst e'; exact hBg)⟩, ?_, fun p hp => ?_⟩, ?_⟩
    · rw [← h5.born]
      intro hm
      rw [Array.contains_iff_mem.2 hm] at hes
      cases hes
    · have := hown.apart
      simpa [Apart, Obj.blk] using this
    · simp only [List.mem_cons, List.not_mem_nil, or_false] at hp
      rcases hp with rfl | rfl
      · exact ⟨.inl hBg, hset.1⟩
      · refine ⟨.inl ⟨.map b n c es, by simp, rfl⟩, hE, arr, (hset.2 b (fun e' => hne e'.symm)).trans (by rcases hal with rfl | rfl <;> exact h3), forall2_imp (fun _ _ h => h.mono hok hcell) h4⟩
    · refine ⟨[.bool true, e.key, e.val], rfl, _, _, rfl, v_mk rfl, _, _, rfl, ?_, _, _, rfl, h5.val.mono hok hcell, rfl⟩
      rw [h5.key]
      exact arrV_mk h5.len
theorem g_entry {b n c g i j : Nat} {es : List Ent} {seen : Array Nat} {x : Operand} {e : Ent} (he : e ∈ es) (ho : o.op = .entry x) (hx : ev S x = some (.val (.v (.pointer (some ⟨g, 0, none⟩))))) (hi : S.objs[i]? = some (itO g b c (seen.push e.1))) (hj : S.objs[j]? = some (.map b n c es)) : Still ops S o (.tpl [.arr n e.2.1, e.2.2]) := fun base ok a w ha => by
  have h1 := ev_v ha hx (looks_op (by rw [ho]; simp [Op.operands]))
  obtain ⟨_, hE, arr, h3, h4⟩ := ha.map hj
  obtain ⟨_, h2⟩ := ha.objs _ (List.mem_of_getElem? hi)
  obtain ⟨y, hy, h5⟩ := h4.right e he
  rw [← h5.born] at h2
  have hrun := run_entry_at (P := Tryz.prog) w g b c seen arr c y h2 h3 hy (by rw [borns_eq h4]; exact hE.borns)
  refine ⟨.tuple #[y.key, y.val], ?_, [y.key, y.val], rfl, _, _, rfl, by rw [h5.key]; exact arrV_mk h5.len, _, _, rfl, h5.val, rfl⟩
  simp [execOp, ho, h1, hrun, Result.andThen]
theorem P_next {t b n c g ty : Nat} {pos : String} {af : Array Edge} {gd : Option (Nat × Bool)} {es : List Ent} {seen : Array Nat} {x : Operand} (hx : ev (⟨rs, os, fs⟩ : St) x = some (.val (.v (.pointer (some ⟨g, 0, none⟩))))) (hg : guardOf ops ⟨rs, [itO g b c seen, .map b n c es] ++ os, fs⟩ ⟨some t, .next x false, ty, pos, af, gd⟩ = some true) (hN : Nat.blt t N = true)
    (kd : (∀ e ∈ es, e.1 ∈ seen) → EL X ops Q l ⟨(t, .tpl [.v (.bool false)]) :: rs, itO g b c seen :: .map b n c es :: os, fs⟩)
    (km : ∀ e ∈ es, e.1 ∉ seen → EL X ops Q l ⟨(t, .tpl [.v (.bool true), .arr n e.2.1, e.2.2]) :: rs, itO g b c (seen.push e.1) :: .map b n c es :: os, fs⟩) : EL X ops Q (⟨some t, .next x false, ty, pos, af, gd⟩ :: l) ⟨rs, itO g b c seen :: .map b n c es :: os, fs⟩ :=
  EL.mut (os := [itO g b c seen, .map b n c es]) (rest := os) hg (dst_lt rfl hN) (m_next rfl hx) fun r os' h => by
    rcases h with ⟨h1, h2, h3⟩ | ⟨e, h1, h2, h3, h4⟩
    · subst h1 h3
      exact kd h2
    · subst h3 h4
      exact km e h1 h2
theorem P_entry {t b n c g i j ty : Nat} {pos : String} {af : Array Edge} {gd : Option (Nat × Bool)} {es : List Ent} {seen : Array Nat} {x : Operand} {e : Ent} (he : e ∈ es) (hx : ev (⟨rs, os, fs⟩ : St) x = some (.val (.v (.pointer (some ⟨g, 0, none⟩))))) (hi : os[i]? = some (itO g b c (seen.push e.1))) (hj : os[j]? = some (.map b n c es)) (hg : guardOf ops ⟨rs, os, fs⟩ ⟨some t, .entry x, ty, pos, af, gd⟩ = some true) (hN : Nat.blt t N = true) (kk : EL X ops Q l ⟨(t, .tpl [.arr n e.2.1, e.2.2]) :: rs, os, fs⟩) : EL X ops Q (⟨some t, .entry x, ty, pos, af, gd⟩ :: l) ⟨rs, os, fs⟩ := ES.still (g_entry he rfl hx hi hj) hg rfl hN kk
theorem put_insert {T K n E g c : Nat} {x y z : Operand} {es : List Ent} {l1 : List UInt8} {d : D} (ho : o.op = .insert T x y z) (hx : ev S x = some (.val (.v (.map (some g))))) (hy : ev S y = some (.val (.arr n l1))) (hz : ev S z = some (.val d)) (hT : assoc mapL T = some (K, n, E)) : Puts ops S o (.map g n c es) (.map g n (tickE c es l1) (putE c es l1 d)) := by
  refine ⟨rfl, fun base ok a w ha hno hat => ?_⟩
  have h1 := ev_v ha hx (looks_op (by rw [ho]; simp [Op.operands]))
  obtain ⟨h2, h3⟩ := arrV_of (ha.ev hy (looks_op (by rw [ho]; simp [Op.operands])))
  obtain ⟨w', h4, h5, h6⟩ := run_mapUpdate (mapI hT).1 (mapI hT).2 hat l1 h2 (ha.ev hz (looks_op (by rw [ho]; simp [Op.operands]))) (hno g rfl)
  refine ⟨w', g, ?_, rfl, h5, h6⟩
  unfold execOp
  simp only [ho, h1, h3, Sem.run_bind, h4, Result.andThen_ok, Sem.run_pure]
end
end E
end Go.Proofs.YtdhicdnmgmkpkaaGreat
/-
  The abstract machine: what is behind the first of a row, and 'clear' of the last one.
  Conditions: none.
-/
namespace Go.Proofs.YtdhicdnmgmkpkaaGreat
set_option linter.unusedVariables false
open Go.RowKit Mono Rlp
namespace E
def sufV (k z : Nat) : Value → Value
  | .slice A n c => .slice (if c = k then A else A.map (·.add (k * z))) (n - k) (c - k)
  | v => v
section
variable {N : Nat} {X : Cx N} {S : St} {ops : Array Oper} {o : Oper} {Q : Exit → Act → World → Prop} {l : List Oper} {rs : List (Tmp × R)} {os os' : List Obj} {fs : List (Value × D)}
theorem g_rowsuf {x y : Operand} {T e z b : Nat} {k : Int} {v : Value} {ds : List D} (ho : o.op = .slice T x (some y) none none) (hx : ev S x = some (.val (.v v))) (i : Nat) (hi : S.objs[i]? = some (.row v e z ds)) (hy : ev S y = some (.val (.v (.int .i64 k)))) (hT : assoc slL T = some (e, z, b)) (hk : 0 ≤ k ∧ k.toNat ≤ ds.length) : Still ops S o (.val (.v (sufV k.toNat z v))) := fun base ok a w ha => by
  have hx' := ev_v ha hx (looks_op (by rw [ho]; simp [Op.operands]))
  have hy' := ev_v ha hy (looks_op (by rw [ho]; simp [Op.operands]))
  obtain ⟨rows, ⟨h1, _⟩, _⟩ := ha.objs _ (List.mem_of_getElem? hi)
  obtain ⟨hu, hs⟩ := elem_und hT
  have hf : ∃ A c, v = .slice A ds.length c ∧ ds.length ≤ c := by
    rcases h1.2 with ⟨e1, e2⟩ | ⟨g, c, cur, e1, _, _, e3, _⟩
    · exact ⟨none, 0, by rw [e1, e2], by omega⟩
    · exact ⟨_, c, e1, e3⟩
  obtain ⟨A, c, rfl, hc⟩ := hf
  refine ⟨sufV k.toNat z (.slice A ds.length c), ?_, v_mk (by unfold sufV; rfl)⟩
  unfold execOp
  have hr : (Instr.sliceAt T (.slice A ds.length c) (some (.int .i64 k)) none none).run Tryz.prog w = .ok (sufV k.toNat z (.slice A ds.length c)) w := by
    rw [run_sliceAt_slice (P := Tryz.prog) w T _ _ _ _ hu, run_slice_l (P := Tryz.prog) w T A ds.length c hu .i64 k hk.1 (by omega), hs]
    rfl
  simp only [ho, hx', hy', Option.map_none, Option.map_some, Sem.run_bind, hr, Result.andThen_ok, Sem.run_pure]
theorem P_rowsuf {t ty : Nat} {pos : String} {af : Array Edge} {gd : Option (Nat × Bool)} {x y : Operand} {T e z b i : Nat} {k : Int} {v : Value} {ds : List D} (hx : ev (⟨rs, os, fs⟩ : St) x = some (.val (.v v))) (hi : os[i]? = some (.row v e z ds)) (hy : ev (⟨rs, os, fs⟩ : St) y = some (.val (.v (.int .i64 k)))) (hT : assoc slL T = some (e, z, b)) (hk : 0 ≤ k ∧ k.toNat ≤ ds.length) (hg : guardOf ops ⟨rs, os, fs⟩ ⟨some t, .slice T x (some y) none none, ty, pos, af, gd⟩ = some true) (hN : Nat.blt t N = true) (kk : EL X ops Q l ⟨(t, .val (.v (sufV k.toNat z v))) :: rs, os, fs⟩) : EL X ops Q (⟨some t, .slice T x (some y) none none, ty, pos, af, gd⟩ :: l) ⟨rs, os, fs⟩ := ES.still (g_rowsuf rfl hx i hi hy hT hk) hg rfl hN kk
theorem EL.clear1 {T e z b k : Nat} {x : Operand} {v : Value} {ds : List D} {dz : D} (i : Nat) (ho : o.op = .call { callee := .builtin .clear, args := #[x], argTypes := #[T] }) (hg : guardOf ops S o = some true) (hd : o.dst = none) (hx : ev S x = some (.val (.v (sufV k z v)))) (hi : S.objs[i]? = some (.row v e z ds)) (hT : assoc slL T = some (e, z, b)) (hz : assoc zeroL e = some dz) (hag : dz.agg = true) (hsz : dz.size = z) (hpos : Nat.blt 0 dz.size = true) (hk : k + 1 = ds.length) (kk : EL X ops Q l ⟨S.regs, S.objs.set i (.row v e z (ds.set k dz)), S.facts⟩) : EL X ops Q (o :: l) S := by
  constructor
  intro a w ha
  have hkn := ha.kn fun t => t ∈ o.looksAt ops
  have h1 := ev_v hkn hx (looks_op (by rw [ho]; simp [Op.operands, Call.operands]))
  have hmem := List.mem_of_getElem? hi
  have hat := ha.mem.at_ _ hmem
  obtain ⟨hu, _⟩ := slTI hT (by rw [← hsz]; exact hpos)
  obtain ⟨g, c, cur, rows, H⟩ := row_in hat (by omega)
  have hkl : ds[k]? = some ds[k] := List.getElem?_eq_getElem (by omega)
  obtain ⟨r, A, B, g1, g2, g3, g4, g5, g6⟩ := H.elem hkl
  obtain ⟨zv, hz1, hz2⟩ := (zvI hz).get
  obtain ⟨cs, hcs, rfl⟩ := (readV_agg hag).1 (hz2 (X.ok S.objs w) w)
  have hcl : cs.length = z := by rw [← hsz]; exact Reads.len _ _ hcs
  have hcur : cur = (A ++ r ++ B).toArray := by rw [← g4]
  have hv : sufV k z v = .slice (some ⟨g, 0 + k * z, none⟩) 1 (c - k) := by
    rw [H.val]
    have hle := H.le
    unfold sufV
    dsimp only
    rw [if_neg (by omega), show ds.length - k = 1 by omega, Option.map_some, add_none]
  have hheap := H.heap
  rw [hcur] at hheap
  have hset := setCells_row cs A r B w (by rw [hcl, g2]) hheap
  rw [g5] at hset
  have hgr := grownBy_setCells g cs (k * z) w
  have hno : ∀ b, X.ok S.objs w b → b ≠ g := fun b' hb' e' => hb'.2.2 _ hmem (by rw [e']; show v.ownBlock = some g; rw [H.val]; rfl)
  have hcell : ∀ q : Addr, X.ok S.objs w q.block → (w.setCells g (k * z) cs).cell? q = w.cell? q := fun q hq => World.cell?_of_block (hgr.block _ hq.2.1 fun e' => hno _ hq (by injection e'))
  have hrows := ReadsRows.set ds rows k dz cs H.rows hcs hcl
  have hrows' := ReadsRows.mono (fun _ h => h) hcell z _ _ hrows
  have hat' : Obj.At X.mine (X.ok S.objs w) (w.setCells g (k * z) cs) (.row v e z (ds.set k dz)) := RowIn.at (g := g) (c := c) (cur := (A ++ cs ++ B).toArray) (rows := rows.set k cs) ⟨by rw [List.length_set]; exact H.val, hset, by rw [List.length_set]; exact g6 _ hcl, by
    have := congrArg List.length g4
    rw [Array.length_toList, H.size] at this
    simp only [List.size_toArray, List.length_append] at this ⊢
    omega, by rw [List.length_set]; exact H.le, H.max, hrows', H.mine⟩
  have hst : (storeCells ⟨g, 0 + k * z, none⟩ (Builtin.zeroCells (Value.agg cs.toArray).cells 1).toList).run Tryz.prog w = .ok () (w.setCells g (k * z) cs) := by
    have e1 : (Builtin.zeroCells (Value.agg cs.toArray).cells 1).toList = cs := by
      simp [Builtin.zeroCells, Value.cells]
      apply List.ext_getElem
      · simp
      · intro j h1 h2
        simp [Nat.mod_eq_of_lt h2, h2]
    rw [e1]
    have := run_storeCells_cells (P := Tryz.prog) g (k * z) cs 0 w (fun j hj => ?_) (fun j hj => ?_) (Reads.one _ _ hcs)
    · simpa using this
    · rw [cell_of_row w g _ _ _ _ hheap, Option.isSome_iff_exists]
      have hsz2 : k * z + 0 + j < (A ++ r ++ B).toArray.size := by
        simp only [List.size_toArray, List.length_append]
        omega
      exact ⟨_, Array.getElem?_eq_getElem hsz2⟩
    · simp [World.frozen?, hheap]
  have hrun : (Builtin.clear_ #[T] o.type #[sufV k z v]).run Tryz.prog w = .ok (.tuple #[]) (w.setCells g (k * z) cs) := by
    rw [hv]
    rw [Nat.zero_add] at hst ⊢
    simp [Builtin.clear_, run_underlying hu, hz1, hst]
  unfold wpList
  rw [if_pos (wanted_of ha hg)]
  refine .inl ?_
  unfold Oper.wp execOp
  simp only [ho, resolve, invoke, builtin, Sem.run_bind, Sem.run_pure, Result.andThen_ok, List.map_toArray, List.map_cons, List.map_nil, h1, hrun]
  simp only [Oper.upon_value, hd, Act.put]
  exact kk.go _ _ (ha.turn hi (by rw [show (Obj.row v e z ds).blk = some g by show v.ownBlock = some g; rw [H.val]; rfl]; exact hgr) (.inl rfl) fun hok hcell => hat'.move hok (fun _ _ => rfl) fun _ _ => rfl)
theorem P_clear1 {T e z b k ty : Nat} {pos : String} {af : Array Edge} {gd : Option (Nat × Bool)} {x : Operand} {v : Value} {ds : List D} {dz : D} (hx : ev (⟨rs, os, fs⟩ : St) x = some (.val (.v (sufV k z v)))) (hset : SetAt os (.row v e z ds) (.row v e z (ds.set k dz)) os') (hk : k + 1 = ds.length) (hT : assoc slL T = some (e, z, b)) (hz : assoc zeroL e = some dz) (hag : dz.agg = true) (hsz : dz.size = z) (hpos : Nat.blt 0 dz.size = true) (hg : guardOf ops ⟨rs, os, fs⟩ ⟨none, .call { callee := .builtin .clear, args := #[x], argTypes := #[T] }, ty, pos, af, gd⟩ = some true) (kk : EL X ops Q l ⟨rs, os', fs⟩) : EL X ops Q (⟨none, .call { callee := .builtin .clear, args := #[x], argTypes := #[T] }, ty, pos, af, gd⟩ :: l) ⟨rs, os, fs⟩ := by
  obtain ⟨i, hi, rfl⟩ := hset.ix
  exact EL.clear1 i rfl hg rfl hx hi hT hz hag hsz hpos hk kk
end
end E
end Go.Proofs.YtdhicdnmgmkpkaaGreat
