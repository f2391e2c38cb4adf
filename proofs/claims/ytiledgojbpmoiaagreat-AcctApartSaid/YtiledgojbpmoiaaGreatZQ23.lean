/-
 Merged (wip/tools/merge.py): BR5, BR7, SE0.
 Conditions: none.
-/
import Derived.Test.YtiledgojbpmoiaaGreatZQ22
import Derived.Test.YtiledgojbpmoiaaGreatZQ21
import Derived.Test.YtiledgojbpmoiaaGreatZQ17
namespace Go.Proofs.YtiledgojbpmoiaaGreat
set_option linter.unusedVariables false
set_option maxRecDepth 20000
set_option maxHeartbeats 8000000
open Go.RowKit Mono Rlp
namespace E
def DW : List Pr → List Pr → Nat → Nat
 | _, [], e => e
 | pre, x :: r, e => if lg x = true then 3 else DW (pre ++ [x]) r (if pre.any (fun y => y.1 == x.1) = true then 1 else if x.2.isEmpty = true then 1 else e)
theorem lK : ∀ a b : List UInt8, split a = split b → a = b
 | [], [], _ => rfl
 | [], y :: b, h => by simp [split] at h
 | x :: a, [], h => by simp [split] at h
 | x :: a, y :: b, h => by
  have hs : ∀ (z : UInt8) (l : List UInt8), split (z :: l) = (z >>> 4) :: (z &&& 15) :: split l := fun _ _ => rfl
  rw [hs, hs] at h
  simp only [List.cons.injEq] at h
  obtain ⟨h1, h2, h3⟩ := h
  have e1 := congrArg UInt8.toNat h1
  have e2 := congrArg UInt8.toNat h2
  rw [Dv, Dv] at e1
  rw [Du, Du] at e2
  have : x = y := UInt8.toNat_inj.1 (by omega)
  rw [this, lK a b h3]
theorem KA : ∀ (l pre : List Pr) (e : Nat), e ≤ 1 → DW pre l e = if l.any lg = true then 3 else if e = 1 ∨ l.any (·.2.isEmpty) = true ∨ ¬ (l.map (·.1)).Nodup ∨ (∃ x ∈ l, ∃ y ∈ pre, y.1 = x.1) then 1 else 0
 | [], pre, e, he => by
  rw [DW]
  simp
  split <;> omega
 | x :: l, pre, e, he => by
  rw [DW, List.any_cons, List.any_cons]
  cases hg : lg x with
  | true => simp
  | false =>
   rw [if_neg (by decide), Bool.false_or, KA l (pre ++ [x]) _ (by split <;> (try split) <;> omega)]
   split
   · rfl
   ·
    congr 1
    apply propext
    have hany : (pre.any (fun y => y.1 == x.1) = true) ↔ ∃ y ∈ pre, y.1 = x.1 := by simp
    constructor
    ·
     rintro (h | h | h | ⟨z, hz, y, hy, h⟩)
     ·
      split at h
      ·
       rename_i h2
       exact .inr (.inr (.inr ⟨x, List.mem_cons_self, hany.1 h2⟩))
      ·
       split at h
       ·
        rename_i h3
        exact .inr (.inl (by simp [h3]))
       · exact .inl h
     · exact .inr (.inl (by simp [h]))
     · exact .inr (.inr (.inl fun hn => h (List.nodup_cons.1 hn).2))
     ·
      rcases List.mem_append.1 hy with hy | hy
      · exact .inr (.inr (.inr ⟨z, List.mem_cons_of_mem _ hz, y, hy, h⟩))
      ·
       obtain rfl := List.mem_singleton.1 hy
       exact .inr (.inr (.inl fun hn => (List.nodup_cons.1 hn).1 (List.mem_map.2 ⟨z, hz, h.symm⟩)))
    ·
     intro h
     by_cases h2 : pre.any (fun y => y.1 == x.1) = true
     · exact .inl (if_pos h2)
     ·
      rw [if_neg h2]
      by_cases h3 : x.2.isEmpty = true
      · exact .inl (if_pos h3)
      ·
       rw [if_neg h3]
       rcases h with h | h | h | ⟨z, hz, y, hy, h⟩
       · exact .inl h
       ·
        rw [Bool.eq_false_iff.2 h3, Bool.false_or] at h
        exact .inr (.inl h)
       ·
        by_cases hm : x.1 ∈ l.map (·.1)
        ·
         obtain ⟨z, hz, hzx⟩ := List.mem_map.1 hm
         exact .inr (.inr (.inr ⟨z, hz, x, by simp, hzx.symm⟩))
        · exact .inr (.inr (.inl fun hn => h (List.nodup_cons.2 ⟨hm, hn⟩)))
       ·
        rcases List.mem_cons.1 hz with rfl | hz
        · exact absurd (hany.2 ⟨y, hy, h⟩) h2
        · exact .inr (.inr (.inr ⟨z, hz, y, List.mem_append_left _ hy, h⟩))
theorem Nj (l : List Pr) (h : ¬ 100000 < l.length) : DW [] l 0 = ig l := by
 rw [KA l [] 0 (by decide)]
 unfold ig
 have hnd : ((l.map sp).map (·.1)).Nodup ↔ (l.map (·.1)).Nodup := by
  have : (l.map sp).map (·.1) = (l.map (·.1)).map split := by rw [List.map_map, List.map_map]; rfl
  rw [this]
  constructor
  ·
   intro hn
   exact List.Pairwise.imp (fun h e => h (by rw [e])) (List.pairwise_map.1 hn)
  ·
   intro hn
   exact List.pairwise_map.2 (hn.imp fun h e => h (lK _ _ e))
 by_cases h1 : l.any lg = true
 · rw [if_pos h1, if_pos (.inr h1)]
 ·
  rw [if_neg h1, if_neg (show ¬ (100000 < l.length ∨ l.any lg = true) from fun hh => hh.elim h h1)]
  by_cases h2 : l.any (·.2.isEmpty) = true
  · rw [if_pos (show (0 = 1 ∨ l.any (·.2.isEmpty) = true ∨ ¬ (l.map (·.1)).Nodup ∨ (∃ x ∈ l, ∃ y ∈ ([] : List Pr), y.1 = x.1)) from .inr (.inl h2)), if_pos h2]
  ·
   rw [if_neg (show ¬ (l.any (·.2.isEmpty) = true) from h2)]
   by_cases h3 : (l.map (·.1)).Nodup
   ·
    rw [if_neg (show ¬ (0 = 1 ∨ l.any (·.2.isEmpty) = true ∨ ¬ (l.map (·.1)).Nodup ∨ (∃ x ∈ l, ∃ y ∈ ([] : List Pr), y.1 = x.1)) from fun hh => by
     rcases hh with hh | hh | hh | ⟨x, _, y, hy, _⟩
     · cases hh
     · exact h2 hh
     · exact hh h3
     · cases hy), if_pos (hnd.2 h3)]
   · rw [if_pos (show (0 = 1 ∨ l.any (·.2.isEmpty) = true ∨ ¬ (l.map (·.1)).Nodup ∨ (∃ x ∈ l, ∃ y ∈ ([] : List Pr), y.1 = x.1)) from .inr (.inr (.inl h3))), if_neg (fun hh => h3 (hnd.1 hh))]
theorem Jq (l : List Pr) : Fn 25 [.sl 2 (l.map dPr)] (· = .val (.v (.int .i64 (ig l : Int)))) := by
 have hml : (l.map dPr).length = l.length := List.length_map _
 refine Fn.walk 57 Tryz.func25 rfl Tryz.ntmps25 (by simp) fun X => ?_
 by_cases hbig : 100000 < l.length
 ·
  have he : ig l = 3 := by unfold ig; rw [if_pos (.inl hbig)]
  rw [he]
  repeat
   (first
    | (apply au; iterate 3 rfl) | (apply aj; iterate 3 rfl) | (apply aA (b := true); (iterate 2 rfl); exact aG; iterate 2 rfl)
    | (apply aB; iterate 4 rfl) | apply EL.nil | ((with_reducible apply EK.ah); apply EK.code) | (apply EC.cond_true; rfl)
    | (with_reducible first | apply EC.seq | apply EC.region | apply EC.ret | apply EK.aI))
  exact EK.fV rfl rfl rfl
 rw [← Nj l hbig]
 generalize hres : DW [] l 0 = res
 repeat
  (first
   | (apply au; iterate 3 rfl) | (apply aj; iterate 3 rfl) | (apply aA (b := false); (iterate 2 rfl); exact aG; iterate 2 rfl)
   | (apply aB; iterate 4 rfl) | apply EL.nil | ((with_reducible apply EK.ah); apply EK.code) | (apply EC.cond_false; rfl)
   | (with_reducible first | apply EC.seq | apply EC.region | apply EC.skip | apply EC.block))
 refine EC.loop (ι := {p : Nat × Nat // p.1 ≤ l.length ∧ res = DW (l.take p.1) (l.drop p.1) p.2})
  (fun p => ⟨[(4, .val (.v (.int .i64 (p.1.1 : Int)))), (3, .val (.v (.int .i64 (p.1.2 : Int)))), (0, .val (.sl 2 (l.map dPr)))], [], []⟩)
  (fun p => l.length - p.1.1) ⟨(0, 0), Nat.zero_le _, hres.symm⟩ ?_ ?_
 · exact Le.kp
 rintro ⟨⟨i, e⟩, hi, hI⟩
 dsimp only at hi hI ⊢
 by_cases hlt : i < l.length
 ·
  have hd : (l.map dPr)[i]? = some (.tup [.bs l[i].1, .bs l[i].2]) := by rw [List.getElem?_map, List.getElem?_eq_getElem hlt]; rfl
  have htk : l.take (i + 1) = l.take i ++ [l[i]] := List.take_succ_eq_append_getElem hlt
  rw [List.drop_eq_getElem_cons hlt, DW, ← htk] at hI
  unfold lg at hI
  by_cases hg1 : 64 < l[i].1.length
  ·
   rw [decide_eq_true hg1, Bool.true_or, if_pos rfl] at hI
   subst hI
   repeat
    (first
     | (apply fP; iterate 2 rfl) | (apply au; iterate 3 rfl) | (apply aj; iterate 3 rfl) | (apply aP; iterate 7 rfl)
     | (apply aK; iterate 5 rfl) | (apply bV; iterate 4 rfl) | (apply aA (b := true); (iterate 2 rfl); exact aG; iterate 2 rfl)
     | (apply dU; iterate 4 rfl) | (apply aB; iterate 4 rfl)
     | (apply aX; (iterate 4 rfl); (focus (first | exact ⟨by decide, rfl⟩ | (refine ⟨by omega, ?_⟩; rw [Int.toNat_natCast]; assumption))); iterate 2 rfl) | apply EL.nil
     | ((with_reducible apply EK.ah); apply EK.code) | (apply EC.cond_true; rfl)
     | (with_reducible first | apply EC.seq | apply EC.region | apply EC.skip | apply EC.block | apply EC.ret | apply EK.dS | apply EK.aI))
   exact EK.fV rfl rfl rfl
  ·
   by_cases hg2 : 1048576 < l[i].2.length
   ·
    rw [decide_eq_true hg2, Bool.or_true, if_pos rfl] at hI
    subst hI
    repeat
     (first
      | (apply au; iterate 3 rfl) | (apply aj; iterate 3 rfl) | (apply aP; iterate 7 rfl) | (apply aK; iterate 5 rfl)
      | (apply bV; iterate 4 rfl) | (apply aA (b := true); (iterate 2 rfl); exact aG; iterate 2 rfl)
      | (apply aA (b := false); (iterate 2 rfl); exact aG; iterate 2 rfl) | (apply dU; iterate 4 rfl) | (apply aB; iterate 4 rfl)
      | (apply aX; (iterate 4 rfl); (focus (first | exact ⟨by decide, rfl⟩ | (refine ⟨by omega, ?_⟩; rw [Int.toNat_natCast]; assumption))); iterate 2 rfl) | apply EL.nil
      | ((with_reducible apply EK.ah); apply EK.code) | (apply EC.cond_true; rfl)
      | (with_reducible first | apply EC.seq | apply EC.region | apply EC.skip | apply EC.block | apply EC.ret | apply EK.dS | apply EK.aI))
    exact EK.fV rfl rfl rfl
   ·
    rw [decide_eq_false hg1, decide_eq_false hg2, if_neg (by decide)] at hI
    cases hv : l[i].2 with
    | nil =>
     rw [hv] at hd
     rw [hv, if_pos (show ([] : List UInt8).isEmpty = true from rfl)] at hI
     repeat
      (first
       | (apply au; iterate 3 rfl) | (apply aj; iterate 3 rfl) | (apply aP; iterate 7 rfl) | (apply aK; iterate 5 rfl)
       | (apply bV; iterate 4 rfl) | (apply aA (b := true); (iterate 2 rfl); exact aG; iterate 2 rfl)
       | (apply aA (b := false); (iterate 2 rfl); exact aG; iterate 2 rfl) | (apply dU; iterate 4 rfl) | (apply aB; iterate 4 rfl)
       | (apply aX; (iterate 4 rfl); (focus (first | exact ⟨by decide, rfl⟩ | (refine ⟨by omega, ?_⟩; rw [Int.toNat_natCast]; assumption))); iterate 2 rfl) | apply EL.nil
       | ((with_reducible apply EK.ah); apply EK.code) | (apply EC.cond_true; rfl) | (apply EC.cond_false; rfl)
       | (with_reducible first | apply EC.seq | apply EC.region | apply EC.skip | apply EC.block))
     refine EC.loop (ι := {k : Nat // k ≤ i})
      (fun k => ⟨[(5, .val (.v (.int .i64 (k.1 : Int)))), (4, .val (.v (.int .i64 (i : Int)))), (3, .val (.v (.int .i64 ((if (l.take k.1).any (fun y => y.1 == l[i].1) = true then 1 else 1 : Nat) : Int)))), (0, .val (.sl 2 (l.map dPr)))], [], []⟩)
      (fun k => i - k.1) ⟨0, Nat.zero_le _⟩ ?_ ?_
     · exact Le.kp
     rintro ⟨k, hk⟩
     dsimp only at hk ⊢
     by_cases hki : k < i
     ·
      have hkl : k < l.length := by omega
      have hdk : (l.map dPr)[k]? = some (.tup [.bs l[k].1, .bs l[k].2]) := by rw [List.getElem?_map, List.getElem?_eq_getElem hkl]; rfl
      have hbs := (oK l[k].1 l[i].1).1
      have hany : (l.take (k + 1)).any (fun y => y.1 == l[i].1) = ((l.take k).any (fun y => y.1 == l[i].1) || (l[k].1 == l[i].1)) := by
       rw [List.take_succ_eq_append_getElem hkl, List.any_append]
       simp
      cases hq : (l[k].1 == l[i].1) with
      | true =>
       rw [hq] at hbs
       rw [hq, Bool.or_true] at hany
       repeat
        (first
         | (apply au; iterate 3 rfl) | (apply aA (b := true); (iterate 2 rfl); exact aG; iterate 2 rfl) | apply EL.nil | ((with_reducible apply EK.ah); apply EK.code)
         | (apply EC.cond_true; rfl) | (with_reducible first | apply EC.seq | apply EC.region | apply EC.skip | apply EC.block))
       refine EC.draw 13 (by kernel_rfl) ?_
       simp only [List.take_succ_cons, List.take_zero, List.drop_succ_cons, List.drop_zero]
       repeat
        (first
         | (apply fK; (iterate 2 rfl); exact hbs; iterate 2 rfl) | (apply aU; iterate 3 rfl) | (apply aW; iterate 7 rfl) | (apply bG; iterate 5 rfl)
         | (apply bD; (iterate 4 rfl); (focus (first | exact ⟨by decide, rfl⟩ | (refine ⟨by omega, ?_⟩; rw [Int.toNat_natCast]; assumption))); iterate 2 rfl)
         | (apply rW; iterate 3 rfl) | ((with_reducible apply EH.nil); rfl))
       repeat
        (first
         | (apply au; iterate 3 rfl) | (apply aj; iterate 3 rfl) | (apply eU; (iterate 3 rfl); (focus omega); (focus omega); iterate 2 rfl) | apply EL.nil
         | ((with_reducible apply EK.ah); apply EK.code) | (apply EC.cond_true; rfl) | (with_reducible first | apply EC.region | apply EK.aF))
       refine EK.again ⟨k + 1, hki⟩ (by dsimp only; omega) ?_
       dsimp only
       rw [hany, if_pos rfl]
       simp only [Int.natCast_add]
       exact Le.kp
      | false =>
       rw [hq] at hbs
       rw [hq, Bool.or_false] at hany
       repeat
        (first
         | (apply au; iterate 3 rfl) | (apply aA (b := true); (iterate 2 rfl); exact aG; iterate 2 rfl) | apply EL.nil | ((with_reducible apply EK.ah); apply EK.code)
         | (apply EC.cond_true; rfl) | (with_reducible first | apply EC.seq | apply EC.region | apply EC.skip | apply EC.block))
       refine EC.draw 13 (by kernel_rfl) ?_
       simp only [List.take_succ_cons, List.take_zero, List.drop_succ_cons, List.drop_zero]
       repeat
        (first
         | (apply fK; (iterate 2 rfl); exact hbs; iterate 2 rfl) | (apply aU; iterate 3 rfl) | (apply aW; iterate 7 rfl) | (apply bG; iterate 5 rfl)
         | (apply bD; (iterate 4 rfl); (focus (first | exact ⟨by decide, rfl⟩ | (refine ⟨by omega, ?_⟩; rw [Int.toNat_natCast]; assumption))); iterate 2 rfl)
         | (apply rW; iterate 3 rfl) | ((with_reducible apply EH.nil); rfl))
       repeat
        (first
         | (apply au; iterate 3 rfl) | (apply aj; iterate 3 rfl) | (apply eU; (iterate 3 rfl); (focus omega); (focus omega); iterate 2 rfl) | apply EL.nil
         | ((with_reducible apply EK.ah); apply EK.code) | (apply EC.cond_false; rfl) | (with_reducible first | apply EC.region | apply EC.skip | apply EK.aF))
       refine EK.again ⟨k + 1, hki⟩ (by dsimp only; omega) ?_
       dsimp only
       rw [hany]
       simp only [Int.natCast_add]
       exact Le.kp
     ·
      obtain rfl : k = i := by omega
      repeat
       (first
        | (apply au; iterate 3 rfl) | (apply aj; iterate 3 rfl) | (apply aA (b := false); (iterate 2 rfl); exact aG; iterate 2 rfl)
        | (apply eU; (iterate 3 rfl); (focus omega); (focus omega); iterate 2 rfl) | apply EL.nil | ((with_reducible apply EK.ah); apply EK.code) | (apply EC.cond_false; rfl)
        | (with_reducible first | apply EC.seq | apply EC.region | apply EC.exit | apply EK.aF | apply EK.aZ | apply EK.aH))
      refine EK.again ⟨(k + 1, _), hlt, hI⟩ (by dsimp only; omega) ?_
      dsimp only
      simp only [Int.natCast_add]
      exact Le.kp
    | cons c v =>
     rw [hv] at hd hg2
     have hg3 : ¬ 1048576 < v.length + 1 := hg2
     rw [hv, if_neg (show ¬ ((c :: v).isEmpty = true) from Bool.false_ne_true)] at hI
     repeat
      (first
       | (apply au; iterate 3 rfl) | (apply aj; iterate 3 rfl) | (apply aP; iterate 7 rfl) | (apply aK; iterate 5 rfl)
       | (apply bV; iterate 4 rfl) | (apply aA (b := true); (iterate 2 rfl); exact aG; iterate 2 rfl)
       | (apply aA (b := false); (iterate 2 rfl); exact aG; iterate 2 rfl) | (apply dU; iterate 4 rfl) | (apply aB; iterate 4 rfl)
       | (apply aX; (iterate 4 rfl); (focus (first | exact ⟨by decide, rfl⟩ | (refine ⟨by omega, ?_⟩; rw [Int.toNat_natCast]; assumption))); iterate 2 rfl) | apply EL.nil
       | ((with_reducible apply EK.ah); apply EK.code) | (apply EC.cond_true; rfl) | (apply EC.cond_false; rfl)
       | (with_reducible first | apply EC.seq | apply EC.region | apply EC.skip | apply EC.block))
     refine EC.loop (ι := {k : Nat // k ≤ i})
      (fun k => ⟨[(5, .val (.v (.int .i64 (k.1 : Int)))), (4, .val (.v (.int .i64 (i : Int)))), (3, .val (.v (.int .i64 ((if (l.take k.1).any (fun y => y.1 == l[i].1) = true then 1 else e : Nat) : Int)))), (0, .val (.sl 2 (l.map dPr)))], [], []⟩)
      (fun k => i - k.1) ⟨0, Nat.zero_le _⟩ ?_ ?_
     · exact Le.kp
     rintro ⟨k, hk⟩
     dsimp only at hk ⊢
     by_cases hki : k < i
     ·
      have hkl : k < l.length := by omega
      have hdk : (l.map dPr)[k]? = some (.tup [.bs l[k].1, .bs l[k].2]) := by rw [List.getElem?_map, List.getElem?_eq_getElem hkl]; rfl
      have hbs := (oK l[k].1 l[i].1).1
      have hany : (l.take (k + 1)).any (fun y => y.1 == l[i].1) = ((l.take k).any (fun y => y.1 == l[i].1) || (l[k].1 == l[i].1)) := by
       rw [List.take_succ_eq_append_getElem hkl, List.any_append]
       simp
      cases hq : (l[k].1 == l[i].1) with
      | true =>
       rw [hq] at hbs
       rw [hq, Bool.or_true] at hany
       repeat
        (first
         | (apply au; iterate 3 rfl) | (apply aA (b := true); (iterate 2 rfl); exact aG; iterate 2 rfl) | apply EL.nil | ((with_reducible apply EK.ah); apply EK.code)
         | (apply EC.cond_true; rfl) | (with_reducible first | apply EC.seq | apply EC.region | apply EC.skip | apply EC.block))
       refine EC.draw 13 (by kernel_rfl) ?_
       simp only [List.take_succ_cons, List.take_zero, List.drop_succ_cons, List.drop_zero]
       repeat
        (first
         | (apply fK; (iterate 2 rfl); exact hbs; iterate 2 rfl) | (apply aU; iterate 3 rfl) | (apply aW; iterate 7 rfl) | (apply bG; iterate 5 rfl)
         | (apply bD; (iterate 4 rfl); (focus (first | exact ⟨by decide, rfl⟩ | (refine ⟨by omega, ?_⟩; rw [Int.toNat_natCast]; assumption))); iterate 2 rfl)
         | (apply rW; iterate 3 rfl) | ((with_reducible apply EH.nil); rfl))
       repeat
        (first
         | (apply au; iterate 3 rfl) | (apply aj; iterate 3 rfl) | (apply eU; (iterate 3 rfl); (focus omega); (focus omega); iterate 2 rfl) | apply EL.nil
         | ((with_reducible apply EK.ah); apply EK.code) | (apply EC.cond_true; rfl) | (with_reducible first | apply EC.region | apply EK.aF))
       refine EK.again ⟨k + 1, hki⟩ (by dsimp only; omega) ?_
       dsimp only
       rw [hany, if_pos rfl]
       simp only [Int.natCast_add]
       exact Le.kp
      | false =>
       rw [hq] at hbs
       rw [hq, Bool.or_false] at hany
       repeat
        (first
         | (apply au; iterate 3 rfl) | (apply aA (b := true); (iterate 2 rfl); exact aG; iterate 2 rfl) | apply EL.nil | ((with_reducible apply EK.ah); apply EK.code)
         | (apply EC.cond_true; rfl) | (with_reducible first | apply EC.seq | apply EC.region | apply EC.skip | apply EC.block))
       refine EC.draw 13 (by kernel_rfl) ?_
       simp only [List.take_succ_cons, List.take_zero, List.drop_succ_cons, List.drop_zero]
       repeat
        (first
         | (apply fK; (iterate 2 rfl); exact hbs; iterate 2 rfl) | (apply aU; iterate 3 rfl) | (apply aW; iterate 7 rfl) | (apply bG; iterate 5 rfl)
         | (apply bD; (iterate 4 rfl); (focus (first | exact ⟨by decide, rfl⟩ | (refine ⟨by omega, ?_⟩; rw [Int.toNat_natCast]; assumption))); iterate 2 rfl)
         | (apply rW; iterate 3 rfl) | ((with_reducible apply EH.nil); rfl))
       repeat
        (first
         | (apply au; iterate 3 rfl) | (apply aj; iterate 3 rfl) | (apply eU; (iterate 3 rfl); (focus omega); (focus omega); iterate 2 rfl) | apply EL.nil
         | ((with_reducible apply EK.ah); apply EK.code) | (apply EC.cond_false; rfl) | (with_reducible first | apply EC.region | apply EC.skip | apply EK.aF))
       refine EK.again ⟨k + 1, hki⟩ (by dsimp only; omega) ?_
       dsimp only
       rw [hany]
       simp only [Int.natCast_add]
       exact Le.kp
     ·
      obtain rfl : k = i := by omega
      repeat
       (first
        | (apply au; iterate 3 rfl) | (apply aj; iterate 3 rfl) | (apply aA (b := false); (iterate 2 rfl); exact aG; iterate 2 rfl)
        | (apply eU; (iterate 3 rfl); (focus omega); (focus omega); iterate 2 rfl) | apply EL.nil | ((with_reducible apply EK.ah); apply EK.code) | (apply EC.cond_false; rfl)
        | (with_reducible first | apply EC.seq | apply EC.region | apply EC.exit | apply EK.aF | apply EK.aZ | apply EK.aH))
      refine EK.again ⟨(k + 1, _), hlt, hI⟩ (by dsimp only; omega) ?_
      dsimp only
      simp only [Int.natCast_add]
      exact Le.kp
 ·
  have hie : i = l.length := by omega
  rw [List.drop_eq_nil_of_le (by omega), DW] at hI
  subst hI
  repeat
   (first
    | (apply au; iterate 3 rfl) | (apply aj; iterate 3 rfl) | (apply aA (b := false); (iterate 2 rfl); exact aG; iterate 2 rfl)
    | (apply aB; iterate 4 rfl) | apply EL.nil | ((with_reducible apply EK.ah); apply EK.code) | (apply EC.cond_false; rfl)
    | (with_reducible first | apply EC.seq | apply EC.region | apply EC.exit | apply EC.ret | apply EK.aZ | apply EK.aH))
  exact EK.fV rfl rfl rfl
def Fb (l : List Pr) : List UInt8 := if ig l ≠ 0 then zero32 else if l.isEmpty then oU else hash (pkB (bF 200 (l.map sp)))
def dr (at_ : Nat) (x : Pr) : Pr := (x.1.drop at_, x.2)
theorem vX : ∀ (n : Nat) (a b : List UInt8), a.take n = b.take n → n ≤ a.length → n ≤ b.length → n ≤ common a b
 | 0, _, _, _, _, _ => Nat.zero_le _
 | n + 1, [], b, _, h, _ => by simp at h
 | n + 1, _ :: _, [], _, _, h => by simp at h
 | n + 1, x :: a, y :: b, e, h1, h2 => by
  simp only [List.take_succ_cons, List.cons.injEq] at e
  rw [common, if_pos e.1]
  have := vX n a b e.2 (by simpa using h1) (by simpa using h2)
  omega
theorem He (p : List UInt8) (c : Nat) : ∀ (l : List Pr) (m : Nat), c ≤ m → (∀ x ∈ l, c ≤ common p x.1) → c ≤ l.foldl (fun n x => if common p x.1 < n then common p x.1 else n) m
 | [], m, h, _ => h
 | y :: l, m, h, hl => by
  rw [List.foldl_cons]
  refine He p c l _ ?_ fun x hx => hl x (List.mem_cons_of_mem _ hx)
  split
  · exact hl y List.mem_cons_self
  · exact h
theorem NP {a b : List UInt8} {n : Nat} (h : n ≤ common a b) : a.take n = b.take n ∧ n ≤ a.length ∧ n ≤ b.length := by
 obtain ⟨h1, h2, h3⟩ := gX a b
 refine ⟨?_, by omega, by omega⟩
 have := congrArg (List.take n) h1
 rwa [List.take_take, List.take_take, Nat.min_eq_left h] at this
theorem P8 {at_ : Nat} {L l : List Pr} (hR : kT at_ L) (h0 : 0 < L.length) {a : Pr} {r : List Pr} (hl : l = a :: r) (hp : l.Perm (L.map (dr at_))) : dQ a.1 r = common (L[0].1.drop at_) (L[L.length - 1].1.drop at_) := by
 obtain ⟨c, hc⟩ : ∃ c, common (L[0].1.drop at_) (L[L.length - 1].1.drop at_) = c := ⟨_, rfl⟩
 rw [hc]
 obtain ⟨c1, c2, c3⟩ := gX (L[0].1.drop at_) (L[L.length - 1].1.drop at_)
 rw [hc] at c1 c2 c3
 have key : ∀ x ∈ L, (x.1.drop at_).take c = (L[0].1.drop at_).take c ∧ c ≤ (x.1.drop at_).length := fun x hx => by
  obtain ⟨i, hi, rfl⟩ := List.getElem_of_mem hx
  exact sandwich c _ _ _ (hR.vT h0 hi (Nat.zero_le _)) (hR.vT hi (by omega) (by omega)) c1 c2
 have keyl : ∀ z ∈ l, z.1.take c = (L[0].1.drop at_).take c ∧ c ≤ z.1.length := fun z hz => by
  obtain ⟨x, hx, rfl⟩ := List.mem_map.1 (hp.mem_iff.1 hz)
  exact key x hx
 have ha := keyl a (by rw [hl]; exact List.mem_cons_self)
 have h1 : c ≤ dQ a.1 r := He a.1 c r a.1.length ha.2 fun x hx => by
  have hx' := keyl x (by rw [hl]; exact List.mem_cons_of_mem _ hx)
  exact vX c _ _ (ha.1.trans hx'.1.symm) ha.2 hx'.2
 have h2 := lX a.1 r a.1.length (Nat.le_refl _)
 change dQ a.1 r ≤ a.1.length ∧ ∀ x ∈ r, dQ a.1 r ≤ common a.1 x.1 at h2
 have h3 : ∀ z ∈ l, z.1.take (dQ a.1 r) = a.1.take (dQ a.1 r) ∧ dQ a.1 r ≤ z.1.length := fun z hz => by
  rw [hl] at hz
  rcases List.mem_cons.1 hz with rfl | hz
  · exact ⟨rfl, h2.1⟩
  ·
   obtain ⟨t1, t2, t3⟩ := NP (h2.2 z hz)
   exact ⟨t1.symm, t3⟩
 have hf : dr at_ L[0] ∈ l := hp.mem_iff.2 (List.mem_map.2 ⟨_, List.getElem_mem h0, rfl⟩)
 have hla : dr at_ L[L.length - 1] ∈ l := hp.mem_iff.2 (List.mem_map.2 ⟨_, List.getElem_mem (by omega), rfl⟩)
 have h4 := h3 _ hf
 have h5 := h3 _ hla
 have h6 := vX (dQ a.1 r) (L[0].1.drop at_) (L[L.length - 1].1.drop at_) (h4.1.trans h5.1.symm) h4.2 h5.2
 rw [hc] at h6
 omega
theorem D6 {f : Nat} {L : List Pr} {at_ : Nat} (h : L ≠ []) : (bdF (f + 1) L at_).isNil = false := by
 match L, h with
 | [x], _ => rfl
 | x :: y :: r, _ =>
  rw [bdF]
  split
  · rfl
  · split <;> rfl
theorem Oh {at_ d : Nat} {L : List Pr} (h : kT at_ L) (hl : ∀ z ∈ L, at_ < z.1.length) : kT (at_ + 1) (L.filter fun z => (dO at_ z).toNat == d) := by
 have hs := h.sub (List.filter_sublist (p := fun z : Pr => (dO at_ z).toNat == d) (l := L))
 have hlg : ∀ z ∈ L.filter (fun z => (dO at_ z).toNat == d), at_ < z.1.length := fun z hz => hl z (List.mem_filter.1 hz).1
 refine ⟨hs.ord, fun z hz => hlg z hz, fun x hx y hy => ?_, hs.nib⟩
 rw [List.take_add_one, List.take_add_one, hs.pre x hx y hy, kK (hlg x hx), kK (hlg y hy)]
 congr 1
 have h1 : (dO at_ x).toNat = d := by simpa using (List.mem_filter.1 hx).2
 have h2 : (dO at_ y).toNat = d := by simpa using (List.mem_filter.1 hy).2
 rw [UInt8.toNat_inj.1 (h1.trans h2.symm)]
theorem Gh {at_ d : Nat} {x : Pr} (h : at_ < x.1.length) : headD d (dr at_ x) = ((dO at_ x).toNat == d) := by
 unfold dr headD dO
 dsimp only
 rw [List.drop_eq_getElem_cons h, List.getD_eq_getElem?_getD, List.getElem?_eq_getElem h]
 rfl
theorem MP {at_ d : Nat} {x : Pr} (h : x.1.length ≤ at_) : headD d (dr at_ x) = false := by
 unfold dr headD
 dsimp only
 rw [List.drop_eq_nil_of_le h]
theorem Au : ∀ (l : List Pr) (v : List UInt8), (∀ x ∈ l, x.1.isEmpty = false) → l.foldl (fun v x => if x.1.isEmpty then x.2 else v) v = v
 | [], v, _ => rfl
 | x :: l, v, h => by
  rw [List.foldl_cons, if_neg (by rw [h x List.mem_cons_self]; decide)]
  exact Au l v fun y hy => h y (List.mem_cons_of_mem _ hy)
theorem Ar : ∀ (l : List Pr) (v w : List UInt8), (∀ x ∈ l, x.1.isEmpty = true → x.2 = w) → (v = w ∨ ∃ x ∈ l, x.1.isEmpty = true) → l.foldl (fun v x => if x.1.isEmpty then x.2 else v) v = w
 | [], v, w, _, h => by
  rcases h with h | ⟨x, hx, _⟩
  · exact h
  · cases hx
 | x :: l, v, w, h1, h2 => by
  rw [List.foldl_cons]
  refine Ar l _ w (fun y hy => h1 y (List.mem_cons_of_mem _ hy)) ?_
  cases he : x.1.isEmpty with
  | true =>
   rw [if_pos rfl]
   exact .inl (h1 x List.mem_cons_self he)
  | false =>
   rw [if_neg (by decide)]
   rcases h2 with h2 | ⟨y, hy, h2⟩
   · exact .inl h2
   ·
    rcases List.mem_cons.1 hy with rfl | hy
    ·
     rw [he] at h2
     cases h2
    · exact .inr ⟨y, hy, h2⟩
theorem TI (n at_ : Nat) (L : List Pr) : eF n (L.map (dr at_)) = L.map (dr (at_ + n)) := by
 unfold eF
 rw [List.map_map]
 refine List.map_congr_left fun x _ => ?_
 unfold dr
 dsimp only [Function.comp_apply]
 rw [List.drop_drop]
theorem OJ {at_ d : Nat} {l L : List Pr} (hp : l.Perm (L.map (dr at_))) : (cZ d l).Perm ((L.filter fun x => headD d (dr at_ x)).map (dr (at_ + 1))) := by
 have h1 : (l.filter (headD d)).Perm ((L.map (dr at_)).filter (headD d)) := hp.filter _
 rw [List.filter_map] at h1
 have h2 := h1.map (fun x : Pr => (x.1.drop 1, x.2))
 have h3 := TI 1 at_ (L.filter fun x => headD d (dr at_ x))
 unfold eF at h3
 rw [← h3]
 exact h2
theorem Gf (p v : List UInt8) : gI (.leaf p v) = .mk true [] [.mk false (ppk p true) [], .mk false v []] := rfl
theorem Jg (p : List UInt8) (k : Tn) : gI (.ext p k) = .mk true [] [.mk false (ppk p false) [], mD k] := rfl
theorem Oj (x : Raw) : jC [] x = .mk false [] [] := rfl
theorem A8 {l : List Pr} (x : Raw) (h : l.isEmpty = false) : jC l x = vC x := by
 unfold jC
 rw [h, if_neg (by decide)]
theorem LJ : mD .nil = .mk false [] [] := rfl
theorem AZ {t : Tn} (h : t.isNil = false) : mD t = vC (gI t) := by
 unfold mD
 rw [h, if_neg (by decide)]
theorem yR : ∀ (f : Nat) (l L : List Pr) (at_ : Nat), l.Perm (L.map (dr at_)) → kT at_ L → L ≠ [] → (∀ x ∈ L, x.1.length < at_ + f) → bF f l = gI (bdF f L at_)
 | 0, l, L, at_, _, hR, hn, hf => by
  cases L with
  | nil => exact absurd rfl hn
  | cons x r =>
   have h1 := hf x List.mem_cons_self
   have h2 := hR.len x List.mem_cons_self
   omega
 | f + 1, l, L, at_, hp, hR, hn, hf => by
  match L, hn with
  | [X], _ =>
   rw [List.perm_singleton.1 hp, Ql, bF, Gf]
   rfl
  | X :: Y :: R, _ =>
   have hll := hp.length_eq
   rw [List.length_map] at hll
   match l, hll with
   | a :: b :: r, _ =>
    obtain ⟨M, hM⟩ : ∃ M, X :: Y :: R = M := ⟨_, rfl⟩
    have hM0 : X ∈ M := by rw [← hM]; exact List.mem_cons_self
    have hMl : 1 < M.length := by rw [← hM]; simp
    rw [hM] at hp hR hf ⊢
    have h00 : 0 < M.length := by omega
    have hfst : M[0] = X := by simp [← hM]
    have hcm := P8 hR h00 rfl hp
    have hmem : ∀ z ∈ a :: b :: r, ∃ x ∈ M, z = dr at_ x := fun z hz => by
     obtain ⟨x, hx, rfl⟩ := List.mem_map.1 (hp.mem_iff.1 hz)
     exact ⟨x, hx, rfl⟩
    rw [bF]
    by_cases hc : common (M[0].1.drop at_) (M[M.length - 1].1.drop at_) > 0
    ·
     rw [if_pos (by rw [hcm]; exact hc), hcm, Qm f at_ M hMl hc]
     have hR2 := hR.more h00 rfl
     have ht : a.1.take (common (M[0].1.drop at_) (M[M.length - 1].1.drop at_)) = (M[0].1.drop at_).take (common (M[0].1.drop at_) (M[M.length - 1].1.drop at_)) := by
      obtain ⟨x, hx, e⟩ := hmem a List.mem_cons_self
      rw [e]
      obtain ⟨i, hi, rfl⟩ := List.getElem_of_mem hx
      obtain ⟨c1, c2, c3⟩ := gX (M[0].1.drop at_) (M[M.length - 1].1.drop at_)
      exact (sandwich _ _ _ _ (hR.vT h00 hi (Nat.zero_le _)) (hR.vT hi (by omega) (by omega)) c1 c2).1
     have hrp : (eF (common (M[0].1.drop at_) (M[M.length - 1].1.drop at_)) (a :: b :: r)).Perm (M.map (dr (at_ + common (M[0].1.drop at_) (M[M.length - 1].1.drop at_)))) := by
      rw [← TI]
      exact hp.map _
     rw [ht]
     generalize common (M[0].1.drop at_) (M[M.length - 1].1.drop at_) = c at *
     have hMn : M ≠ [] := fun e => by rw [e] at h00; exact absurd h00 (Nat.lt_irrefl _)
     have hlt := hf X hM0
     have hle := hR2.len X hM0
     obtain ⟨f', rfl⟩ : ∃ f', f = f' + 1 := ⟨f - 1, by omega⟩
     have ih := yR (f' + 1) _ M (at_ + c) hrp hR2 hMn fun x hx => by have := hf x hx; omega
     rw [ih, Jg, AZ (D6 hMn), A8 _ (show (eF c (a :: b :: r)).isEmpty = false from rfl)]
    ·
     rw [if_neg (by rw [hcm]; exact hc)]
     have kid : ∀ (d : Nat) (M' : List Pr), kT at_ M' → (∀ z ∈ M', at_ < z.1.length) → (∀ z ∈ M', z ∈ M) → M.filter (fun x => headD d (dr at_ x)) = M'.filter (fun z => (dO at_ z).toNat == d) → jC (cZ d (a :: b :: r)) (bF f (cZ d (a :: b :: r))) = mD (bdF f (M'.filter fun z => (dO at_ z).toNat == d) (at_ + 1)) := by
      intro d M' hR' hl' hsub hfe
      have hkp := OJ (d := d) hp
      rw [hfe] at hkp
      by_cases hne : M'.filter (fun z => (dO at_ z).toNat == d) = []
      ·
       rw [hne] at hkp ⊢
       rw [JB, List.Perm.eq_nil hkp, Oj, LJ]
      ·
       have hkn : (cZ d (a :: b :: r)).isEmpty = false := by
        cases hk : cZ d (a :: b :: r) with
        | nil =>
         rw [hk] at hkp
         exact absurd (List.map_eq_nil_iff.1 (List.Perm.eq_nil hkp.symm)) hne
        | cons _ _ => rfl
       have hex : ∃ z, z ∈ M'.filter (fun z => (dO at_ z).toNat == d) := List.exists_mem_of_ne_nil _ hne
       obtain ⟨z, hz⟩ := hex
       have hz' := (List.mem_filter.1 hz).1
       have := hl' z hz'
       have := hf z (hsub z hz')
       obtain ⟨f', rfl⟩ : ∃ f', f = f' + 1 := ⟨f - 1, by omega⟩
       have ih := yR (f' + 1) _ _ (at_ + 1) hkp (Oh hR' hl') hne fun x hx => by
        have := hf x (hsub x (List.mem_filter.1 hx).1)
        omega
       rw [ih, A8 _ hkn, AZ (D6 hne)]
     by_cases h0 : (M[0].1.drop at_).length = 0
     ·
      rw [Qo f at_ M hMl hc h0]
      have hX : X.1.length ≤ at_ := by
       rw [hfst, List.length_drop] at h0
       omega
      have htl : M.tail = Y :: R := by rw [← hM]; rfl
      have hRX : kT at_ (X :: Y :: R) := by rw [hM]; exact hR
      have hlong : ∀ z ∈ Y :: R, at_ < z.1.length := fun z hz => hRX.longer hz
      have hRt : kT at_ (Y :: R) := hRX.sub (List.sublist_cons_self _ _)
      rw [htl, BF]
      refine congrArg (Raw.mk true []) ?_
      have hval : lJ (a :: b :: r) = M[0].2 := by
       refine Ar _ [] _ (fun z hz he => ?_) (.inr ?_)
       ·
        obtain ⟨x, hx, rfl⟩ := hmem z hz
        rw [← hM] at hx
        rcases List.mem_cons.1 hx with rfl | hx
        ·
         rw [hfst]
         rfl
        ·
         have := hlong x hx
         unfold dr at he
         dsimp only at he
         rw [List.isEmpty_iff, List.drop_eq_nil_iff] at he
         omega
       ·
        refine ⟨dr at_ X, hp.mem_iff.2 (List.mem_map.2 ⟨X, hM0, rfl⟩), ?_⟩
        unfold dr
        dsimp only
        rw [List.drop_eq_nil_of_le hX]
        rfl
      rw [hval]
      refine congrArg (· ++ [Raw.mk false M[0].2 []]) (List.map_congr_left fun d _ => ?_)
      refine kid d (Y :: R) hRt hlong (fun z hz => by rw [← hM]; exact List.mem_cons_of_mem _ hz) ?_
      rw [← hM, List.filter_cons_of_neg (by rw [MP hX]; decide)]
      exact List.filter_congr fun z hz => Gh (hlong z hz)
     ·
      rw [Qn f at_ M hMl hc h0]
      have hX : at_ < X.1.length := by
       rw [hfst, List.length_drop] at h0
       omega
      have hlong : ∀ z ∈ M, at_ < z.1.length := Hw hR h00 (by rw [hfst]; exact hX)
      rw [BF]
      refine congrArg (Raw.mk true []) ?_
      have hval : lJ (a :: b :: r) = [] := Au _ _ fun z hz => by
       obtain ⟨x, hx, rfl⟩ := hmem z hz
       have := hlong x hx
       unfold dr
       dsimp only
       rw [List.drop_eq_getElem_cons this]
       rfl
      rw [hval]
      refine congrArg (· ++ [Raw.mk false [] []]) (List.map_congr_left fun d _ => ?_)
      exact kid d M hR hlong (fun z hz => hz) (List.filter_congr fun z hz => Gh (hlong z hz))
theorem yG (l : List Pr) : Fb l = kW l := by
 unfold Fb kW
 by_cases he : ig l = 0
 ·
  rw [if_neg (by rw [he]; decide), if_pos he]
  cases l with
  | nil =>
   rw [if_pos (show ([] : List Pr).isEmpty = true from rfl)]
   unfold xY sumT
   rw [show srt (([] : List Pr).map sp) = [] from List.Perm.eq_nil (iW _), JB, if_pos (show Tn.nil.isNil = true from rfl)]
  | cons x r =>
   rw [if_neg (show ¬ ((x :: r).isEmpty = true) from Bool.false_ne_true)]
   obtain ⟨_, hlg, hnd⟩ := ku he
   have hp : ((x :: r).map sp).Perm ((srt ((x :: r).map sp)).map (dr 0)) := by
    have h0 : (srt ((x :: r).map sp)).map (dr 0) = srt ((x :: r).map sp) := (List.map_congr_left fun x _ => rfl).trans (List.map_id _)
    rw [h0]
    exact (iW _).symm
   have hne : srt ((x :: r).map sp) ≠ [] := fun e => by
    have := (iW ((x :: r).map sp)).length_eq
    rw [e] at this
    simp at this
   have h := yR 200 _ _ 0 hp (Fg hnd) hne fun z hz => by
    obtain ⟨y, hy, rfl⟩ := List.mem_map.1 ((iW _).mem_iff.1 hz)
    have := iM hlg hy
    show (split y.1).length < _
    rw [fA]
    omega
   rw [h]
   unfold xY sumT
   rw [D6 (f := 199) hne, if_neg (by decide)]
 · rw [if_pos he, if_neg he]
section
variable {N : Nat} {X : Cx N} {S : St} {ops : Array Oper} {o : Oper} {Q : Exit → Act → World → Prop} {l : List Oper} {rs : List (Tmp × R)} {os os' : List Obj} {fs : List (Value × D)}
def TN (ops : Array Oper) (S : St) (o : Oper) (p q : Obj) (u : Value) : Prop :=
 q.blk = p.blk ∧ ∀ base ok a w, Kn base ok (fun t => t ∈ o.looksAt ops) S a w → (∀ g, p.blk = some g → ¬ ok g) → p.At base ok w → ∃ w' g, (execOp a.eval o).run Tryz.prog w = .ok (.value u) w' ∧ p.blk = some g ∧ w.grownBy w' (some g) ∧ q.At base ok w'
theorem Dy {p q : Obj} {u : Value} (hu : u.oneCell' = true) (hP : TN ops S o p q u) : Aj ops S o [p] (fun r os' => r = .val (.v u) ∧ os' = [q]) := .mk fun base ok a w ha hown => by
 obtain ⟨hq, hP⟩ := hP
 obtain ⟨w', g, h1, h2, h3, h4⟩ := hP (fun _ => True) ok a w ⟨fun o ho => (ha.objs o ho).nX fun _ _ => trivial, ha.facts, ha.lt, ha.regs⟩ (fun g hb => hown.off g ⟨p, by simp, hb⟩) (hown.at_ p (by simp))
 rw [h1]
 have hB : ∀ b, oO [p] b ↔ b = g := fun b => ⟨fun ⟨o, ho, e⟩ => by
  obtain rfl : o = p := by simpa using ho
  rw [h2] at e
  injection e with e
  exact e.symm, fun e => ⟨p, by simp, by rw [e]; exact h2⟩⟩
 refine ⟨.val (.v u), [q], ⟨rfl, rfl⟩, ⟨⟨h3.os, h3.tape, h3.output, h3.size, fun k hk hn => h3.block k hk fun e => hn ((hB k).2 (by injection e))⟩, by simp, fun o ho => ?_⟩, bf.2 ⟨hu, rfl⟩⟩
 obtain rfl : o = q := by simpa using ho
 refine (h4.move (fun b hb => ⟨.inl hb, Nat.lt_of_lt_of_le (ha.lt b hb) h3.size, fun o' ho' e => ?_⟩) (fun _ _ => rfl) fun _ _ => rfl).nX fun b e => .inl ⟨p, by simp, by rw [← hq]; exact e⟩
 obtain rfl : o' = o := by simpa using ho'
 exact hown.off b ⟨p, by simp, by rw [← hq]; exact e⟩ hb
theorem qP {T e z b k : Nat} {x y : Operand} {v : Value} {ds : List D} (ho : o.op = .call { callee := .builtin .copy, args := #[x, y], argTypes := #[T, T] }) (hx : ev S x = some (.val (.v (xq (k + 1) z v)))) (hy : ev S y = some (.val (.v (xq k z v)))) (hT : assoc slL T = some (e, z, b)) (hz : Nat.blt 0 z = true) (hk : k < ds.length) :
  TN ops S o (.row v e z ds) (.row v e z (ds.take (k + 1) ++ (ds.drop k).take (ds.length - (k + 1)))) (.int .i64 ((ds.length - (k + 1) : Nat) : Int)) := by
 refine ⟨rfl, fun base ok a w ha hno hat => ?_⟩
 have hx' := gJ ha hx (bU (by rw [ho]; simp [Op.operands, Call.operands]))
 have hy' := gJ ha hy (bU (by rw [ho]; simp [Op.operands, Call.operands]))
 have hT0 := QX hT hz
 obtain ⟨g, c, cur, rows, H⟩ := row_in hat (by omega)
 obtain ⟨m, hm⟩ : ∃ m, ds.length - (k + 1) = m := ⟨_, rfl⟩
 rw [hm]
 have hle := H.le
 obtain ⟨hl1, hl2⟩ := ay.lens ds rows H.rows
 obtain ⟨sp, hsplit⟩ : ∃ sp, cur.toList = rows.flatten ++ sp := ⟨cur.toList.drop (ds.length * z), by rw [← H.cells, List.take_append_drop]⟩
 have hlen : ∀ (n i : Nat), ((rows.drop i).take n).flatten.length = min n (ds.length - i) * z := fun n i => by
  rw [kM _ fun r hr => hl2 r (List.mem_of_mem_drop (List.mem_of_mem_take hr)), List.length_take, List.length_drop, hl1]
 have hcs : ((rows.drop k).take m).flatten.length = m * z := by rw [hlen, Nat.min_eq_left (by omega)]
 have hmid : (rows.drop (k + 1)).flatten.length = m * z := by
  rw [kM _ fun r hr => hl2 r (List.mem_of_mem_drop hr), List.length_drop, hl1, hm]
 have hA : (rows.take (k + 1)).flatten.length = (k + 1) * z := by
  rw [kM _ fun r hr => hl2 r (List.mem_of_mem_take hr), List.length_take, hl1, Nat.min_eq_left (by omega)]
 have hAk : (rows.take k).flatten.length = k * z := by
  rw [kM _ fun r hr => hl2 r (List.mem_of_mem_take hr), List.length_take, hl1, Nat.min_eq_left (by omega)]
 have hone : ∀ u ∈ ((rows.drop k).take m).flatten, u.oneCell' = true := fun u hu => by
  obtain ⟨r, hr, hu'⟩ := List.mem_flatten.1 hu
  exact ay.one _ _ H.rows u (List.mem_flatten.2 ⟨r, List.mem_of_mem_drop (List.mem_of_mem_take hr), hu'⟩)
 have hs0 : xq k z v = .slice (some ⟨g, k * z, none⟩) (ds.length - k) (c - k) := by
  rw [H.val]
  unfold xq
  dsimp only
  rw [if_neg (by omega), Option.map_some, dN, Nat.zero_add]
 have hsrc : ∀ j u, ((rows.drop k).take m).flatten[j]? = some u → w.cell? ((⟨g, k * z, none⟩ : Addr).add j) = some u := fun j u hu => by
  rw [dN, cell_of_row w g _ _ _ _ H.heap, ← Array.getElem?_toList, hsplit]
  have hj := (List.getElem?_eq_some_iff.1 hu).1
  have h1 : rows.flatten = (rows.take k).flatten ++ (((rows.drop k).take m).flatten ++ ((rows.drop k).drop m).flatten) := by rw [← List.flatten_append, List.take_append_drop, ← List.flatten_append, List.take_append_drop]
  rw [h1, List.append_assoc, List.getElem?_append_right (by omega), hAk, Nat.add_sub_cancel_left, List.append_assoc, List.getElem?_append_left hj]
  exact hu
 have hnl : (ds.take (k + 1) ++ (ds.drop k).take m).length = ds.length := by rw [List.length_append, List.length_take, List.length_take, List.length_drop]; omega
 have hmin : Nat.min (ds.length - k) m = m := Nat.min_eq_right (by omega)
 obtain ⟨inf, hinf⟩ : ∃ inf, Tryz.prog.info? e = some inf ∧ inf.size = z := by
  obtain ⟨i, zv, hi, _, hsz, _⟩ := hT0.info
  exact ⟨i, hi, hsz⟩
 have hfc : (Builtin.firstCells z m (.slice (some ⟨g, k * z, none⟩) (ds.length - k) (c - k))).run Tryz.prog w = .ok ((rows.drop k).take m).flatten.toArray w := run_firstCells_some w z m ⟨g, k * z, none⟩ _ _ _ hcs hsrc
 by_cases hm0 : m = 0
 ·
  subst hm0
  have hke : k + 1 = ds.length := by omega
  obtain ⟨Ax, hsx⟩ : ∃ Ax, xq (k + 1) z v = .slice Ax 0 (c - (k + 1)) := by
   rw [H.val]
   unfold xq
   dsimp only
   exact ⟨_, by rw [hm]⟩
  have hc0 : ((rows.drop k).take 0).flatten = [] := by simp
  rw [hc0] at hfc
  refine ⟨w, g, ?_, by rw [H.val]; rfl, ⟨rfl, rfl, rfl, Nat.le_refl _, fun _ _ _ => rfl⟩, ?_⟩
  ·
   unfold execOp
   simp only [ho, resolve, invoke, builtin, Sem.run_bind, Sem.run_pure, Result.andThen_ok, List.map_toArray, List.map_cons, List.map_nil, hx', hy', hsx, hs0]
   have hst0 : ∀ q : Addr, (storeCells q []).run Tryz.prog w = .ok () w := fun q => rfl
   cases Ax <;> simp [hst0, Builtin.copy_, run_underlying hT0.und, Builtin.lenOf, sizeOf, typeInfo, hinf.1, hinf.2, hfc, goInt]
  ·
   have : ds.take (k + 1) ++ (ds.drop k).take 0 = ds := by rw [hke]; simp
   rw [this]
   exact hat
 ·
  have hsx : xq (k + 1) z v = .slice (some ⟨g, (k + 1) * z, none⟩) m (c - (k + 1)) := by
   rw [H.val]
   unfold xq
   dsimp only
   rw [if_neg (by omega), Option.map_some, dN, Nat.zero_add, hm]
  have hcur : cur = ((rows.take (k + 1)).flatten ++ (rows.drop (k + 1)).flatten ++ sp).toArray := by
   rw [← List.flatten_append, List.take_append_drop, ← hsplit]
  have hheap := H.heap
  rw [hcur] at hheap
  have hset := iJ ((rows.drop k).take m).flatten (rows.take (k + 1)).flatten (rows.drop (k + 1)).flatten sp w (by rw [hcs, hmid]) hheap
  rw [hA] at hset
  have hgr := dY g ((rows.drop k).take m).flatten ((k + 1) * z) w
  have hcell : ∀ q : Addr, ok q.block → (w.setCells g ((k + 1) * z) ((rows.drop k).take m).flatten).cell? q = w.cell? q := fun q hq => World.cell?_of_block (hgr.block _ (ha.lt _ hq) fun e => hno g (by rw [H.val]; rfl) (by injection e with e; rw [← e]; exact hq))
  have hrows := ay.append _ _ _ _ (ay.take ds rows (k + 1) H.rows) (ay.take _ _ m (ay.drop ds rows k H.rows))
  have hrows' := ay.mono (fun _ h => h) hcell z _ _ hrows
  have hst : (storeCells ⟨g, (k + 1) * z, none⟩ ((rows.drop k).take m).flatten).run Tryz.prog w = .ok () (w.setCells g ((k + 1) * z) ((rows.drop k).take m).flatten) := by
   have := run_storeCells_cells (P := Tryz.prog) g ((k + 1) * z) ((rows.drop k).take m).flatten 0 w (fun j hj => ?_) (fun j hj => ?_) hone
   · simpa using this
   ·
    rw [cell_of_row w g _ _ _ _ hheap, Option.isSome_iff_exists]
    have hsz2 : (k + 1) * z + 0 + j < ((rows.take (k + 1)).flatten ++ (rows.drop (k + 1)).flatten ++ sp).toArray.size := by
     simp only [List.size_toArray, List.length_append]
     rw [hA, hmid]
     rw [hcs] at hj
     omega
    exact ⟨_, Array.getElem?_eq_getElem hsz2⟩
   · simp [World.frozen?, hheap]
  refine ⟨w.setCells g ((k + 1) * z) ((rows.drop k).take m).flatten, g, ?_, by rw [H.val]; rfl, hgr, zT.at (g := g) (c := c) (cur := ((rows.take (k + 1)).flatten ++ ((rows.drop k).take m).flatten ++ sp).toArray) (rows := rows.take (k + 1) ++ (rows.drop k).take m) ⟨by rw [hnl]; exact H.val, hset, ?_, ?_, by rw [hnl]; exact H.le, H.max, hrows', H.mine⟩⟩
  ·
   unfold execOp
   simp only [ho, resolve, invoke, builtin, Sem.run_bind, Sem.run_pure, Result.andThen_ok, List.map_toArray, List.map_cons, List.map_nil, hx', hy', hsx, hs0]
   simp [Builtin.copy_, run_underlying hT0.und, Builtin.lenOf, sizeOf, typeInfo, hinf.1, hinf.2, hmin, hfc, hst, goInt]
  ·
   rw [hnl, List.flatten_append]
   have : ds.length * z = ((rows.take (k + 1)).flatten ++ ((rows.drop k).take m).flatten).length := by
    rw [List.length_append, hA, hcs, ← Nat.add_mul, show k + 1 + m = ds.length by omega]
   rw [this]
   exact List.take_left' rfl
  ·
   have := congrArg List.length hsplit
   rw [Array.length_toList, H.size, ← List.take_append_drop (k + 1) rows, List.flatten_append] at this
   simp only [List.size_toArray, List.length_append] at this ⊢
   rw [hcs, ← hmid]
   omega
end
end E
end Go.Proofs.YtiledgojbpmoiaaGreat
