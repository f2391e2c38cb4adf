/-
 Merged (wip/tools/merge.py): BS1, BS2, AM1.
 Conditions: none.
-/
import Derived.Test.YtiledgojbpmoiaaGreatZQ26
import Derived.Test.YtiledgojbpmoiaaGreatZQ23
import Derived.Test.YtiledgojbpmoiaaGreatZQ11
import Derived.Test.YtiledgojbpmoiaaGreatZQ18
namespace Go.Proofs.YtiledgojbpmoiaaGreat
set_option linter.unusedVariables false
set_option maxRecDepth 20000
set_option maxHeartbeats 16000000
open Go.RowKit Mono Rlp
namespace E
theorem yQ {α : Type} {l : List α} {x : α} (h : l.Nodup) (hx : x ∉ l) : (l ++ [x]).Nodup := List.nodup_append.2 ⟨h, List.nodup_cons.2 ⟨fun h => (by cases h), List.nodup_nil⟩, fun a ha b hb => by
 rw [List.mem_singleton.1 hb]
 exact fun e => hx (e ▸ ha)⟩
theorem uJ (l : List Pr) (hs : ∀ s ∈ l, s.1.length = 32 ∧ s.2.length = 32) (hlen : l.length ≤ 1000000) : Fn 60 [.sl 64 (l.map gq)] (· = if (l.map (·.1)).Nodup then .tpl [.sl 2 ((l.filterMap slP).map dPr), .v (.bool true)] else .tpl [.sl 2 [], .v (.bool false)]) := by
 have hml : (l.map gq).length = l.length := List.length_map _
 refine FnM.toFn ?_
 refine FnM.walk 60 Tryz.func60 rfl Tryz.ntmps60 (by simp) fun X => ?_
 repeat
  (first
   | (apply aj; iterate 3 rfl) | apply EL.nil | ((with_reducible apply EK.ah); apply EK.code) | (with_reducible first | apply EC.seq | apply EC.region | apply EC.block))
 refine EC.le (Le.row 69 2) ?_
 refine EC.loop (ι := {x : Nat × Value // x.1 ≤ l.length ∧ ((l.take x.1).map (·.1)).Nodup})
  (fun x => ⟨[(5, .val (.v (.int .i64 (x.1.1 : Int)))), (4, .val (.v x.1.2)), (0, .val (.sl 64 (l.map gq)))], [.row x.1.2 69 2 (((l.take x.1.1).filterMap slP).map dPr)], []⟩)
  (fun x => l.length - x.1.1) ⟨(0, .slice none 0 0), Nat.zero_le _, List.nodup_nil⟩ ?_ ?_
 · exact Le.kp
 rintro ⟨⟨i, v⟩, hi, hnd⟩
 dsimp only at hi hnd ⊢
 by_cases hlt : i < l.length
 ·
  have hd : (l.map gq)[i]? = some (.tup [.arr 32 l[i].1, .arr 32 l[i].2]) := by rw [List.getElem?_map, List.getElem?_eq_getElem hlt]; rfl
  have htk : l.take (i + 1) = l.take i ++ [l[i]] := List.take_succ_eq_append_getElem hlt
  have hsi := hs _ (List.getElem_mem hlt)
  have hfl : (((l.take i).filterMap slP).map dPr).length ≤ 1000000 := by
   rw [List.length_map]
   exact Nat.le_trans (List.length_filterMap_le _ _) (by rw [List.length_take]; omega)
  repeat
   (first
    | (apply au; iterate 3 rfl) | (apply aj; iterate 3 rfl) | (apply aA (b := true); (iterate 2 rfl); exact aG; iterate 2 rfl)
    | (apply aB; iterate 4 rfl) | apply EL.nil | ((with_reducible apply EK.ah); apply EK.code) | (apply EC.cond_true; rfl)
    | (with_reducible first | apply EC.seq | apply EC.region | apply EC.skip | apply EC.block))
  refine EC.loop (ι := {k : Nat // k ≤ i ∧ ∀ j, (hj : j < k) → (h : j < l.length) → l[j].1 ≠ l[i].1})
   (fun k => ⟨[(6, .val (.v (.int .i64 (k.1 : Int)))), (5, .val (.v (.int .i64 (i : Int)))), (4, .val (.v v)), (0, .val (.sl 64 (l.map gq)))], [.row v 69 2 (((l.take i).filterMap slP).map dPr)], []⟩)
   (fun k => i - k.1) ⟨0, Nat.zero_le _, fun j hj => absurd hj (Nat.not_lt_zero _)⟩ ?_ ?_
  · exact Le.kp
  rintro ⟨k, hk, hun⟩
  dsimp only at hk hun ⊢
  by_cases hki : k < i
  ·
   have hkl : k < l.length := by omega
   have hdk : (l.map gq)[k]? = some (.tup [.arr 32 l[k].1, .arr 32 l[k].2]) := by rw [List.getElem?_map, List.getElem?_eq_getElem hkl]; rfl
   have hw := (jd l[k].1 l[i].1).1
   cases hq : (l[k].1 == l[i].1) with
   | true =>
    rw [hq] at hw
    have hdup : ¬ (l.map (·.1)).Nodup := fun h => by
     have h2 := List.pairwise_iff_getElem.1 h k i (by simpa using hkl) (by simpa using hlt) hki
     simp only [List.getElem_map] at h2
     exact h2 (by simpa using hq)
    rw [if_neg hdup]
    repeat
     (first
      | (apply au; iterate 3 rfl) | (apply aA (b := true); (iterate 2 rfl); exact aG; iterate 2 rfl) | apply EL.nil | ((with_reducible apply EK.ah); apply EK.code)
      | (apply EC.cond_true; rfl) | (with_reducible first | apply EC.seq | apply EC.region | apply EC.skip | apply EC.block))
    refine EC.draw 11 (by kernel_rfl) ?_
    simp only [List.take_succ_cons, List.take_zero, List.drop_succ_cons, List.drop_zero]
    repeat
     (first
      | (apply fK; (iterate 2 rfl); exact hw; iterate 2 rfl) | (apply aU; iterate 3 rfl) | (apply aW; iterate 7 rfl) | (apply bG; iterate 5 rfl)
      | (apply bD; (iterate 4 rfl); (focus (first | exact ⟨by decide, rfl⟩ | (refine ⟨by omega, ?_⟩; rw [Int.toNat_natCast]; assumption))); iterate 2 rfl)
      | ((with_reducible apply EH.nil); rfl))
    repeat
     (first
      | (apply aj; iterate 3 rfl) | apply EL.nil | ((with_reducible apply EK.ah); apply EK.code) | (apply EC.cond_true; rfl)
      | (with_reducible first | apply EC.seq | apply EC.region | apply EC.ret | apply EK.dS | apply EK.aI))
    exact EK.qN [] rfl rfl rfl (RL.cons Rf.sl0 (RL.cons Rf.same RL.nil)) (List.nil_sublist _) ⟨rfl, rfl⟩
   | false =>
    rw [hq] at hw
    repeat
     (first
      | (apply au; iterate 3 rfl) | (apply aA (b := true); (iterate 2 rfl); exact aG; iterate 2 rfl) | apply EL.nil | ((with_reducible apply EK.ah); apply EK.code)
      | (apply EC.cond_true; rfl) | (with_reducible first | apply EC.seq | apply EC.region | apply EC.skip | apply EC.block))
    refine EC.draw 11 (by kernel_rfl) ?_
    simp only [List.take_succ_cons, List.take_zero, List.drop_succ_cons, List.drop_zero]
    repeat
     (first
      | (apply fK; (iterate 2 rfl); exact hw; iterate 2 rfl) | (apply aU; iterate 3 rfl) | (apply aW; iterate 7 rfl) | (apply bG; iterate 5 rfl)
      | (apply bD; (iterate 4 rfl); (focus (first | exact ⟨by decide, rfl⟩ | (refine ⟨by omega, ?_⟩; rw [Int.toNat_natCast]; assumption))); iterate 2 rfl)
      | ((with_reducible apply EH.nil); rfl))
    repeat
     (first
      | (apply au; iterate 3 rfl) | (apply aj; iterate 3 rfl) | (apply eU; (iterate 3 rfl); (focus omega); (focus omega); iterate 2 rfl) | apply EL.nil
      | ((with_reducible apply EK.ah); apply EK.code) | (apply EC.cond_false; rfl) | (with_reducible first | apply EC.region | apply EC.skip | apply EK.aF))
    refine EK.again ⟨k + 1, hki, fun j hj h => ?_⟩ (by dsimp only; omega) ?_
    ·
     rcases Nat.lt_or_ge j k with h1 | h1
     · exact hun j h1 h
     ·
      obtain rfl : j = k := by omega
      simpa using hq
    simp only [Int.natCast_add]
    exact Le.kp
  ·
   obtain rfl : k = i := by omega
   have hnd2 : ((l.take (k + 1)).map (·.1)).Nodup := by
    rw [htk, List.map_append]
    refine yQ hnd fun hm => ?_
    obtain ⟨x, hx, e⟩ := List.mem_map.1 hm
    obtain ⟨j, hj, rfl⟩ := List.getElem_of_mem hx
    rw [List.length_take] at hj
    rw [List.getElem_take] at e
    exact hun j (by omega) (by omega) e
   have hfm : ∀ r, slP l[k] = r → (l.take (k + 1)).filterMap slP = (l.take k).filterMap slP ++ r.toList := fun r hr => by
    rw [htk, List.filterMap_append]
    congr 1
    cases r with
    | none => simp [hr]
    | some y => simp [hr]
   have hz := (jd l[k].2 zero32).1
   unfold slP at hfm
   by_cases hv : l[k].2 = zero32
   ·
    rw [show (l[k].2 == zero32) = true by simp [hv]] at hz
    have hf2 := hfm none (if_pos hv)
    rw [Option.toList_none, List.append_nil] at hf2
    repeat
     (first
      | (apply iU; (iterate 2 rfl); exact hz; iterate 2 rfl) | (apply au; iterate 3 rfl) | (apply aj; iterate 3 rfl) | (apply aP; iterate 7 rfl)
      | (apply aK; iterate 5 rfl) | (apply aA (b := false); (iterate 2 rfl); exact aG; iterate 2 rfl)
      | (apply eU; (iterate 3 rfl); (focus omega); (focus omega); iterate 2 rfl)
      | (apply aX; (iterate 4 rfl); (focus (first | exact ⟨by decide, rfl⟩ | (refine ⟨by omega, ?_⟩; rw [Int.toNat_natCast]; assumption))); iterate 2 rfl)
      | (apply iD; iterate 5 rfl) | apply EL.nil | ((with_reducible apply EK.ah); apply EK.code) | (apply EC.cond_true; rfl) | (apply EC.cond_false; rfl)
      | (with_reducible first | apply EC.seq | apply EC.region | apply EC.exit | apply EK.aZ | apply EK.aH))
    refine EK.again ⟨(k + 1, v), hlt, hnd2⟩ (by dsimp only; omega) ?_
    dsimp only
    have hf3 : (l.take (k + 1)).filterMap slP = (l.take k).filterMap slP := hf2
    rw [hf3]
    simp only [Int.natCast_add]
    exact Le.kp
   ·
    rw [show (l[k].2 == zero32) = false by simp [hv]] at hz
    have hf2 := hfm _ (if_neg hv)
    have hB := PD l[k].2 hsi.2
    have hP := uK (.mk false (strip l[k].2) [])
    rw [yL hsi.2] at hP
    unfold oW at hP
    dsimp only at hP
    have hH := Kw l[k].1 (by omega)
    have hf3 : ((l.take (k + 1)).filterMap slP).map dPr = ((l.take k).filterMap slP).map dPr ++ [.tup [.bs (hash l[k].1), .bs (pkB (.mk false (strip l[k].2) []))]] := by
     have : (l.take (k + 1)).filterMap slP = (l.take k).filterMap slP ++ [(hash l[k].1, pkB (.mk false (strip l[k].2) []))] := hf2
     rw [this, List.map_append]
     rfl
    generalize pkB (.mk false (strip l[k].2) []) = pb at hP hf3
    generalize ((l.take k).filterMap slP).map dPr = fl at hfl hf3 ⊢
    repeat
     (first
      | (apply iU; (iterate 2 rfl); exact hz; iterate 2 rfl) | (apply aJ (hB); rfl; exact ak.refl _ _; exact enA; iterate 2 rfl)
      | (apply aJ (hP); rfl; exact ak.refl _ _; exact enA; iterate 2 rfl) | (apply aJ (hH); rfl; exact ak.refl _ _; exact enA; iterate 2 rfl)
      | (apply lY jQ; iterate 6 rfl) | (apply au; iterate 3 rfl) | (apply aj; iterate 3 rfl) | (apply aP; iterate 7 rfl)
      | (apply aS; iterate 4 rfl) | (apply aK; iterate 5 rfl) | (apply aA (b := false); (iterate 2 rfl); exact aG; iterate 2 rfl)
      | (apply eU; (iterate 3 rfl); (focus omega); (focus omega); iterate 2 rfl)
      | (apply aX; (iterate 4 rfl); (focus (first | exact ⟨by decide, rfl⟩ | (refine ⟨by omega, ?_⟩; rw [Int.toNat_natCast]; assumption))); iterate 2 rfl)
      | (apply fE; iterate 7 rfl) | (apply iD; iterate 5 rfl) | (apply jo; iterate 9 rfl)
      | ((apply fJ; rfl; (focus (repeat first | exact .z | apply aY.s | apply aN.s)); (iterate 5 rfl); (focus (constructor <;> (first | (simp; done) | (simp; omega))))); intro _)
      | apply EL.nil | ((with_reducible apply EK.ah); apply EK.code) | (apply EC.cond_false; rfl)
      | (with_reducible first | apply EC.seq | apply EC.region | apply EC.skip | apply EC.exit | apply EK.aF | apply EK.aZ | apply EK.aH))
    rename_i v2
    refine EK.again ⟨(k + 1, v2), hlt, hnd2⟩ (by dsimp only; omega) ?_
    dsimp only
    rw [hf3]
    simp only [Int.natCast_add]
    exact Le.kp
 ·
  obtain rfl : i = l.length := by omega
  have htl : (l.take l.length).filterMap slP = l.filterMap slP := by rw [List.take_length]
  rw [List.take_length] at hnd
  rw [if_pos hnd, htl]
  refine EC.le (Le.freeze (pre := []) rfl) ?_
  simp only [List.nil_append]
  repeat
   (first
    | (apply au; iterate 3 rfl) | (apply aj; iterate 3 rfl) | (apply aA (b := false); (iterate 2 rfl); exact aG; iterate 2 rfl)
    | (apply aB; iterate 4 rfl) | apply EL.nil | ((with_reducible apply EK.ah); apply EK.code) | (apply EC.cond_false; rfl)
    | (with_reducible first | apply EC.seq | apply EC.region | apply EC.exit | apply EC.ret | apply EK.aZ | apply EK.aH))
  exact EK.qN [] rfl rfl rfl (RL.cons (Rf.fact List.mem_cons_self rfl) (RL.cons Rf.same RL.nil)) (List.nil_sublist _) ⟨rfl, rfl⟩
theorem Pz (l : List Pr) (hs : ∀ s ∈ l, s.1.length = 32 ∧ s.2.length = 32) (hlen : l.length ≤ 1000000) : Fn 102 [.sl 64 (l.map gq)] (· = .tpl [.arr 32 (iR l), .v (.int .i64 (pK l : Int))]) := by
 have h1 := uJ l hs hlen
 have h2 := Sr (l.filterMap slP)
 rw [yG] at h2
 unfold iR pK
 refine Fn.walk 25 Tryz.func102 rfl Tryz.ntmps102 (by simp) fun X => ?_
 by_cases hn : (l.map (·.1)).Nodup
 ·
  rw [if_pos hn] at h1
  rw [if_pos hn, if_pos hn]
  repeat
   (first
    | (apply aJ (h1); rfl; exact ak.refl _ _; exact enA; iterate 2 rfl) | (apply au; iterate 3 rfl) | (apply aj; iterate 3 rfl)
    | (apply aS; iterate 4 rfl) | (apply jW; iterate 3 rfl) | (apply aV; rfl; rfl; rfl; intro _) | apply EL.nil
    | ((with_reducible apply EK.ah); apply EK.code) | (apply EC.cond_false; rfl) | (with_reducible first | apply EC.seq | apply EC.region | apply EC.skip))
  refine SY h2 rfl (ak.refl _ _) (by intro _ _; simp [go_sem]) rfl rfl ?_
  rintro _ ⟨ns, rfl⟩
  repeat
   (first
    | (apply au; iterate 3 rfl) | (apply aj; iterate 3 rfl) | (apply aS; iterate 4 rfl) | (apply dA; rfl; exact I.a; iterate 4 rfl)
    | (apply aV; rfl; rfl; rfl; intro _) | (apply aO; rfl; (focus (repeat first | exact .z | apply aY.s | apply aN.s)); iterate 4 rfl) | apply EL.nil
    | ((with_reducible apply EK.ah); apply EK.code) | (with_reducible first | apply EC.seq | apply EC.region | apply EC.ret))
  refine EK.ni 1 rfl rfl rfl rfl rfl ?_ rfl
  (exact RL.a)
 ·
  rw [if_neg hn] at h1
  rw [if_neg hn, if_neg hn]
  repeat
   (first
    | (apply aJ (h1); rfl; exact ak.refl _ _; exact enA; iterate 2 rfl) | (apply au; iterate 3 rfl) | (apply aj; iterate 3 rfl)
    | (apply aS; iterate 4 rfl) | (apply jW; iterate 3 rfl) | (apply iD; iterate 5 rfl) | (apply aV; rfl; rfl; rfl; intro _)
    | (apply aO; rfl; (focus (repeat first | exact .z | apply aY.s | apply aN.s)); iterate 4 rfl) | apply EL.nil | ((with_reducible apply EK.ah); apply EK.code)
    | (apply EC.cond_true; rfl) | (with_reducible first | apply EC.seq | apply EC.region | apply EC.ret | apply EK.aI))
  refine EK.ni 0 rfl rfl rfl rfl rfl ?_ rfl
  (exact RL.a)
def uV (l : List Acc) : Prop := (l.map (·.a)).Nodup ∧ ∀ x ∈ l, 0 ≤ x.n ∧ pK x.sl = 0
instance (l : List Acc) : Decidable (uV l) := by unfold uV; infer_instance
theorem Hy (x : Acc) : acE x = 0 ↔ (0 ≤ x.n ∧ pK x.sl = 0) := by
 unfold acE
 constructor
 ·
  intro h
  split at h
  · omega
  ·
   split at h
   · cases h
   · omega
 ·
  rintro ⟨h1, h2⟩
  rw [if_neg (by omega), if_neg (by omega)]
theorem FB : ∀ (l : List Acc) (seen : List (List UInt8)), prE l seen = 0 ↔ ((l.map (·.a)).Nodup ∧ (∀ x ∈ l, x.a ∉ seen) ∧ ∀ x ∈ l, 0 ≤ x.n ∧ pK x.sl = 0)
 | [], seen => by simp [prE]
 | x :: l, seen => by
  rw [prE]
  by_cases hin : x.a ∈ seen
  ·
   rw [if_pos hin]
   constructor
   · intro h; cases h
   ·
    rintro ⟨_, h, _⟩
    exact absurd hin (h x List.mem_cons_self)
  ·
   rw [if_neg hin]
   by_cases ha : acE x = 0
   ·
    rw [if_neg (by omega), FB l (seen ++ [x.a])]
    have hx := (Hy x).1 ha
    constructor
    ·
     rintro ⟨h1, h2, h3⟩
     refine ⟨?_, fun y hy => ?_, fun y hy => ?_⟩
     ·
      rw [List.map_cons]
      refine List.nodup_cons.2 ⟨fun hm => ?_, h1⟩
      obtain ⟨y, hy, e⟩ := List.mem_map.1 hm
      exact h2 y hy (by rw [e]; simp)
     ·
      rcases List.mem_cons.1 hy with rfl | hy
      · exact hin
      · exact fun h => h2 y hy (List.mem_append_left _ h)
     ·
      rcases List.mem_cons.1 hy with rfl | hy
      · exact hx
      · exact h3 y hy
    ·
     rintro ⟨h1, h2, h3⟩
     rw [List.map_cons] at h1
     obtain ⟨h4, h5⟩ := List.nodup_cons.1 h1
     refine ⟨h5, fun y hy hm => ?_, fun y hy => h3 y (List.mem_cons_of_mem _ hy)⟩
     rcases List.mem_append.1 hm with hm | hm
     · exact h2 y (List.mem_cons_of_mem _ hy) hm
     · exact h4 (by rw [← List.mem_singleton.1 hm]; exact List.mem_map.2 ⟨y, hy, rfl⟩)
   ·
    rw [if_pos ha]
    constructor
    · intro h; exact absurd h ha
    ·
     rintro ⟨_, _, h⟩
     exact absurd ((Hy x).2 (h x List.mem_cons_self)) ha
theorem FC (l : List Acc) : prE l [] = 0 ↔ uV l := by
 rw [FB]
 unfold uV
 constructor
 ·
  rintro ⟨h1, _, h2⟩
  exact ⟨h1, h2⟩
 ·
  rintro ⟨h1, h2⟩
  exact ⟨h1, (fun x _ h => by cases h), h2⟩
theorem GU (l : List Acc) (hok : ∀ x ∈ l, x.ok) (hcd : ∀ x ∈ l, x.cd.length ≤ 1099511627776) (hlen : l.length ≤ 1000000) : Fn 61 [.sl 55 (l.map bM)] (· = if uV l then .tpl [.sl 2 ((l.map acP).map dPr), .v (.int .i64 0)] else .tpl [.sl 2 [], .v (.int .i64 1)]) := by
 have hml : (l.map bM).length = l.length := List.length_map _
 refine FnM.toFn ?_
 refine FnM.walk 84 Tryz.func61 rfl Tryz.ntmps61 (by simp) fun X => ?_
 repeat
  (first
   | (apply aj; iterate 3 rfl) | apply EL.nil | ((with_reducible apply EK.ah); apply EK.code) | (with_reducible first | apply EC.seq | apply EC.region | apply EC.block))
 refine EC.le (Le.row 69 2) ?_
 refine EC.loop (ι := {x : Nat × Value // x.1 ≤ l.length ∧ ((l.take x.1).map (·.a)).Nodup ∧ ∀ y ∈ l.take x.1, 0 ≤ y.n ∧ pK y.sl = 0})
  (fun x => ⟨[(5, .val (.v (.int .i64 (x.1.1 : Int)))), (4, .val (.v x.1.2)), (0, .val (.sl 55 (l.map bM)))], [.row x.1.2 69 2 (((l.take x.1.1).map acP).map dPr)], []⟩)
  (fun x => l.length - x.1.1) ⟨(0, .slice none 0 0), Nat.zero_le _, List.nodup_nil, fun y hy => by simp at hy⟩ ?_ ?_
 · exact Le.kp
 rintro ⟨⟨i, v⟩, hi, hnd, hgd⟩
 dsimp only at hi hnd hgd ⊢
 by_cases hlt : i < l.length
 ·
  have hd : (l.map bM)[i]? = some (.tup [.arr 20 l[i].a, .v (.int .i64 l[i].n), .arr 32 l[i].w, .bs l[i].cd, .sl 64 (l[i].sl.map gq)]) := by rw [List.getElem?_map, List.getElem?_eq_getElem hlt]; rfl
  have htk : l.take (i + 1) = l.take i ++ [l[i]] := List.take_succ_eq_append_getElem hlt
  have hx := hok _ (List.getElem_mem hlt)
  have hfl : (((l.take i).map acP).map dPr).length = i := by
   rw [List.length_map, List.length_map, List.length_take]
   omega
  repeat
   (first
    | (apply au; iterate 3 rfl) | (apply aj; iterate 3 rfl) | (apply aA (b := true); (iterate 2 rfl); exact aG; iterate 2 rfl)
    | (apply aB; iterate 4 rfl) | apply EL.nil | ((with_reducible apply EK.ah); apply EK.code) | (apply EC.cond_true; rfl)
    | (with_reducible first | apply EC.seq | apply EC.region | apply EC.skip | apply EC.block))
  refine EC.loop (ι := {k : Nat // k ≤ i ∧ ∀ j, (hj : j < k) → (h : j < l.length) → l[j].a ≠ l[i].a})
   (fun k => ⟨[(6, .val (.v (.int .i64 (k.1 : Int)))), (5, .val (.v (.int .i64 (i : Int)))), (4, .val (.v v)), (0, .val (.sl 55 (l.map bM)))], [.row v 69 2 (((l.take i).map acP).map dPr)], []⟩)
   (fun k => i - k.1) ⟨0, Nat.zero_le _, fun j hj => absurd hj (Nat.not_lt_zero _)⟩ ?_ ?_
  · exact Le.kp
  rintro ⟨k, hk, hun⟩
  dsimp only at hk hun ⊢
  by_cases hki : k < i
  ·
   have hkl : k < l.length := by omega
   have hdk : (l.map bM)[k]? = some (.tup [.arr 20 l[k].a, .v (.int .i64 l[k].n), .arr 32 l[k].w, .bs l[k].cd, .sl 64 (l[k].sl.map gq)]) := by rw [List.getElem?_map, List.getElem?_eq_getElem hkl]; rfl
   have hw := (Qi l[k].a l[i].a).1
   cases hq : (l[k].a == l[i].a) with
   | true =>
    rw [hq] at hw
    have hdup : ¬ uV l := fun hg => by
     have h2 := List.pairwise_iff_getElem.1 hg.1 k i (by simpa using hkl) (by simpa using hlt) hki
     simp only [List.getElem_map] at h2
     exact h2 (by simpa using hq)
    rw [if_neg hdup]
    repeat
     (first
      | (apply au; iterate 3 rfl) | (apply aA (b := true); (iterate 2 rfl); exact aG; iterate 2 rfl) | apply EL.nil | ((with_reducible apply EK.ah); apply EK.code)
      | (apply EC.cond_true; rfl) | (with_reducible first | apply EC.seq | apply EC.region | apply EC.skip | apply EC.block))
    refine EC.draw 11 (by kernel_rfl) ?_
    simp only [List.take_succ_cons, List.take_zero, List.drop_succ_cons, List.drop_zero]
    repeat
     (first
      | (apply fK; (iterate 2 rfl); exact hw; iterate 2 rfl) | (apply aU; iterate 3 rfl) | (apply aW; iterate 7 rfl) | (apply bG; iterate 5 rfl)
      | (apply bD; (iterate 4 rfl); (focus (first | exact ⟨by decide, rfl⟩ | (refine ⟨by omega, ?_⟩; rw [Int.toNat_natCast]; assumption))); iterate 2 rfl)
      | ((with_reducible apply EH.nil); rfl))
    repeat
     (first
      | (apply aj; iterate 3 rfl) | apply EL.nil | ((with_reducible apply EK.ah); apply EK.code) | (apply EC.cond_true; rfl)
      | (with_reducible first | apply EC.seq | apply EC.region | apply EC.ret | apply EK.dS | apply EK.aI))
    exact EK.qN [] rfl rfl rfl (RL.cons Rf.sl0 (RL.cons Rf.same RL.nil)) (List.nil_sublist _) ⟨rfl, rfl⟩
   | false =>
    rw [hq] at hw
    repeat
     (first
      | (apply au; iterate 3 rfl) | (apply aA (b := true); (iterate 2 rfl); exact aG; iterate 2 rfl) | apply EL.nil | ((with_reducible apply EK.ah); apply EK.code)
      | (apply EC.cond_true; rfl) | (with_reducible first | apply EC.seq | apply EC.region | apply EC.skip | apply EC.block))
    refine EC.draw 11 (by kernel_rfl) ?_
    simp only [List.take_succ_cons, List.take_zero, List.drop_succ_cons, List.drop_zero]
    repeat
     (first
      | (apply fK; (iterate 2 rfl); exact hw; iterate 2 rfl) | (apply aU; iterate 3 rfl) | (apply aW; iterate 7 rfl) | (apply bG; iterate 5 rfl)
      | (apply bD; (iterate 4 rfl); (focus (first | exact ⟨by decide, rfl⟩ | (refine ⟨by omega, ?_⟩; rw [Int.toNat_natCast]; assumption))); iterate 2 rfl)
      | ((with_reducible apply EH.nil); rfl))
    repeat
     (first
      | (apply au; iterate 3 rfl) | (apply aj; iterate 3 rfl) | (apply eU; (iterate 3 rfl); (focus omega); (focus omega); iterate 2 rfl) | apply EL.nil
      | ((with_reducible apply EK.ah); apply EK.code) | (apply EC.cond_false; rfl) | (with_reducible first | apply EC.region | apply EC.skip | apply EK.aF))
    refine EK.again ⟨k + 1, hki, fun j hj h => ?_⟩ (by dsimp only; omega) ?_
    ·
     rcases Nat.lt_or_ge j k with h1 | h1
     · exact hun j h1 h
     ·
      obtain rfl : j = k := by omega
      simpa using hq
    simp only [Int.natCast_add]
    exact Le.kp
  ·
   obtain rfl : k = i := by omega
   have hnd2 : ((l.take (k + 1)).map (·.a)).Nodup := by
    rw [htk, List.map_append]
    refine yQ hnd fun hm => ?_
    obtain ⟨x, hx, e⟩ := List.mem_map.1 hm
    obtain ⟨j, hj, rfl⟩ := List.getElem_of_mem hx
    rw [List.length_take] at hj
    rw [List.getElem_take] at e
    exact hun j (by omega) (by omega) e
   by_cases hneg : l[k].n < 0
   ·
    rw [if_neg (show ¬ uV l from fun hg => by have := (hg.2 _ (List.getElem_mem hlt)).1; omega)]
    repeat
     (first
      | (apply au; iterate 3 rfl) | (apply aj; iterate 3 rfl) | (apply aP; iterate 7 rfl) | (apply aK; iterate 5 rfl)
      | (apply aA (b := true); (iterate 2 rfl); exact aG; iterate 2 rfl) | (apply aA (b := false); (iterate 2 rfl); exact aG; iterate 2 rfl)
      | (apply aX; (iterate 4 rfl); (focus (first | exact ⟨by decide, rfl⟩ | (refine ⟨by omega, ?_⟩; rw [Int.toNat_natCast]; assumption))); iterate 2 rfl) | apply EL.nil
      | ((with_reducible apply EK.ah); apply EK.code) | (apply EC.cond_true; rfl) | (apply EC.cond_false; rfl)
      | (with_reducible first | apply EC.seq | apply EC.region | apply EC.exit | apply EC.ret | apply EK.aZ | apply EK.dS | apply EK.aI | apply EK.aH))
    exact EK.qN [] rfl rfl rfl (RL.cons Rf.sl0 (RL.cons Rf.same RL.nil)) (List.nil_sublist _) ⟨rfl, rfl⟩
   ·
    have hS := Pz l[k].sl hx.sl hx.len
    by_cases hse : pK l[k].sl = 0
    ·
     have hgd2 : ∀ y ∈ l.take (k + 1), 0 ≤ y.n ∧ pK y.sl = 0 := fun y hy => by
      rw [htk] at hy
      rcases List.mem_append.1 hy with hy | hy
      · exact hgd y hy
      ·
       rw [List.mem_singleton.1 hy]
       exact ⟨by omega, hse⟩
     rw [hse] at hS
     have hK := nP l[k].cd (hcd _ (List.getElem_mem hlt))
     have hP := GL l[k].n l[k].w (iR l[k].sl) (hash l[k].cd) hx.n0 hx.n1 hx.w (jw _) (dV _)
     unfold dBd Ce at hP
     rw [if_neg hneg] at hP
     have hH := Kw l[k].a (by have := hx.a; omega)
     have hf3 : ((l.take (k + 1)).map acP).map dPr = ((l.take k).map acP).map dPr ++ [.tup [.bs (hash l[k].a), .bs (Rlp.E (jL l[k].n l[k].w (iR l[k].sl) (hash l[k].cd)))]] := by
      rw [htk, List.map_append, List.map_append]
      rfl
     generalize ((l.take k).map acP).map dPr = fl at hfl hf3 ⊢
     generalize Rlp.E (jL l[k].n l[k].w (iR l[k].sl) (hash l[k].cd)) = eb at hP hf3
     repeat
      (first
       | (apply aJ (hS); rfl; exact ak.refl _ _; exact enA; iterate 2 rfl) | (apply au; iterate 3 rfl) | (apply aj; iterate 3 rfl)
       | (apply aP; iterate 7 rfl) | (apply aS; iterate 4 rfl) | (apply aK; iterate 5 rfl)
       | (apply aA (b := false); (iterate 2 rfl); exact aG; iterate 2 rfl)
       | (apply aX; (iterate 4 rfl); (focus (first | exact ⟨by decide, rfl⟩ | (refine ⟨by omega, ?_⟩; rw [Int.toNat_natCast]; assumption))); iterate 2 rfl)
       | (apply aV; rfl; rfl; rfl; intro _) | (apply aO; rfl; (focus (repeat first | exact .z | apply aY.s | apply aN.s)); iterate 4 rfl) | apply EL.nil
       | ((with_reducible apply EK.ah); apply EK.code) | (apply EC.cond_false; rfl)
       | (with_reducible first | apply EC.seq | apply EC.region | apply EC.skip | apply EC.exit | apply EK.aZ | apply EK.aH))
     refine EC.draw 24 (by kernel_rfl) ?_
     simp only [List.take_succ_cons, List.take_zero, List.drop_succ_cons, List.drop_zero]
     repeat
      (first
       | (apply bP (hK); rfl; exact ak.refl _ _; exact enA; iterate 2 rfl) | (apply bP (hP); rfl; exact ak.refl _ _; exact enA; iterate 2 rfl)
       | (apply aU; iterate 3 rfl) | (apply iE; iterate 3 rfl) | (apply aW; iterate 7 rfl) | (apply rC; iterate 4 rfl)
       | (apply bG; iterate 5 rfl) | (apply bT; rfl; exact I.a; iterate 4 rfl)
       | (apply bD; (iterate 4 rfl); (focus (first | exact ⟨by decide, rfl⟩ | (refine ⟨by omega, ?_⟩; rw [Int.toNat_natCast]; assumption))); iterate 2 rfl)
       | (apply iL; iterate 7 rfl) | ((with_reducible apply EH.nil); rfl))
     repeat
      (first
       | (apply aJ (hH); rfl; exact ak.refl _ _; exact enA; iterate 2 rfl) | (apply lY yu; iterate 6 rfl) | (apply au; iterate 3 rfl)
       | (apply aj; iterate 3 rfl) | (apply aP; iterate 7 rfl) | (apply eU; (iterate 3 rfl); (focus omega); (focus omega); iterate 2 rfl)
       | (apply aX; (iterate 4 rfl); (focus (first | exact ⟨by decide, rfl⟩ | (refine ⟨by omega, ?_⟩; rw [Int.toNat_natCast]; assumption))); iterate 2 rfl)
       | (apply fE; iterate 7 rfl) | (apply jo; iterate 9 rfl)
       | ((apply fJ; rfl; (focus (repeat first | exact .z | apply aY.s | apply aN.s)); (iterate 5 rfl); (focus (constructor <;> (first | (simp; done) | (simp; omega))))); intro _)
       | apply EL.nil | ((with_reducible apply EK.ah); apply EK.code) | (with_reducible first | apply EC.region | apply EK.aF))
     rename_i v2
     refine EK.again ⟨(k + 1, v2), hlt, hnd2, hgd2⟩ (by dsimp only; omega) ?_
     dsimp only
     rw [hf3]
     simp only [Int.natCast_add]
     exact Le.kp
    ·
     rw [if_neg (show ¬ uV l from fun hg => hse (hg.2 _ (List.getElem_mem hlt)).2)]
     have hsi : (pK l[k].sl : Int) ≠ 0 := by omega
     repeat
      (first
       | (apply aJ (hS); rfl; exact ak.refl _ _; exact enA; iterate 2 rfl) | (apply au; iterate 3 rfl) | (apply aj; iterate 3 rfl)
       | (apply aP; iterate 7 rfl) | (apply aS; iterate 4 rfl) | (apply aK; iterate 5 rfl)
       | (apply aA (b := true); (iterate 2 rfl); exact aG; iterate 2 rfl) | (apply aA (b := false); (iterate 2 rfl); exact aG; iterate 2 rfl)
       | (apply aX; (iterate 4 rfl); (focus (first | exact ⟨by decide, rfl⟩ | (refine ⟨by omega, ?_⟩; rw [Int.toNat_natCast]; assumption))); iterate 2 rfl)
       | (apply aV; rfl; rfl; rfl; intro _) | (apply aO; rfl; (focus (repeat first | exact .z | apply aY.s | apply aN.s)); iterate 4 rfl) | apply EL.nil
       | ((with_reducible apply EK.ah); apply EK.code) | (apply EC.cond_true; rfl) | (apply EC.cond_false; rfl)
       | (with_reducible first | apply EC.seq | apply EC.region | apply EC.skip | apply EC.exit | apply EC.ret | apply EK.aZ | apply EK.dS | apply EK.aI | apply EK.aH))
     exact EK.qN [] rfl rfl rfl (RL.cons Rf.sl0 (RL.cons Rf.same RL.nil)) (List.nil_sublist _) ⟨rfl, rfl⟩
 ·
  obtain rfl : i = l.length := by omega
  have htl : (l.take l.length).map acP = l.map acP := by rw [List.take_length]
  rw [List.take_length] at hnd hgd
  rw [if_pos (show uV l from ⟨hnd, hgd⟩), htl]
  refine EC.le (Le.freeze (pre := []) rfl) ?_
  simp only [List.nil_append]
  repeat
   (first
    | (apply au; iterate 3 rfl) | (apply aj; iterate 3 rfl) | (apply aA (b := false); (iterate 2 rfl); exact aG; iterate 2 rfl)
    | (apply aB; iterate 4 rfl) | apply EL.nil | ((with_reducible apply EK.ah); apply EK.code) | (apply EC.cond_false; rfl)
    | (with_reducible first | apply EC.seq | apply EC.region | apply EC.exit | apply EC.ret | apply EK.aZ | apply EK.aH))
  exact EK.qN [] rfl rfl rfl (RL.cons (Rf.fact List.mem_cons_self rfl) (RL.cons Rf.same RL.nil)) (List.nil_sublist _) ⟨rfl, rfl⟩
def Acc.empty (x : Acc) : Bool := decide (x.n = 0) && (x.w == zero32) && x.cd.isEmpty && x.sl.isEmpty
def Iq (p : Option (List UInt8)) (k : List UInt8) : Bool := match p with | none => true | some q => decide (uO q k < 0)
def slM : Option (List UInt8) → List Pr → Bool
 | _, [] => true
 | p, s :: r => !(s.2 == zero32) && Iq p s.1 && slM (some s.1) r
theorem yx (p : Option (List UInt8)) (s : Pr) (r : List Pr) : slM p (s :: r) = (!(s.2 == zero32) && Iq p s.1 && slM (some s.1) r) := rfl
def Acc.one (x : Acc) : Bool := slM none x.sl && decide (0 ≤ x.n) && decide ((x.cd.length : Int) ≤ 24576) && !x.empty
def prevK {α : Type} (f : α → List UInt8) (l : List α) : Nat → Option (List UInt8)
 | 0 => none
 | k + 1 => l[k]?.map f
theorem iZ {α : Type} {f : α → List UInt8} {l : List α} {i : Nat} (h : i < l.length) : prevK f l (i + 1) = some (f l[i]) := by
 simp [prevK, h]
def qF : Option (List UInt8) → List Acc → Bool
 | _, [] => true
 | p, x :: r => x.one && Iq p x.a && qF (some x.a) r
theorem Cm (p : Option (List UInt8)) (x : Acc) (r : List Acc) : qF p (x :: r) = (x.one && Iq p x.a && qF (some x.a) r) := rfl
end E
end Go.Proofs.YtiledgojbpmoiaaGreat
