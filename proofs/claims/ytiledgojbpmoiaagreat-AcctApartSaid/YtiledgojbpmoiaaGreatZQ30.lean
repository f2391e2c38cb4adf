/-
 Merged (wip/tools/merge.py): AA1, KecHash, KecDog, AL1, StrBytes, KecText, AL2, BGP, AAP, EAR.
 Conditions: none.
-/
import Derived.Test.YtiledgojbpmoiaaGreatZQ29
import Derived.Test.YtiledgojbpmoiaaGreatZQ14
import Derived.Test.YtiledgojbpmoiaaGreatZQ21
import Derived.Test.YtiledgojbpmoiaaGreatZQ2
import Derived.Lib.ConvBytes
import Derived.Test.YtiledgojbpmoiaaGreatZQ11
import Derived.Test.YtiledgojbpmoiaaGreatZQ25
import Derived.Test.YtiledgojbpmoiaaGreatZQ19
namespace Go.Proofs.YtiledgojbpmoiaaGreat
set_option linter.unusedVariables false
set_option maxRecDepth 20000
set_option maxHeartbeats 16000000
open Go.RowKit Mono Rlp
namespace E
theorem Af (l : List Pr) (hs : ∀ s ∈ l, s.1.length = 32 ∧ s.2.length = 32) (hlen : l.length ≤ 1000000) : ∃ (L : List D) (nd : Bool), Fn 60 [.sl 64 (l.map gq)] (· = .tpl [.sl 2 L, .v (.bool nd)]) ∧ (nd = true → (l.map (·.1)).Nodup ∧ L = (l.filterMap slP).map dPr) ∧ (nd = false → ¬ (l.map (·.1)).Nodup) := by
 have h := uJ l hs hlen
 by_cases hn : (l.map (·.1)).Nodup
 ·
  rw [if_pos hn] at h
  exact ⟨_, _, h, fun _ => ⟨hn, rfl⟩, fun h => (by cases h)⟩
 ·
  rw [if_neg hn] at h
  exact ⟨_, _, h, (fun h => by cases h), fun _ => hn⟩
theorem DU (l : List Acc) (hok : ∀ x ∈ l, x.ok) (hcd : ∀ x ∈ l, x.cd.length ≤ 1099511627776) (hlen : l.length ≤ 1000000) : (uV l ∧ Fn 61 [.sl 55 (l.map bM)] (· = .tpl [.sl 2 ((l.map acP).map dPr), .v (.int .i64 0)])) ∨ (¬ uV l ∧ Fn 61 [.sl 55 (l.map bM)] (· = .tpl [.sl 2 [], .v (.int .i64 1)])) := by
 have h := GU l hok hcd hlen
 by_cases hn : uV l
 ·
  rw [if_pos hn] at h
  exact .inl ⟨hn, h⟩
 ·
  rw [if_neg hn] at h
  exact .inr ⟨hn, h⟩
theorem Cj {x : Acc} {P : List UInt8 → Prop} (h1 : P x.a) (h2 : P x.cd) (h3 : ∀ s ∈ x.sl.map (·.1), P s) (h4 : (x.sl.map (·.1)).Nodup → ∀ u ∈ jv (x.sl.filterMap slP), P u) : ∀ u ∈ jO x, P u := fun u hu => by
 unfold jO at hu
 rcases List.mem_cons.1 hu with rfl | hu
 · exact h1
 rcases List.mem_cons.1 hu with rfl | hu
 · exact h2
 rcases List.mem_append.1 hu with hu | hu
 · exact h3 u hu
 ·
  split at hu
  ·
   rename_i hn
   exact h4 hn u hu
  · cases hu
def Ed (l : List Acc) (S : List Pr) (x : Nat × Bool × Value × List Pr) : Prop := x.1 ≤ l.length ∧ Srt x.2.2.2 ∧ x.2.2.2.length ≤ S.length + x.1 * 300000 ∧ (∀ y ∈ S, y ∈ x.2.2.2) ∧ (x.2.1 = true → ∀ j, (hj : j < l.length) → j < x.1 → ∀ u ∈ jO l[j], (hash u, u) ∈ x.2.2.2)
theorem Ed.step {l : List Acc} {S S1 S2 : List Pr} {i : Nat} {v v2 : Value} {b : Bool} (h : Ed l S (i, true, v, S1)) (hi : i < l.length) (hs : Srt S2) (hl : S2.length ≤ S1.length + 300000) (hi2 : ∀ y ∈ S1, y ∈ S2) (hb : b = true → ∀ u ∈ jO l[i], (hash u, u) ∈ S2) : Ed l S (i + 1, b, v2, S2) := by
 obtain ⟨_, _, h2, h3, h4⟩ := h
 dsimp only at h2 h3 h4
 refine ⟨hi, hs, ?_, fun y hy => hi2 y (h3 y hy), fun hb' j hj hji => ?_⟩
 ·
  show S2.length ≤ S.length + (i + 1) * 300000
  omega
 ·
  rcases Nat.lt_or_ge j i with h5 | h5
  · exact fun u hu => hi2 _ (h4 rfl j hj h5 u hu)
  ·
   have hji : j < i + 1 := hji
   obtain rfl : j = i := by omega
   exact hb hb'
def Wj (x : Acc) (S : List Pr) (y : Nat × Bool × Value × List Pr) : Prop := y.1 ≤ x.sl.length ∧ Srt y.2.2.2 ∧ y.2.2.2.length ≤ S.length + 2 + y.1 ∧ (∀ z ∈ S, z ∈ y.2.2.2) ∧ (y.2.1 = true → (hash x.a, x.a) ∈ y.2.2.2 ∧ (hash x.cd, x.cd) ∈ y.2.2.2 ∧ ∀ j, (hj : j < x.sl.length) → j < y.1 → (hash x.sl[j].1, x.sl[j].1) ∈ y.2.2.2)
theorem wJ (gs : Nat) (v : Value) (S : List Pr) (l : List Acc) (hs : Srt S) (hS : S.length ≤ 300000000) (hl : l.length ≤ 100) (hok : ∀ x ∈ l, x.ok) (hB : ∀ x ∈ l, x.cd.length ≤ 1099511627776 ∧ x.sl.length ≤ 1000) : FnM 19 [.v (ptr gs), .sl 55 (l.map bM)] [sdO gs v, sdR v S] (fun r os' => ∃ b v' S', sV (xC l) 31000000 S S' b ∧ r = .val (.v (.bool b)) ∧ os' = [sdO gs v', sdR v' S']) := by
 have hml : (l.map bM).length = l.length := List.length_map _
 refine FnM.walk 95 Tryz.func19 rfl Tryz.ntmps19 (by simp) fun X => ?_
 repeat
  (first
   | (apply aj; iterate 3 rfl) | apply EL.nil | ((with_reducible apply EK.ah); apply EK.code) | (with_reducible first | apply EC.seq | apply EC.region | apply EC.block))
 refine EC.loop (ι := {x : Nat × Bool × Value × List Pr // Ed l S x})
  (fun x => ⟨[(6, .val (.v (.int .i64 (x.1.1 : Int)))), (5, .val (.v (.bool x.1.2.1))), (0, .val (.v (ptr gs))), (1, .val (.sl 55 (l.map bM)))], [sdO gs x.1.2.2.1, sdR x.1.2.2.1 x.1.2.2.2], []⟩)
  (fun x => l.length - x.1.1) ⟨(0, true, v, S), Nat.zero_le _, hs, (by dsimp only; omega), fun _ h => h, fun _ j _ hj => absurd hj (Nat.not_lt_zero _)⟩ ?_ ?_
 · exact Le.kp
 rintro ⟨⟨i, ok, v1, S1⟩, hst⟩
 have hst' := hst
 obtain ⟨hi, hs1, hl1, hi1, ha1⟩ := hst'
 dsimp only at hi hs1 hl1 hi1 ha1 ⊢
 cases ok with
 | false =>
  have hfin : sV (xC l) 31000000 S S1 false := ⟨hs1, by omega, hi1, fun h => by cases h⟩
  by_cases hlt : i < l.length
  ·
   skip
   repeat
    (first
     | (apply au; iterate 3 rfl) | (apply aj; iterate 3 rfl) | (apply bV; iterate 4 rfl) | (apply jW; iterate 3 rfl)
     | (apply aA (b := true); (iterate 2 rfl); exact aG; iterate 2 rfl) | (apply aB; iterate 4 rfl) | apply EL.nil | ((with_reducible apply EK.ah); apply EK.code)
     | (apply EC.cond_true; rfl) | (apply EC.cond_false; rfl)
     | (with_reducible first | apply EC.seq | apply EC.region | apply EC.exit | apply EC.ret | apply EK.aZ | apply EK.aI | apply EK.aH))
   exact EK.fM [sdO gs v1, sdR v1 S1] rfl rfl (by (repeat first | exact List.nil_sublist _ | apply List.Sublist.cons_cons | apply List.Sublist.cons)) ⟨false, v1, S1, hfin, rfl, rfl⟩
  ·
   skip
   repeat
    (first
     | (apply fP; iterate 2 rfl) | (apply au; iterate 3 rfl) | (apply aj; iterate 3 rfl) | (apply bV; iterate 4 rfl) | (apply jW; iterate 3 rfl)
     | (apply aA (b := false); (iterate 2 rfl); exact aG; iterate 2 rfl) | (apply aB; iterate 4 rfl) | apply EL.nil | ((with_reducible apply EK.ah); apply EK.code)
     | (apply EC.cond_true; rfl) | (apply EC.cond_false; rfl)
     | (with_reducible first | apply EC.seq | apply EC.region | apply EC.exit | apply EC.ret | apply EK.aZ | apply EK.aI | apply EK.aH))
   exact EK.fM [sdO gs v1, sdR v1 S1] rfl rfl (by (repeat first | exact List.nil_sublist _ | apply List.Sublist.cons_cons | apply List.Sublist.cons)) ⟨false, v1, S1, hfin, rfl, rfl⟩
 | true =>
  by_cases hlt : i < l.length
  ·
   have hd : (l.map bM)[i]? = some (.tup [.arr 20 l[i].a, .v (.int .i64 l[i].n), .arr 32 l[i].w, .bs l[i].cd, .sl 64 (l[i].sl.map gq)]) := by rw [List.getElem?_map, List.getElem?_eq_getElem hlt]; rfl
   have hx := hok _ (List.getElem_mem hlt)
   obtain ⟨hcd, hsl⟩ := hB _ (List.getElem_mem hlt)
   have hstep := @Ed.step l S S1
   obtain ⟨L, nd, hSP, hnd1, hnd0⟩ := Af l[i].sl hx.sl hx.len
   generalize hxe : l[i] = x at hd hx hcd hsl hSP hnd1 hnd0
   have hA := C9 gs v1 S1 x.a hs1 (by omega) (by have := hx.a; omega)
   have hp1 := nN (hash x.a, x.a) S1 hs1
   have hp2 := kH (hash x.a, x.a) S1
   have hp3 := nM (hash x.a, x.a) S1
   have hp4 := vO (hash x.a, x.a) S1
   generalize fO (hash x.a, x.a) S1 = S2 at hA hp1 hp2 hp3 hp4
   have hsm : (x.sl.map gq).length = x.sl.length := List.length_map _
   repeat
    (first
     | (apply au; iterate 3 rfl) | (apply aP; iterate 7 rfl) | (apply aK; iterate 5 rfl) | (apply bV; iterate 4 rfl)
     | (apply aA (b := true); (iterate 2 rfl); exact aG; iterate 2 rfl) | (apply aB; iterate 4 rfl)
     | (apply aX; (iterate 4 rfl); (focus (first | exact ⟨by decide, rfl⟩ | (refine ⟨by omega, ?_⟩; rw [Int.toNat_natCast]; assumption))); iterate 2 rfl)
     | (apply aV; rfl; rfl; rfl; intro _) | (apply aO; rfl; (focus (repeat first | exact .z | apply aY.s | apply aN.s)); iterate 4 rfl) | apply EL.nil
     | ((with_reducible apply EK.ah); apply EK.code) | (apply EC.cond_true; rfl) | (with_reducible first | apply EC.seq | apply EC.region | apply EC.skip | apply EC.block))
   refine EL.le (Le.pin (p := 7) (pre := []) rfl rfl) ?_
   simp only [List.nil_append]
   repeat
    (first
     | (apply lY yu; iterate 6 rfl))
   refine fH hA [] [] rfl rfl (ak.refl _ _) (by intro _ _; simp [go_sem]) rfl rfl ?_
   rintro _ _ ⟨v2, rfl, rfl⟩
   simp only [List.cons_append, List.nil_append]
   cases hb1 : okN (hash x.a, x.a) S1 with
   | false =>
    repeat
     (first
      | (apply fP; iterate 2 rfl) | (apply au; iterate 3 rfl) | (apply aj; iterate 3 rfl) | (apply bV; iterate 4 rfl) | apply EL.nil
      | ((with_reducible apply EK.ah); apply EK.code) | (with_reducible first | apply EC.seq | apply EC.region | apply EC.block))
    refine EC.loop (ι := Unit)
     (fun _ => ⟨[(8, .val (.v (.int .i64 0))), (6, .val (.v (.int .i64 (i : Int)))), (5, .val (.v (.bool false))), (0, .val (.v (ptr gs))), (1, .val (.sl 55 (l.map bM)))], [sdO gs v2, sdR v2 S2], []⟩)
     (fun _ => 0) () ?_ ?_
    · exact Le.kp
    rintro ⟨⟩
    have hag : Ed l S (i + 1, false, v2, S2) := hstep hst hlt hp1 (by omega) hp3 fun h => by cases h
    by_cases h0 : 0 < x.sl.length
    ·
     skip
     repeat
      (first
       | (apply fP; iterate 2 rfl) | (apply aJ (hSP); rfl; exact ak.refl _ _; exact enA; iterate 2 rfl) | (apply au; iterate 3 rfl)
       | (apply aj; iterate 3 rfl) | (apply aP; iterate 7 rfl) | (apply aS; iterate 4 rfl) | (apply aK; iterate 5 rfl)
       | (apply bV; iterate 4 rfl) | (apply aA (b := true); (iterate 2 rfl); exact aG; iterate 2 rfl)
       | (apply eU; (iterate 3 rfl); (focus omega); (focus omega); iterate 2 rfl) | (apply aB; iterate 4 rfl)
       | (apply aX; (iterate 4 rfl); (focus (first | exact ⟨by decide, rfl⟩ | (refine ⟨by omega, ?_⟩; rw [Int.toNat_natCast]; assumption))); iterate 2 rfl) | apply EL.nil
       | ((with_reducible apply EK.ah); apply EK.code) | (apply EC.cond_false; rfl)
       | (with_reducible first | apply EC.seq | apply EC.region | apply EC.skip | apply EC.exit | apply EK.aF | apply EK.aZ | apply EK.aH))
     refine EK.again ⟨(i + 1, false, v2, S2), hag⟩ (by dsimp only; omega) ?_
     simp only [Int.natCast_add]
     exact Le.kp
    ·
     have hc0 : iG .lss 0 ((x.sl.map gq).length : Int) = some false := by
      rw [hsm, show x.sl.length = 0 by omega]
      rfl
     repeat
      (first
       | (apply fP; iterate 2 rfl) | (apply aJ (hSP); rfl; exact ak.refl _ _; exact enA; iterate 2 rfl)
       | (apply aA (b := false); (iterate 2 rfl); exact hc0; iterate 2 rfl) | (apply au; iterate 3 rfl) | (apply aj; iterate 3 rfl)
       | (apply aP; iterate 7 rfl) | (apply aS; iterate 4 rfl) | (apply aK; iterate 5 rfl) | (apply bV; iterate 4 rfl)
       | (apply eU; (iterate 3 rfl); (focus omega); (focus omega); iterate 2 rfl) | (apply aB; iterate 4 rfl)
       | (apply aX; (iterate 4 rfl); (focus (first | exact ⟨by decide, rfl⟩ | (refine ⟨by omega, ?_⟩; rw [Int.toNat_natCast]; assumption))); iterate 2 rfl) | apply EL.nil
       | ((with_reducible apply EK.ah); apply EK.code) | (apply EC.cond_false; rfl)
       | (with_reducible first | apply EC.seq | apply EC.region | apply EC.skip | apply EC.exit | apply EK.aF | apply EK.aZ | apply EK.aH))
     refine EK.again ⟨(i + 1, false, v2, S2), hag⟩ (by dsimp only; omega) ?_
     simp only [Int.natCast_add]
     exact Le.kp
   | true =>
    have hin1 := hp4 hb1
    have hA2 := C9 gs v2 S2 x.cd hp1 (by omega) hcd
    have hq1 := nN (hash x.cd, x.cd) S2 hp1
    have hq2 := kH (hash x.cd, x.cd) S2
    have hq3 := nM (hash x.cd, x.cd) S2
    have hq4 := vO (hash x.cd, x.cd) S2
    generalize fO (hash x.cd, x.cd) S2 = S3 at hA2 hq1 hq2 hq3 hq4
    generalize okN (hash x.cd, x.cd) S2 = b2 at hA2 hq4
    repeat
     (first
      | (apply au; iterate 3 rfl) | (apply aP; iterate 7 rfl) | (apply aK; iterate 5 rfl)
      | (apply aX; (iterate 4 rfl); (focus (first | exact ⟨by decide, rfl⟩ | (refine ⟨by omega, ?_⟩; rw [Int.toNat_natCast]; assumption))); iterate 2 rfl))
    refine fH hA2 [] [] rfl rfl (ak.refl _ _) (by intro _ _; simp [go_sem]) rfl rfl ?_
    rintro _ _ ⟨v3, rfl, rfl⟩
    simp only [List.cons_append, List.nil_append]
    repeat
     (first
      | (apply aj; iterate 3 rfl) | (apply bV; iterate 4 rfl) | apply EL.nil | ((with_reducible apply EK.ah); apply EK.code)
      | (with_reducible first | apply EC.seq | apply EC.region | apply EC.block))
    refine EC.loop (ι := {y : Nat × Bool × Value × List Pr // Wj x S1 y})
     (fun y => ⟨[(8, .val (.v (.int .i64 (y.1.1 : Int)))), (6, .val (.v (.int .i64 (i : Int)))), (5, .val (.v (.bool y.1.2.1))), (0, .val (.v (ptr gs))), (1, .val (.sl 55 (l.map bM)))], [sdO gs y.1.2.2.1, sdR y.1.2.2.1 y.1.2.2.2], []⟩)
     (fun y => x.sl.length - y.1.1) ⟨(0, b2, v3, S3), Nat.zero_le _, hq1, by dsimp only; omega, fun z hz => hq3 _ (hp3 _ hz), fun h => ⟨hq3 _ hin1, hq4 h, fun j _ hj => absurd hj (Nat.not_lt_zero _)⟩⟩ ?_ ?_
    · exact Le.kp
    rintro ⟨⟨k, ok, v4, S4⟩, hk, hs4, hl4, hi4, ha4⟩
    dsimp only at hk hs4 hl4 hi4 ha4 ⊢
    cases ok with
    | false =>
     have hag : Ed l S (i + 1, false, v4, S4) := hstep hst hlt hs4 (by omega) hi4 fun h => by cases h
     by_cases hkl : k < x.sl.length
     ·
      skip
      repeat
       (first
        | (apply fP; iterate 2 rfl) | (apply aJ (hSP); rfl; exact ak.refl _ _; exact enA; iterate 2 rfl) | (apply au; iterate 3 rfl)
        | (apply aj; iterate 3 rfl) | (apply aP; iterate 7 rfl) | (apply aS; iterate 4 rfl) | (apply aK; iterate 5 rfl)
        | (apply bV; iterate 4 rfl) | (apply aA (b := true); (iterate 2 rfl); exact aG; iterate 2 rfl)
        | (apply eU; (iterate 3 rfl); (focus omega); (focus omega); iterate 2 rfl) | (apply aB; iterate 4 rfl)
        | (apply aX; (iterate 4 rfl); (focus (first | exact ⟨by decide, rfl⟩ | (refine ⟨by omega, ?_⟩; rw [Int.toNat_natCast]; assumption))); iterate 2 rfl) | apply EL.nil
        | ((with_reducible apply EK.ah); apply EK.code) | (apply EC.cond_false; rfl)
        | (with_reducible first | apply EC.seq | apply EC.region | apply EC.skip | apply EC.exit | apply EK.aF | apply EK.aZ | apply EK.aH))
      refine EK.again ⟨(i + 1, false, v4, S4), hag⟩ (by dsimp only; omega) ?_
      simp only [Int.natCast_add]
      exact Le.kp
     ·
      skip
      repeat
       (first
        | (apply fP; iterate 2 rfl) | (apply aJ (hSP); rfl; exact ak.refl _ _; exact enA; iterate 2 rfl) | (apply au; iterate 3 rfl)
        | (apply aj; iterate 3 rfl) | (apply aP; iterate 7 rfl) | (apply aS; iterate 4 rfl) | (apply aK; iterate 5 rfl)
        | (apply bV; iterate 4 rfl) | (apply aA (b := false); (iterate 2 rfl); exact aG; iterate 2 rfl)
        | (apply eU; (iterate 3 rfl); (focus omega); (focus omega); iterate 2 rfl) | (apply aB; iterate 4 rfl)
        | (apply aX; (iterate 4 rfl); (focus (first | exact ⟨by decide, rfl⟩ | (refine ⟨by omega, ?_⟩; rw [Int.toNat_natCast]; assumption))); iterate 2 rfl) | apply EL.nil
        | ((with_reducible apply EK.ah); apply EK.code) | (apply EC.cond_false; rfl)
        | (with_reducible first | apply EC.seq | apply EC.region | apply EC.skip | apply EC.exit | apply EK.aF | apply EK.aZ | apply EK.aH))
      refine EK.again ⟨(i + 1, false, v4, S4), hag⟩ (by dsimp only; omega) ?_
      simp only [Int.natCast_add]
      exact Le.kp
    | true =>
     obtain ⟨ha5, ha6, ha7⟩ := ha4 rfl
     by_cases hkl : k < x.sl.length
     ·
      have hdk : (x.sl.map gq)[k]? = some (.tup [.arr 32 x.sl[k].1, .arr 32 x.sl[k].2]) := by rw [List.getElem?_map, List.getElem?_eq_getElem hkl]; rfl
      have hk1 := (hx.sl _ (List.getElem_mem hkl)).1
      have hA5 := C9 gs v4 S4 x.sl[k].1 hs4 (by omega) (by omega)
      have hr1 := nN (hash x.sl[k].1, x.sl[k].1) S4 hs4
      have hr2 := kH (hash x.sl[k].1, x.sl[k].1) S4
      have hr3 := nM (hash x.sl[k].1, x.sl[k].1) S4
      have hr4 := vO (hash x.sl[k].1, x.sl[k].1) S4
      generalize fO (hash x.sl[k].1, x.sl[k].1) S4 = S5 at hA5 hr1 hr2 hr3 hr4
      generalize okN (hash x.sl[k].1, x.sl[k].1) S4 = b5 at hA5 hr4
      have hag : ∀ v5, Wj x S1 (k + 1, b5, v5, S5) := fun v5 => ⟨hkl, hr1, by dsimp only; omega, fun z hz => hr3 _ (hi4 z hz), fun hb => ⟨hr3 _ ha5, hr3 _ ha6, fun j hj hjk => by
       rcases Nat.lt_or_ge j k with h5 | h5
       · exact hr3 _ (ha7 j hj h5)
       ·
        have hjk : j < k + 1 := hjk
        obtain rfl : j = k := by omega
        exact hr4 hb⟩⟩
      generalize x.sl[k] = s at hdk hk1 hA5
      repeat
       (first
        | (apply au; iterate 3 rfl) | (apply aP; iterate 7 rfl) | (apply aK; iterate 5 rfl) | (apply bV; iterate 4 rfl)
        | (apply aA (b := true); (iterate 2 rfl); exact aG; iterate 2 rfl) | (apply aB; iterate 4 rfl)
        | (apply aX; (iterate 4 rfl); (focus (first | exact ⟨by decide, rfl⟩ | (refine ⟨by omega, ?_⟩; rw [Int.toNat_natCast]; assumption))); iterate 2 rfl)
        | (apply aV; rfl; rfl; rfl; intro _) | (apply aO; rfl; (focus (repeat first | exact .z | apply aY.s | apply aN.s)); iterate 4 rfl) | apply EL.nil
        | ((with_reducible apply EK.ah); apply EK.code) | (apply EC.cond_true; rfl) | (with_reducible first | apply EC.seq | apply EC.region | apply EC.skip | apply EC.block))
      refine EL.le (Le.pin (p := 9) (pre := []) rfl rfl) ?_
      simp only [List.nil_append]
      repeat
       (first
        | (apply lY jQ; iterate 6 rfl))
      refine fH hA5 [] [] rfl rfl (ak.refl _ _) (by intro _ _; simp [go_sem]) rfl rfl ?_
      rintro _ _ ⟨v5, rfl, rfl⟩
      simp only [List.cons_append, List.nil_append]
      repeat
       (first
        | (apply au; iterate 3 rfl) | (apply aj; iterate 3 rfl) | (apply eU; (iterate 3 rfl); (focus omega); (focus omega); iterate 2 rfl) | apply EL.nil
        | ((with_reducible apply EK.ah); apply EK.code) | (with_reducible first | apply EC.region | apply EK.aF))
      refine EK.again ⟨(k + 1, b5, v5, S5), hag v5⟩ (by dsimp only; omega) ?_
      simp only [Int.natCast_add]
      exact Le.kp
     ·
      have hke : k = x.sl.length := by omega
      have hkeys : ∀ s ∈ x.sl.map (·.1), (hash s, s) ∈ S4 := fun s hsm => by
       obtain ⟨z, hz, rfl⟩ := List.mem_map.1 hsm
       obtain ⟨j, hj, rfl⟩ := List.getElem_of_mem hz
       exact ha7 j hj (by omega)
      cases nd with
      | false =>
       have hag : Ed l S (i + 1, true, v4, S4) := hstep hst hlt hs4 (by omega) hi4 fun _ => by
        rw [hxe]
        exact Cj ha5 ha6 hkeys fun hn => absurd hn (hnd0 rfl)
       repeat
        (first
         | (apply fP; iterate 2 rfl) | (apply aJ (hSP); rfl; exact ak.refl _ _; exact enA; iterate 2 rfl) | (apply au; iterate 3 rfl)
         | (apply aj; iterate 3 rfl) | (apply aP; iterate 7 rfl) | (apply aS; iterate 4 rfl) | (apply aK; iterate 5 rfl)
         | (apply bV; iterate 4 rfl) | (apply aA (b := false); (iterate 2 rfl); exact aG; iterate 2 rfl)
         | (apply eU; (iterate 3 rfl); (focus omega); (focus omega); iterate 2 rfl) | (apply aB; iterate 4 rfl)
         | (apply aX; (iterate 4 rfl); (focus (first | exact ⟨by decide, rfl⟩ | (refine ⟨by omega, ?_⟩; rw [Int.toNat_natCast]; assumption))); iterate 2 rfl) | apply EL.nil
         | ((with_reducible apply EK.ah); apply EK.code) | (apply EC.cond_false; rfl)
         | (with_reducible first | apply EC.seq | apply EC.region | apply EC.skip | apply EC.exit | apply EK.aF | apply EK.aZ | apply EK.aH))
       refine EK.again ⟨(i + 1, true, v4, S4), hag⟩ (by dsimp only; omega) ?_
       simp only [Int.natCast_add]
       exact Le.kp
      | true =>
       obtain ⟨hnd, rfl⟩ := hnd1 rfl
       have he := zC hs4 hx.sl (by omega) hnd hkeys
       have hT := JQ gs v4 S4 (x.sl.filterMap slP) hs4 (by omega) he
       have hfl : (x.sl.filterMap slP).length ≤ 1000 := Nat.le_trans (List.length_filterMap_le _ _) hsl
       have hag : ∀ b v5 S5, sV (jv (x.sl.filterMap slP)) (2 + 200 * (x.sl.filterMap slP).length) S4 S5 b → Ed l S (i + 1, b, v5, S5) := fun b v5 S5 h => hstep hst hlt h.1 (by have := h.2.1; omega) (fun z hz => h.2.2.1 _ (hi4 z hz)) fun hb => by
        rw [hxe]
        exact Cj (h.2.2.1 _ ha5) (h.2.2.1 _ ha6) (fun s hs => h.2.2.1 _ (hkeys s hs)) fun _ => h.2.2.2 hb
       repeat
        (first
         | (apply fP; iterate 2 rfl) | (apply aJ (hSP); rfl; exact ak.refl _ _; exact enA; iterate 2 rfl) | (apply au; iterate 3 rfl)
         | (apply aj; iterate 3 rfl) | (apply aP; iterate 7 rfl) | (apply aS; iterate 4 rfl) | (apply aK; iterate 5 rfl)
         | (apply bV; iterate 4 rfl) | (apply aA (b := false); (iterate 2 rfl); exact aG; iterate 2 rfl) | (apply aB; iterate 4 rfl)
         | (apply aX; (iterate 4 rfl); (focus (first | exact ⟨by decide, rfl⟩ | (refine ⟨by omega, ?_⟩; rw [Int.toNat_natCast]; assumption))); iterate 2 rfl) | apply EL.nil
         | ((with_reducible apply EK.ah); apply EK.code) | (apply EC.cond_true; rfl) | (apply EC.cond_false; rfl)
         | (with_reducible first | apply EC.seq | apply EC.region | apply EC.exit | apply EK.aZ | apply EK.aH))
       refine fH hT [] [] rfl rfl (ak.refl _ _) (by intro _ _; simp [go_sem]) rfl rfl ?_
       rintro _ _ ⟨b, v5, S5, hsn, rfl, rfl⟩
       simp only [List.cons_append, List.nil_append]
       repeat
        (first
         | (apply au; iterate 3 rfl) | (apply aj; iterate 3 rfl) | (apply eU; (iterate 3 rfl); (focus omega); (focus omega); iterate 2 rfl) | apply EL.nil
         | ((with_reducible apply EK.ah); apply EK.code) | (with_reducible first | apply EC.region | apply EK.aF))
       refine EK.again ⟨(i + 1, b, v5, S5), hag b v5 S5 hsn⟩ (by dsimp only; omega) ?_
       simp only [Int.natCast_add]
       exact Le.kp
  ·
   have hie : i = l.length := by omega
   have hall : ∀ x ∈ l, ∀ u ∈ jO x, (hash u, u) ∈ S1 := fun x hx u hu => by
    obtain ⟨j, hj, rfl⟩ := List.getElem_of_mem hx
    exact ha1 rfl j hj (by omega) u hu
   rcases DU l hok (fun x hx => (hB x hx).1) (by omega) with ⟨hg, hP⟩ | ⟨hg, hP⟩
   ·
    have he := BZ hs1 hok (by omega) hg.1 fun x hx => hall x hx x.a (by unfold jO; exact List.mem_cons_self)
    have hT := JQ gs v1 S1 (l.map acP) hs1 (by omega) he
    have hlm : (l.map acP).length = l.length := List.length_map _
    have hfin : ∀ b S5, sV (jv (l.map acP)) (2 + 200 * (l.map acP).length) S1 S5 b → sV (xC l) 31000000 S S5 b := fun b S5 h => ⟨h.1, by have := h.2.1; omega, fun z hz => h.2.2.1 _ (hi1 z hz), fun hb u hu => by
     unfold xC at hu
     rw [if_pos hg] at hu
     rcases List.mem_append.1 hu with hu | hu
     ·
      obtain ⟨x, hx, hu⟩ := List.mem_flatMap.1 hu
      exact h.2.2.1 _ (hall x hx u hu)
     · exact h.2.2.2 hb u hu⟩
    repeat
     (first
      | (apply fP; iterate 2 rfl) | (apply aJ (hP); rfl; exact ak.refl _ _; exact enA; iterate 2 rfl) | (apply au; iterate 3 rfl)
      | (apply aj; iterate 3 rfl) | (apply aS; iterate 4 rfl) | (apply bV; iterate 4 rfl) | (apply jW; iterate 3 rfl)
      | (apply aA (b := false); (iterate 2 rfl); exact aG; iterate 2 rfl) | (apply aB; iterate 4 rfl) | apply EL.nil | ((with_reducible apply EK.ah); apply EK.code)
      | (apply EC.cond_false; rfl) | (with_reducible first | apply EC.seq | apply EC.region | apply EC.skip | apply EC.exit | apply EK.aZ | apply EK.aH))
    refine fH hT [] [] rfl rfl (ak.refl _ _) (by intro _ _; simp [go_sem]) rfl rfl ?_
    rintro _ _ ⟨b, v5, S5, hsn, rfl, rfl⟩
    simp only [List.cons_append, List.nil_append]
    repeat
     (first
      | (apply aj; iterate 3 rfl) | (apply bV; iterate 4 rfl) | apply EL.nil | ((with_reducible apply EK.ah); apply EK.code) | (with_reducible apply EC.ret))
    exact EK.fM [sdO gs v5, sdR v5 S5] rfl rfl (by (repeat first | exact List.nil_sublist _ | apply List.Sublist.cons_cons | apply List.Sublist.cons)) ⟨b, v5, S5, hfin b S5 hsn, rfl, rfl⟩
   ·
    skip
    repeat
     (first
      | (apply fP; iterate 2 rfl) | (apply aJ (hP); rfl; exact ak.refl _ _; exact enA; iterate 2 rfl) | (apply au; iterate 3 rfl)
      | (apply aj; iterate 3 rfl) | (apply aS; iterate 4 rfl) | (apply bV; iterate 4 rfl) | (apply jW; iterate 3 rfl)
      | (apply aA (b := true); (iterate 2 rfl); exact aG; iterate 2 rfl) | (apply aA (b := false); (iterate 2 rfl); exact aG; iterate 2 rfl)
      | (apply aB; iterate 4 rfl) | apply EL.nil | ((with_reducible apply EK.ah); apply EK.code) | (apply EC.cond_false; rfl)
      | (with_reducible first | apply EC.seq | apply EC.region | apply EC.skip | apply EC.exit | apply EC.ret | apply EK.aZ | apply EK.aH))
    exact EK.fM [sdO gs v1, sdR v1 S1] rfl rfl (by (repeat first | exact List.nil_sublist _ | apply List.Sublist.cons_cons | apply List.Sublist.cons)) ⟨true, v1, S1, ⟨hs1, by omega, hi1, fun _ u hu => by
     unfold xC at hu
     rw [if_neg hg, List.append_nil] at hu
     obtain ⟨x, hx, hu⟩ := List.mem_flatMap.1 hu
     exact hall x hx u hu⟩, rfl, rfl⟩
end E
end Go.Proofs.YtiledgojbpmoiaaGreat
namespace Go.Proofs.YtiledgojbpmoiaaGreat.Kec
def ofN (n : Nat) : St := fun k => BitVec.ofNat 64 (n >>> (64 * k))
theorem chain (S : List Nat) (h : ∀ i, i < 24 → ∀ k, k < 25 → round (ofN (S.getD i 0)) (rc i) k = ofN (S.getD (i + 1) 0) k) : Same (perm (ofN (S.getD 0 0)) 24) (ofN (S.getD 24 0)) := by
 have : ∀ i, i ≤ 24 → Same (perm (ofN (S.getD 0 0)) i) (ofN (S.getD i 0)) := by
  intro i
  induction i with
  | zero => exact fun _ => Same.refl _
  | succ i ih => exact fun hi => (yF (ih (by omega)) (rc i)).trans (h i (by omega))
 exact this 24 (by omega)
end Go.Proofs.YtiledgojbpmoiaaGreat.Kec
namespace Go.Proofs.YtiledgojbpmoiaaGreat.Kec
end Go.Proofs.YtiledgojbpmoiaaGreat.Kec
namespace Go.Proofs.YtiledgojbpmoiaaGreat
set_option linter.unusedVariables false
open Go.RowKit Mono Rlp
namespace E

end E
end Go.Proofs.YtiledgojbpmoiaaGreat
namespace Go.Proofs.YtiledgojbpmoiaaGreat
set_option linter.unusedVariables false
open Go.RowKit Mono
def digit (n : Nat) : UInt8 := [48, 49, 50, 51, 52, 53, 54, 55, 56, 57, 97, 98, 99, 100, 101, 102].getD n 0
def text (l : List UInt8) : List UInt8 := [48, 120] ++ l.flatMap fun b => [digit (b.toNat / 16), digit (b.toNat % 16)]
end Go.Proofs.YtiledgojbpmoiaaGreat
namespace Go.Proofs.YtiledgojbpmoiaaGreat
set_option linter.unusedVariables false
open Go.RowKit Mono Rlp
namespace E
theorem Qe {n : Int} {m : Nat} (h0 : 0 ≤ n) (hm : 0 < m) : Bin .rem 3 (.v (.int .i64 n)) (.v (.int .i64 (m : Int))) (.int .i64 ((n.toNat % m : Nat) : Int)) := by
 refine ⟨rfl, fun ok w p q hp hq => ?_⟩
 obtain ⟨_, rfl⟩ := bf.1 hp
 obtain ⟨_, rfl⟩ := bf.1 hq
 refine ⟨fun x y => by simp [eqGuard, go_sem], ?_⟩
 have ht : n.tmod (m : Int) = ((n.toNat % m : Nat) : Int) := by
  obtain ⟨k, rfl⟩ := Int.eq_ofNat_of_zero_le h0
  rfl
 have hne : m ≠ 0 := by omega
 simp only [binOp, Op.intDiv, ht]
 simp [hne]
theorem xH {p k : List UInt8} (h : Iq (some p) k = true) : p < k := by
 have h : decide (uO p k < 0) = true := h
 rw [DX] at h
 simpa using h
theorem N7 : ∀ (l : List Pr) (p : Option (List UInt8)), slM p l = true → (∀ q, p = some q → ∀ s ∈ l, q < s.1) ∧ (l.map (·.1)).Pairwise (· < ·)
 | [], p, _ => ⟨fun q _ s hs => by simp at hs, .nil⟩
 | s :: l, p, h => by
  rw [yx, Bool.and_eq_true, Bool.and_eq_true] at h
  obtain ⟨⟨_, h1⟩, h2⟩ := h
  obtain ⟨h3, h4⟩ := N7 l (some s.1) h2
  refine ⟨fun q hq t ht => ?_, ?_⟩
  ·
   subst hq
   rcases List.mem_cons.1 ht with rfl | ht
   · exact xH h1
   · exact List.lt_trans (xH h1) (h3 _ rfl t ht)
  ·
   rw [List.map_cons]
   refine List.pairwise_cons.2 ⟨fun k hk => ?_, h4⟩
   obtain ⟨t, ht, rfl⟩ := List.mem_map.1 hk
   exact h3 _ rfl t ht
theorem uU : ∀ (l : List Acc) (p : Option (List UInt8)), qF p l = true → (∀ q, p = some q → ∀ x ∈ l, q < x.a) ∧ (l.map (·.a)).Pairwise (· < ·) ∧ ∀ x ∈ l, x.one = true
 | [], p, _ => ⟨fun q _ s hs => by simp at hs, .nil, fun x hx => by simp at hx⟩
 | x :: l, p, h => by
  rw [Cm, Bool.and_eq_true, Bool.and_eq_true] at h
  obtain ⟨⟨h0, h1⟩, h2⟩ := h
  obtain ⟨h3, h4, h5⟩ := uU l (some x.a) h2
  refine ⟨fun q hq t ht => ?_, ?_, fun t ht => ?_⟩
  ·
   subst hq
   rcases List.mem_cons.1 ht with rfl | ht
   · exact xH h1
   · exact List.lt_trans (xH h1) (h3 _ rfl t ht)
  ·
   rw [List.map_cons]
   refine List.pairwise_cons.2 ⟨fun k hk => ?_, h4⟩
   obtain ⟨t, ht, rfl⟩ := List.mem_map.1 hk
   exact h3 _ rfl t ht
  ·
   rcases List.mem_cons.1 ht with rfl | ht
   · exact h0
   · exact h5 t ht
theorem yP {l : List (List UInt8)} (h : l.Pairwise (· < ·)) : l.Nodup := h.imp fun {a b} hab e => by
 subst e
 exact List.lt_irrefl a hab
theorem sJ {x : Acc} (h : x.one = true) : (x.sl.map (·.1)).Nodup ∧ 0 ≤ x.n := by
 unfold Acc.one at h
 rw [Bool.and_eq_true, Bool.and_eq_true, Bool.and_eq_true] at h
 obtain ⟨⟨⟨h1, h2⟩, _⟩, _⟩ := h
 exact ⟨yP (N7 _ _ h1).2, by simpa using h2⟩
theorem Jv {S : List Pr} {l : List Acc} (hok : ∀ x ∈ l, x.ok) (hl : l.length ≤ 20) (hs : ∀ x ∈ l, x.sl.length ≤ 20) (hm : qF none l = true) (h : ∀ u ∈ xC l, (hash u, u) ∈ S) : Cl S l := by
 obtain ⟨_, h1, h2⟩ := uU l none hm
 exact ⟨hok, by omega, fun x hx => by have := hs x hx; omega, fun x hx => (sJ (h2 x hx)).2, yP h1, fun x hx => (sJ (h2 x hx)).1, h⟩
theorem uw {α β : Type} (f : α → β) {l : List α} {k : Nat} (hk : k < l.length) {z : α} (h : f z = f l[k]) : (l.set k z).map f = l.map f := by
 have h2 : (l.map f)[k]'(by simpa using hk) = f l[k] := List.getElem_map f
 rw [List.map_set, h, ← h2, List.set_getElem_self]
theorem mG {α : Type} {P : α → Prop} {l : List α} {k : Nat} {z : α} (h : ∀ x ∈ l, P x) (hz : P z) : ∀ x ∈ l.set k z, P x := fun x hx => by
 rcases List.mem_or_eq_of_mem_set hx with hx | rfl
 · exact h x hx
 · exact hz
theorem Qa {S : List Pr} {l : List Acc} {k : Nat} (hk : k < l.length) {z : Acc} (hok : ∀ x ∈ l, x.ok) (hl : l.length ≤ 20) (hs : ∀ x ∈ l, x.sl.length ≤ 20) (hm : qF none l = true) (hz : z.ok) (hzs : z.sl.length ≤ 21) (hzn : 0 ≤ z.n) (hza : z.a = l[k].a) (hzk : (z.sl.map (·.1)).Nodup) (h : ∀ u ∈ xC (l.set k z), (hash u, u) ∈ S) : Cl S (l.set k z) := by
 obtain ⟨_, h1, h2⟩ := uU l none hm
 refine ⟨mG hok hz, by rw [List.length_set]; omega, mG (fun x hx => by have := hs x hx; omega) (by omega), mG (fun x hx => (sJ (h2 x hx)).2) hzn, ?_, mG (fun x hx => (sJ (h2 x hx)).1) hzk, h⟩
 rw [uw (·.a) hk hza]
 exact yP h1
theorem AB {x : Acc} {q v : List UInt8} (h : (x.sl.map (·.1)).Nodup) (hq : ∀ s ∈ x.sl, s.1 ≠ q) : ((x.sl ++ [(q, v)]).map (·.1)).Nodup := by
 rw [List.map_append]
 refine List.nodup_append.2 ⟨h, List.nodup_cons.2 ⟨fun h => (by cases h), List.nodup_nil⟩, fun a ha b hb => ?_⟩
 obtain ⟨s, hs, rfl⟩ := List.mem_map.1 ha
 have : b = q := by simpa using hb
 subst this
 exact hq s hs
theorem Et {sl : List Pr} {q : List UInt8} (h : (sl.map (·.1)).Nodup) (h' : ((sl ++ [(q, zero32)]).map (·.1)).Nodup) : iR (sl ++ [(q, zero32)]) = iR sl := by
 unfold iR
 rw [if_pos h, if_pos h', List.filterMap_append]
 have : slP (q, zero32) = none := if_pos rfl
 rw [List.filterMap_cons_none this, List.filterMap_nil, List.append_nil]
theorem JE {S : List Pr} {l : List Acc} {k : Nat} (hS : Srt S) (hk : k < l.length) {q : List UInt8} (h : Cl S l) (h' : Cl S (l.set k { l[k] with sl := l[k].sl ++ [(q, zero32)] })) : jB l = jB (l.set k { l[k] with sl := l[k].sl ++ [(q, zero32)] }) := by
 have hp : ∀ {m : List Acc}, Cl S m → prE m [] = 0 := fun h => (FC _).2 (h.good hS).1
 refine Io ?_ (hp h) (hp h')
 have hz : acP { l[k] with sl := l[k].sl ++ [(q, zero32)] } = acP l[k] := by
  have h1 := h.ks _ (List.getElem_mem hk)
  have h2 := h'.ks { l[k] with sl := l[k].sl ++ [(q, zero32)] } (List.mem_iff_getElem.2 ⟨k, by rw [List.length_set]; exact hk, by simp⟩)
  unfold acP
  dsimp only
  rw [Et h1 h2]
 exact (uw acP hk hz).symm
def swp (l : List Acc) (k : Nat) (hk : k < l.length) : List Acc := (l.set 0 l[k]).set k (l[0]'(by omega))
theorem pI (l : List Acc) (k : Nat) (hk : k < l.length) : (swp l k hk).Perm l := by
 unfold swp
 cases l with
 | nil => simp at hk
 | cons x l =>
  cases k with
  | zero => simp
  | succ k =>
   have hk2 : k < l.length := by simpa using hk
   simp only [List.getElem_cons_succ, List.getElem_cons_zero, List.set_cons_zero, List.set_cons_succ]
   have h1 : l = l.take k ++ l[k] :: l.drop (k + 1) := by rw [← List.drop_eq_getElem_cons hk2, List.take_append_drop]
   have h2 : l.set k x = l.take k ++ x :: l.drop (k + 1) := by rw [List.set_eq_take_append_cons_drop, if_pos hk2]
   rw [h2]
   refine List.Perm.trans ?_ (List.Perm.of_eq (congrArg (x :: ·) h1.symm))
   refine List.Perm.trans (List.Perm.cons _ List.perm_middle) ?_
   refine List.Perm.trans (List.Perm.swap _ _ _) ?_
   exact List.Perm.cons _ List.perm_middle.symm
theorem P9 {S : List Pr} {l : List Acc} {k : Nat} {hk : k < l.length} (h : Cl S l) (h' : ∀ u ∈ xC (swp l k hk), (hash u, u) ∈ S) : Cl S (swp l k hk) := by
 have hp := pI l k hk
 exact ⟨fun x hx => h.ok x (hp.mem_iff.1 hx), by rw [hp.length_eq]; exact h.len, fun x hx => h.sl x (hp.mem_iff.1 hx), fun x hx => h.n x (hp.mem_iff.1 hx), ((hp.map _).nodup_iff).2 h.ad, fun x hx => h.ks x (hp.mem_iff.1 hx), h'⟩
theorem Nu {S : List Pr} {l : List Acc} {k : Nat} {hk : k < l.length} (hS : Srt S) (h : Cl S l) (h' : ∀ u ∈ xC (swp l k hk), (hash u, u) ∈ S) : jB l = jB (swp l k hk) := by
 rw [(h.err hS).2, ((P9 h h').err hS).2]
 exact (Il ((pI l k hk).map acP).symm (h.good hS).2).2
section
variable {N : Nat} {X : Cx N} {rs : List (Tmp × R)} {os : List Obj} {fs : List (Value × D)}
theorem Le.obj {o o' : Obj} (hb : o.blk = o'.blk) (h : ∀ (base ok : Nat → Prop) (w : World), (∀ f ∈ fs, Reads ok w f.2 [f.1]) → o.At base ok w → o'.At base ok w) : Le X ⟨rs, o :: os, fs⟩ ⟨rs, o' :: os, fs⟩ := fun a w ha => by
 have hok : ∀ b, X.ok (o :: os) w b ↔ X.ok (o' :: os) w b := fun b => ⟨fun h1 => ⟨h1.1, h1.2.1, fun p hp => by
  rcases List.mem_cons.1 hp with rfl | hp
  ·
   rw [← hb]
   exact h1.2.2 o List.mem_cons_self
  · exact h1.2.2 p (List.mem_cons_of_mem _ hp)⟩, fun h1 => ⟨h1.1, h1.2.1, fun p hp => by
  rcases List.mem_cons.1 hp with rfl | hp
  ·
   rw [hb]
   exact h1.2.2 o' List.mem_cons_self
  · exact h1.2.2 p (List.mem_cons_of_mem _ hp)⟩⟩
 have hap := List.pairwise_cons.1 ha.mem.apart
 have hf : ∀ f ∈ fs, Reads (X.ok (o' :: os) w) w f.2 [f.1] := fun f hf => Reads.mono (fun b hb => (hok b).1 hb) (fun _ _ => rfl) _ _ (ha.mem.fact f hf)
 refine ⟨⟨ha.mem.gr, List.pairwise_cons.2 ⟨fun p hp b e => hap.1 p hp b (hb.trans e), hap.2⟩, fun p hp => ?_, hf⟩, fun t' r hr => (ha.regs t' r hr).mono (fun b hb => (hok b).1 hb) fun _ _ => rfl, ha.size, ha.defers⟩
 rcases List.mem_cons.1 hp with rfl | hp
 · exact h _ _ w hf ((ha.mem.at_ o List.mem_cons_self).move (fun b hb => (hok b).1 hb) (fun _ _ => rfl) fun _ _ => rfl)
 · exact (ha.mem.at_ p (List.mem_cons_of_mem _ hp)).move (fun b hb => (hok b).1 hb) (fun _ _ => rfl) fun _ _ => rfl
theorem rP {ok : Nat → Prop} {w : World} {z : Nat} {d d' : D} (h : ∀ r, Reads ok w d r → Reads ok w d' r) : ∀ {ds : List D} {k : Nat} {rows : List (List Value)}, ds[k]? = some d → ay ok w z ds rows → ay ok w z (ds.set k d') rows
 | [], k, rows, hk, _ => by simp at hk
 | e :: ds, 0, rows, hk, hr => by
  obtain rfl : e = d := by simpa using hk
  rw [ay] at hr
  obtain ⟨r, rest, e1, e2, e3, e4⟩ := hr
  rw [List.set_cons_zero, ay]
  exact ⟨r, rest, e1, e2, h r e3, e4⟩
 | e :: ds, k + 1, rows, hk, hr => by
  rw [ay] at hr
  obtain ⟨r, rest, e1, e2, e3, e4⟩ := hr
  rw [List.set_cons_succ, ay]
  exact ⟨r, rest, e1, e2, e3, rP h (by simpa using hk) e4⟩
theorem Le.rowAt {v : Value} {e z k : Nat} {ds : List D} {d d' : D} (hk : ds[k]? = some d) (h : ∀ (ok : Nat → Prop) (w : World), (∀ f ∈ fs, Reads ok w f.2 [f.1]) → ∀ r, Reads ok w d r → Reads ok w d' r) : Le X ⟨rs, .row v e z ds :: os, fs⟩ ⟨rs, .row v e z (ds.set k d') :: os, fs⟩ := Le.obj rfl fun base ok w hf ha => by
 obtain ⟨rows, h1, h2⟩ := ha
 exact ⟨rows, by rw [List.length_set]; exact h1, rP (h ok w hf) hk h2⟩
theorem Le.Tj {v : Value} {e z k : Nat} {ds : List D} {d d' : D} (hk : ds[k]? = some d) (h : Refine fs d d') : Le X ⟨rs, .row v e z ds :: os, fs⟩ ⟨rs, .row v e z (ds.set k d') :: os, fs⟩ := Le.rowAt hk fun ok w hf r hr => (Refine.reads hf _ _ _ h hr).1
end
def bvD (l : List UInt8) : List D := l.map fun b => .v (bv b)
theorem vG {ok : Nat → Prop} {w : World} : ∀ {l : List UInt8} {cs : List Value}, bC ok w (bvD l) cs ↔ cs = bvs l
 | [], cs => by
  show bC ok w [] cs ↔ _
  rw [bC]
  rfl
 | b :: l, cs => by
  show bC ok w (.v (bv b) :: bvD l) cs ↔ _
  rw [bC]
  constructor
  ·
   rintro ⟨c1, c2, rfl, h1, h2⟩
   rw [Reads] at h1
   rw [vG.1 h2, h1.2]
   rfl
  ·
   rintro rfl
   exact ⟨[bv b], bvs l, rfl, by rw [Reads]; exact ⟨rfl, rfl⟩, vG.2 rfl⟩
theorem Fa {ok : Nat → Prop} {w : World} : ∀ (l : List UInt8), ∃ rows : List (List Value), rows.flatten = bvs l ∧ ay ok w 1 (bvD l) rows
 | [] => ⟨[], rfl, by show ay ok w 1 [] []; rw [ay]⟩
 | b :: l => by
  obtain ⟨rows, h1, h2⟩ := Fa (ok := ok) (w := w) l
  refine ⟨[bv b] :: rows, by rw [List.flatten_cons, h1]; rfl, ?_⟩
  show ay ok w 1 (.v (bv b) :: bvD l) _
  rw [ay]
  exact ⟨_, _, rfl, rfl, by rw [Reads]; exact ⟨rfl, rfl⟩, h2⟩
theorem U5 {ok : Nat → Prop} {w : World} {l : List UInt8} {x : Value} (h : dw ok w (.bs l) x) : ∃ A c rows, x = .slice A (bvD l).length c ∧ (bvD l).length ≤ c ∧ c ≤ maxLen ∧ True ∧ RdP ok w A rows.flatten ∧ ay ok w 1 (bvD l) rows := by
 have h1 := (cu (d := .bs l) rfl).1 h
 rw [Reads] at h1
 obtain ⟨u, e, A, c, rfl, g1, g2, g4⟩ := h1
 obtain ⟨rows, h3, h4⟩ := Fa (ok := ok) (w := w) l
 have hl2 : (bvD l).length = l.length := List.length_map _
 exact ⟨A, c, rows, by rw [hl2]; exact List.singleton_inj.1 e, by rw [hl2]; exact g1, g2, trivial, by rw [h3]; exact g4, h4⟩
section
variable {N : Nat} {X : Cx N} {S : St} {ops : Array Oper} {o : Oper} {Q : Exit → Act → World → Prop} {l : List Oper} {rs : List (Tmp × R)} {os : List Obj} {fs : List (Value × D)}
theorem EL.SL {T e y' : Nat} {s x : Operand} {v : Value} {ds : List D} {m : List UInt8} (i : Nat) (ho : o.op = .call { callee := .builtin .append, args := #[s, x], argTypes := #[T, T] }) (hg : guardOf ops S o = some true) (hd : ∀ t, o.dst = some t → t < N) (hT : SlT Tryz.prog T e 1 y')
  (hs : ev S s = some (.val (.v v))) (hi : S.objs[i]? = some (.row v e 1 ds)) (hx : ev S x = some (.val (.bs m))) (hlen : (ds.length + (bvD m).length) * y' ≤ 140737488355328 ∧ ds.length + (bvD m).length ≤ 9223372036854775807)
  (k : ∀ v', EL X ops Q l (St.put ⟨S.regs, S.objs.set i (.row v' e 1 (ds ++ bvD m)), S.facts⟩ o.dst (.val (.v v')))) : EL X ops Q (o :: l) S := by
 constructor
 intro a w ha
 have hk := ha.kn fun t => t ∈ o.looksAt ops
 have hs' := gJ hk hs fun t e => aT e (by rw [ho]; simp [Op.operands, Call.operands])
 obtain ⟨A, c, rows', h1, h2, h3, h4, h5, h6⟩ := U5 (hk.ev hx fun t e => aT e (by rw [ho]; simp [Op.operands, Call.operands]))
 obtain ⟨rows, h7, h8⟩ := ha.mem.at_ _ (List.mem_of_getElem? hi)
 obtain ⟨hl1, hl2⟩ := ay.lens (bvD m) rows' h6
 have hlen' : rows'.flatten.length = (bvD m).length * 1 := by
  have : ∀ rows : List (List Value), (∀ r ∈ rows, r.length = 1) → rows.flatten.length = rows.length * 1 := by
   intro rows
   induction rows with
   | nil => simp
   | cons r rows ih =>
    intro h
    rw [List.flatten_cons, List.length_append, h r (by simp), ih fun r hr => h r (by simp [hr]), List.length_cons, Nat.add_mul, Nat.one_mul, Nat.add_comm]
  rw [this rows' hl2, hl1]
 have hrd : Rd w w.heap.size A rows'.flatten := fun hn => by
  obtain ⟨b, n, e, hb, hc⟩ := h5 hn
  exact ⟨b, n, e, hb.2.1, hc⟩
 have hge := ha.mem.gr.size
 obtain ⟨A', c', w', hrun, hown, hgr, hblk⟩ := jA (P := Tryz.prog) (ty := o.type) (c := c) hT h7.1 hlen' hrd (ay.one (bvD m) rows' h6) (by simp only [maxLen]; exact hlen.2) hlen.1 (Nat.zero_le _)
 unfold wpList
 rw [if_pos (gK ha hg)]
 refine .inl ?_
 unfold Oper.wp execOp
 simp only [ho, resolve, invoke, builtin, Sem.run_bind, Sem.run_pure, Result.andThen_ok, List.map_toArray, List.map_cons, List.map_nil, hs', h1, hrun]
 refine (k _).go _ _ ((ha.turn (q := .row (.slice A' (ds.length + (bvD m).length) c') e 1 (ds ++ bvD m)) hi hgr ?_ fun hok hcell => ⟨rows ++ rows', ?_, ay.append ds (bvD m) rows rows' (ay.mono hok hcell 1 ds rows h8) (ay.mono hok hcell 1 (bvD m) rows' h6)⟩).put hd (jr rfl))
 ·
  rcases hblk with hb | hb
  · exact .inl hb
  · exact .inr ⟨_, hb, Nat.le_refl _⟩
 ·
  rw [List.flatten_append, List.length_append]
  refine ⟨hown, fun b hb => ?_⟩
  rcases hblk with e | e
  · exact h7.2 b (e ▸ hb)
  ·
   rw [e] at hb
   cases hb
   exact .inr hge
theorem NC {t T e y ty : Nat} {pos : String} {af : Array Edge} {gd : Option (Nat × Bool)} {s x : Operand} {v : Value} {ds : List D} {m : List UInt8} {os' : Value → List Obj} (hs : ev (⟨rs, os, fs⟩ : St) s = some (.val (.v v))) (hset : aN os (.row v e 1 ds) (fun v' => .row v' e 1 (ds ++ bvD m)) os') (hx : ev (⟨rs, os, fs⟩ : St) x = some (.val (.bs m))) (hT : assoc slL T = some (e, 1, y)) (hg : guardOf ops ⟨rs, os, fs⟩ ⟨some t, .call { callee := .builtin .append, args := #[s, x], argTypes := #[T, T] }, ty, pos, af, gd⟩ = some true) (hN : Nat.blt t N = true) (hlen : (ds.length + m.length) * y ≤ 140737488355328 ∧ ds.length + m.length ≤ 9223372036854775807) (kk : ∀ v', EL X ops Q l ⟨(t, .val (.v v')) :: rs, os' v', fs⟩) : EL X ops Q (⟨some t, .call { callee := .builtin .append, args := #[s, x], argTypes := #[T, T] }, ty, pos, af, gd⟩ :: l) ⟨rs, os, fs⟩ := by
 obtain ⟨i, hi, hl'⟩ := hset.ix
 have hl2 : (bvD m).length = m.length := List.length_map _
 rw [← hl2] at hlen
 exact EL.SL (v := v) (ds := ds) i rfl hg (kR rfl hN) (QX hT rfl) hs hi hx hlen fun v' => by
  have := kk v'
  rw [hl' v'] at this
  exact this
end
theorem Le.TF {N : Nat} {X : Cx N} {rs : List (Tmp × R)} {os : List Obj} {fs : List (Value × D)} {v : Value} {l : List UInt8} : Le X ⟨rs, os, (v, .sl 1 (bvD l)) :: fs⟩ ⟨rs, os, (v, .bs l) :: fs⟩ := fun a w h => by
 refine ⟨⟨h.mem.gr, h.mem.apart, h.mem.at_, fun f hf => ?_⟩, h.regs, h.size, h.defers⟩
 rcases List.mem_cons.1 hf with rfl | hf
 ·
  have h1 := h.mem.fact _ List.mem_cons_self
  rw [Reads] at h1
  rw [Reads]
  obtain ⟨A, c, rows, e, g1, g2, g3, g4, g5⟩ := h1
  have hl2 : (bvD l).length = l.length := List.length_map _
  rw [hl2] at e g1 g3
  refine ⟨_, rfl, A, c, List.singleton_inj.1 e, g1, g2, ?_⟩
  rw [← vF l rows g5]
  exact g4
 · exact h.mem.fact f (List.mem_cons_of_mem _ hf)
theorem rO {ok : Nat → Prop} {w : World} {n : Nat} {l : List UInt8} {cs : List Value} : Reads ok w (.arr n l) cs ↔ l.length = n ∧ Reads ok w (.tup (bvD l)) cs := by
 rw [Reads, Reads, vG]
theorem yA : ∀ w : List UInt8, D.sizes (bvD w) = w.length
 | [] => rfl
 | b :: w => by
  show D.sizes (.v (bv b) :: bvD w) = _
  rw [D.sizes, yA w, List.length_cons]
  show 1 + w.length = w.length + 1
  omega
theorem NT : ∀ (w : List UInt8) (j : Nat) (b : UInt8), w[j]? = some b → D.vk (bvD w) j 1 false = some (.v (bv b))
 | [], j, b, h => by simp at h
 | c :: w, 0, b, h => by
  obtain rfl : c = b := by simpa using h
  rfl
 | c :: w, j + 1, b, h => by
  show D.vk (.v (bv c) :: bvD w) (j + 1) 1 false = _
  rw [D.vk, if_neg (show ¬ j + 1 < (D.v (bv c)).size by show ¬ j + 1 < 1; omega)]
  exact NT w j b (by simpa using h)
theorem JI : ∀ (w : List UInt8) (j : Nat) (c : UInt8), j < w.length → D.pG (bvD w) j (.v (bv c)) = some (bvD (w.set j c))
 | [], j, c, h => by simp at h
 | b :: w, 0, c, h => rfl
 | b :: w, j + 1, c, h => by
  show D.pG (.v (bv b) :: bvD w) (j + 1) _ = _
  rw [D.pG, if_neg (show ¬ j + 1 < (D.v (bv b)).size by show ¬ j + 1 < 1; omega)]
  show (D.pG (bvD w) j _).map _ = _
  rw [JI w j c (by simpa using h)]
  rfl
theorem QV {a w : List UInt8} {b : UInt8} {n c s : D} (hn : n.size = 1) (hw : w.length = 32) (hb : w[31]? = some b) : D.sub (.tup [.arr 20 a, n, .tup (bvD w), c, s]) 52 1 false = some (.v (bv b)) := by
 have h1 := NT w 31 b hb
 have h2 : D.sizes (bvD w) = 32 := by rw [yA, hw]
 simp [D.sub, D.vk, D.size, h2, h1, hn]
theorem QL {a w : List UInt8} {b : UInt8} {n c s : D} (hn : n.size = 1) (hw : w.length = 32) : D.upd (.tup [.arr 20 a, n, .tup (bvD w), c, s]) 52 (.v (bv b)) = some (.tup [.arr 20 a, n, .tup (bvD (w.set 31 b)), c, s]) := by
 have h1 := JI w 31 b (by omega)
 have h2 : D.sizes (bvD w) = 32 := by rw [yA, hw]
 simp [D.upd, D.pG, D.size, h2, h1, hn]
theorem LK {ok : Nat → Prop} {w0 : World} {a w : List UInt8} {n c s : D} {r : List Value} (h : Reads ok w0 (.tup [.arr 20 a, n, .arr 32 w, c, s]) r) : Reads ok w0 (.tup [.arr 20 a, n, .tup (bvD w), c, s]) r := by
 rw [Reads] at h ⊢
 rw [bC] at h
 obtain ⟨c1, r1, rfl, h1, h⟩ := h
 rw [bC] at h
 obtain ⟨c2, r2, rfl, h2, h⟩ := h
 rw [bC] at h
 obtain ⟨c3, r3, rfl, h3, h⟩ := h
 rw [bC]
 refine ⟨c1, _, rfl, h1, ?_⟩
 rw [bC]
 refine ⟨c2, _, rfl, h2, ?_⟩
 rw [bC]
 exact ⟨c3, r3, rfl, (rO.1 h3).2, h⟩
theorem Iw {ok : Nat → Prop} {w0 : World} {a w : List UInt8} {n c s : D} {r : List Value} (hw : w.length = 32) (h : Reads ok w0 (.tup [.arr 20 a, n, .tup (bvD w), c, s]) r) : Reads ok w0 (.tup [.arr 20 a, n, .arr 32 w, c, s]) r := by
 rw [Reads] at h ⊢
 rw [bC] at h
 obtain ⟨c1, r1, rfl, h1, h⟩ := h
 rw [bC] at h
 obtain ⟨c2, r2, rfl, h2, h⟩ := h
 rw [bC] at h
 obtain ⟨c3, r3, rfl, h3, h⟩ := h
 rw [bC]
 refine ⟨c1, _, rfl, h1, ?_⟩
 rw [bC]
 refine ⟨c2, _, rfl, h2, ?_⟩
 rw [bC]
 exact ⟨c3, r3, rfl, rO.2 ⟨hw, h3⟩, h⟩
section
variable {N : Nat} {X : Cx N} {S : St} {ops : Array Oper} {o : Oper} {Q : Exit → Act → World → Prop} {l : List Oper} {rs : List (Tmp × R)} {os : List Obj} {fs : List (Value × D)} {TT : St → List Fr → Prop} {EE : List Fr}
theorem Gn {x y : Operand} {T n0 e0 z0 e z n : Nat} {k : Int} {v : Value} {ds : List D} (ho : o.op = .indexAddr T x y) (hx : ev S x = some (.val (.v (dn v n)))) (i : Nat) (hi : S.objs[i]? = some (.row v e z ds)) (hk0 : 0 < ds.length) (hy : ev S y = some (.val (.v (.int .i64 k)))) (hT : assoc arL T = some (n0, e0, z0)) (hk : 0 ≤ k ∧ k.toNat < n0) : Still ops S o (.val (.v (dn v (n + k.toNat * z0)))) := fun base ok a w ha => by
 have hx' := gJ ha hx (bU (by rw [ho]; simp [Op.operands]))
 have hy' := gJ ha hy (bU (by rw [ho]; simp [Op.operands]))
 obtain ⟨g, c, cur, rows, H⟩ := row_in (ha.objs _ (List.mem_of_getElem? hi)) hk0
 refine ⟨_, ?_, jr (qA _ _)⟩
 have e1 : dn v n = .pointer (some ⟨g, n, none⟩) := by rw [H.val]; simp [dn]
 have e2 : dn v (n + k.toNat * z0) = .pointer (some ⟨g, n + k.toNat * z0, none⟩) := by rw [H.val]; simp [dn]
 have hlt : k < (n0 : Int) := by omega
 rw [e1] at hx'
 rw [e2]
 unfold execOp
 simp [ho, hx', hy', Instr.indexAt, run_underlying (Ns hT).und, asIntOf, hk.1, hlt, jR (Ns hT).size, dN, Instr.sureAddr]
theorem Qy {t ty : Nat} {pos : String} {af : Array Edge} {gd : Option (Nat × Bool)} {x y : Operand} {T n0 e0 z0 e z n i : Nat} {k : Int} {v : Value} {ds : List D} (hx : ev (⟨rs, os, fs⟩ : St) x = some (.val (.v (dn v n)))) (hi : os[i]? = some (.row v e z ds)) (hk0 : 0 < ds.length) (hy : ev (⟨rs, os, fs⟩ : St) y = some (.val (.v (.int .i64 k)))) (hT : assoc arL T = some (n0, e0, z0)) (hk : 0 ≤ k ∧ k.toNat < n0) (hg : guardOf ops ⟨rs, os, fs⟩ ⟨some t, .indexAddr T x y, ty, pos, af, gd⟩ = some true) (hN : Nat.blt t N = true) (kk : EL X ops Q l ⟨(t, (.val (.v (dn v (n + k.toNat * z0))))) :: rs, os, fs⟩) : EL X ops Q (⟨some t, .indexAddr T x y, ty, pos, af, gd⟩ :: l) ⟨rs, os, fs⟩ := ES.still (Gn rfl hx i hi hk0 hy hT hk) hg rfl hN kk
theorem QB {t ty : Nat} {pos : String} {af : Array Edge} {gd : Option (Nat × Bool)} {x y : Operand} {T n0 e0 z0 e z n i : Nat} {k : Int} {v : Value} {ds : List D} (hx : ev (⟨rs, os, fs⟩ : St) x = some (.val (.v (dn v n)))) (hi : os[i]? = some (.row v e z ds)) (hk0 : 0 < ds.length) (hy : ev (⟨rs, os, fs⟩ : St) y = some (.val (.v (.int .i64 k)))) (hT : assoc arL T = some (n0, e0, z0)) (hk : 0 ≤ k ∧ k.toNat < n0) (hg : guardOf ops ⟨rs, os, fs⟩ ⟨some t, .indexAddr T x y, ty, pos, af, gd⟩ = some true) (hoff : eH N (some t) EE = true) (kk : EM N ops TT l ⟨(t, (.val (.v (dn v (n + k.toNat * z0))))) :: rs, os, fs⟩ EE) : EM N ops TT (⟨some t, .indexAddr T x y, ty, pos, af, gd⟩ :: l) ⟨rs, os, fs⟩ EE := EH.still (Gn rfl hx i hi hk0 hy hT hk) hg rfl hoff kk
end
end E
end Go.Proofs.YtiledgojbpmoiaaGreat
