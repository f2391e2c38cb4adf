/-
 Merged (wip/tools/merge.py): SD3, PathPl0, Ppk, SD4, SD5, SD6.
 Conditions: none.
-/
import Derived.Test.YtiledgojbpmoiaaGreatZQ24
import Derived.Test.YtiledgojbpmoiaaGreatZQ23
import Derived.Test.YtiledgojbpmoiaaGreatZQ12
import Derived.Test.YtiledgojbpmoiaaGreatZQ21
namespace Go.Proofs.YtiledgojbpmoiaaGreat
set_option linter.unusedVariables false
set_option maxRecDepth 20000
set_option maxHeartbeats 16000000
open Go.RowKit Mono Rlp
namespace E
theorem C9 (g : Nat) (v : Value) (S : List Pr) (b : List UInt8) (hs : Srt S) (hl : S.length ≤ 1000000000) (hb : b.length ≤ 1099511627776) : FnM 40 [.v (ptr g), .bs b] [sdO g v, sdR v S] (fun r os' => ∃ v', r = .val (.v (.bool (okN (hash b, b) S))) ∧ os' = [sdO g v', sdR v' (fO (hash b, b) S)]) := by
 have hK := nP b hb
 have hA := Oa g v S (hash b) b hs hl (by omega)
 refine FnM.walk 10 Tryz.func40 rfl Tryz.ntmps40 (by simp) fun X => ?_
 repeat
  (first
   | (apply aJ (hK); rfl; exact ak.refl _ _; exact enA; iterate 2 rfl) | (apply au; iterate 3 rfl) | (apply aj; iterate 3 rfl) | apply EL.nil
   | ((with_reducible apply EK.ah); apply EK.code) | (with_reducible first | apply EC.seq | apply EC.region))
 refine fH hA [] [] rfl rfl (ak.refl _ _) (by intro _ _; simp [go_sem]) rfl rfl ?_
 rintro _ _ ⟨v', rfl, rfl⟩
 simp only [List.cons_append, List.nil_append]
 repeat
  (first
   | (apply aj; iterate 3 rfl) | apply EL.nil | ((with_reducible apply EK.ah); apply EK.code) | (with_reducible apply EC.ret))
 exact EK.fM [sdO g v', sdR v' (fO (hash b, b) S)] rfl rfl (by (repeat first | exact List.nil_sublist _ | apply List.Sublist.cons_cons | apply List.Sublist.cons)) ⟨v', rfl, rfl⟩
def jv (l : List Pr) : List (List UInt8) := [128] :: (if l.isEmpty then [] else gZ 200 (l.map sp) ++ [pkB (bF 200 (l.map sp))])
def sV (U : List (List UInt8)) (C : Nat) (S S' : List Pr) (b : Bool) : Prop := Srt S' ∧ S'.length ≤ S.length + C ∧ (∀ y ∈ S, y ∈ S') ∧ (b = true → ∀ x ∈ U, (hash x, x) ∈ S')
theorem JQ (gs : Nat) (v : Value) (S : List Pr) (l : List Pr) (hs : Srt S) (hS : S.length ≤ 900000000) (he : ig l = 0) : FnM 39 [.v (ptr gs), .sl 2 (l.map dPr)] [sdO gs v, sdR v S] (fun r os' => ∃ b v' S', sV (jv l) (2 + 200 * l.length) S S' b ∧ r = .val (.v (.bool b)) ∧ os' = [sdO gs v', sdR v' S']) := by
 have hml : (l.map dPr).length = l.length := List.length_map _
 have hA := C9 gs v S [128] hs (by omega) (by decide)
 have hs1 := nN (hash [128], [128]) S hs
 have hl1 := kH (hash [128], [128]) S
 have hi1 := nM (hash [128], [128]) S
 have hm1 := vO (hash [128], [128]) S
 generalize fO (hash [128], [128]) S = S1 at hA hs1 hl1 hi1 hm1
 have hlen := (show l.length ≤ 100000 from by
  unfold ig at he
  split at he
  · cases he
  ·
   rename_i h1
   have : ¬ 100000 < l.length := fun e => h1 (.inl e)
   omega)
 have hlg : l.any lg = false := (ku he).2.1
 refine FnM.walk 56 Tryz.func39 rfl Tryz.ntmps39 (by simp) fun X => ?_
 repeat
  (first
   | (apply jo; (iterate 9 rfl); refine EL.le (Le.slB (t := 11) (l := [128]) rfl) ?_) | (apply au; iterate 3 rfl) | (apply aj; iterate 3 rfl) | apply EL.nil
   | ((with_reducible apply EK.ah); apply EK.code) | (with_reducible first | apply EC.seq | apply EC.region))
 refine fH hA [] [] rfl rfl (ak.refl _ _) (by intro _ _; simp [go_sem]) rfl rfl ?_
 rintro _ _ ⟨v1, rfl, rfl⟩
 simp only [List.cons_append, List.nil_append]
 cases hok : okN (hash [128], [128]) S with
 | false =>
  repeat
   (first
    | (apply aj; iterate 3 rfl) | (apply jW; iterate 3 rfl) | apply EL.nil | ((with_reducible apply EK.ah); apply EK.code) | (apply EC.cond_true; rfl)
    | (with_reducible first | apply EC.seq | apply EC.region | apply EC.ret | apply EK.aI))
  exact EK.fM [sdO gs v1, sdR v1 S1] rfl rfl (by (repeat first | exact List.nil_sublist _ | apply List.Sublist.cons_cons | apply List.Sublist.cons)) ⟨false, v1, S1, ⟨hs1, by omega, hi1, fun h => by cases h⟩, rfl, rfl⟩
 | true =>
  have hm1 := hm1 hok
  by_cases hnil : l = []
  ·
   subst hnil
   repeat
    (first
     | (apply au; iterate 3 rfl) | (apply aj; iterate 3 rfl) | (apply jW; iterate 3 rfl)
     | (apply aA (b := true); (iterate 2 rfl); exact aG; iterate 2 rfl) | (apply aB; iterate 4 rfl) | apply EL.nil | ((with_reducible apply EK.ah); apply EK.code)
     | (apply EC.cond_true; rfl) | (apply EC.cond_false; rfl) | (with_reducible first | apply EC.seq | apply EC.region | apply EC.skip | apply EC.ret | apply EK.aI))
   exact EK.fM [sdO gs v1, sdR v1 S1] rfl rfl (by (repeat first | exact List.nil_sublist _ | apply List.Sublist.cons_cons | apply List.Sublist.cons)) ⟨true, v1, S1, ⟨hs1, by omega, hi1, fun _ x hx => by
    obtain rfl : x = [128] := by simpa [jv] using hx
    exact hm1⟩, rfl, rfl⟩
  ·
   obtain ⟨y, l', rfl⟩ : ∃ y l', l = y :: l' := by
    cases l with
    | nil => exact absurd rfl hnil
    | cons y l' => exact ⟨y, l', rfl⟩
   have hne : ((y :: l').map sp).isEmpty = false := rfl
   have htU : jv (y :: l') = [128] :: (gZ 200 ((y :: l').map sp) ++ [pkB (bF 200 ((y :: l').map sp))]) := rfl
   have hlen2 : ((y :: l').map dPr).length = l'.length + 1 := by simp
   have hL2 : (y :: l').length = l'.length + 1 := rfl
   repeat
    (first
     | (apply au; iterate 3 rfl) | (apply aj; iterate 3 rfl) | (apply jW; iterate 3 rfl)
     | (apply aA (b := false); (iterate 2 rfl); exact aG; iterate 2 rfl) | (apply aB; iterate 4 rfl) | apply EL.nil | ((with_reducible apply EK.ah); apply EK.code)
     | (apply EC.cond_false; rfl) | (with_reducible first | apply EC.seq | apply EC.region | apply EC.skip | apply EC.block))
   generalize hL : y :: l' = l at *
   clear hnil
   refine EC.le (Le.row 149 2) ?_
   refine EC.loop (ι := {x : Nat × Value // x.1 ≤ l.length})
    (fun x => ⟨[(6, .val (.v (.int .i64 (x.1.1 : Int)))), (5, .val (.v x.1.2)), (0, .val (.v (ptr gs))), (1, .val (.sl 2 (l.map dPr)))], [.row x.1.2 149 2 (((l.take x.1.1).map sp).map dPr), sdO gs v1, sdR v1 S1], []⟩)
    (fun x => l.length - x.1.1) ⟨(0, .slice none 0 0), Nat.zero_le _⟩ ?_ ?_
   · exact Le.kp
   rintro ⟨⟨i, u⟩, hi⟩
   dsimp only at hi ⊢
   by_cases hlt : i < l.length
   ·
    have hd : (l.map dPr)[i]? = some (.tup [.bs l[i].1, .bs l[i].2]) := by rw [List.getElem?_map, List.getElem?_eq_getElem hlt]; rfl
    have hsz := iM hlg (List.getElem_mem hlt)
    have hSp := GK l[i].1 (by omega)
    have hl3 : (((l.take i).map sp).map dPr).length = i := by rw [List.length_map, List.length_map, List.length_take]; omega
    have htk : ((l.take (i + 1)).map sp).map dPr = ((l.take i).map sp).map dPr ++ [.tup [.bs (split l[i].1), .bs l[i].2]] := by
     rw [List.take_succ_eq_append_getElem hlt, List.map_append, List.map_append]
     rfl
    repeat
     (first
      | (apply au; iterate 3 rfl) | (apply aA (b := true); (iterate 2 rfl); exact aG; iterate 2 rfl) | (apply aB; iterate 4 rfl) | apply EL.nil
      | ((with_reducible apply EK.ah); apply EK.code) | (apply EC.cond_true; rfl) | (with_reducible first | apply EC.seq | apply EC.region | apply EC.skip | apply EC.block))
    refine EC.jm 15 [0, 1, 2, 3, 4, 5, 6, 7, 8, 9, 10, 11, 12, 13] [14] [_] _ (by kernel_rfl) (by kernel_rfl) rfl ?_
    simp only [aQ, List.filterMap_cons, List.filterMap_nil, List.getElem?_cons_zero, List.getElem?_cons_succ]
    repeat
     (first
      | (apply bP (hSp); rfl; exact ak.refl _ _; exact enA; iterate 2 rfl) | (apply aU; iterate 3 rfl) | (apply aW; iterate 7 rfl)
      | (apply bG; iterate 5 rfl)
      | (apply bD; (iterate 4 rfl); (focus (first | exact ⟨by decide, rfl⟩ | (refine ⟨by omega, ?_⟩; rw [Int.toNat_natCast]; assumption))); iterate 2 rfl)
      | (apply iL; iterate 7 rfl) | (apply kP; iterate 9 rfl))
    refine EM.nil ?_
    repeat (first | rw [List.cons_append] | rw [List.nil_append])
    refine CH.mut (os := [_]) (rest := []) rfl rfl (fZ rfl rfl rfl rfl rfl ?_) ?_
    ·
     rw [hl3]
     constructor <;> (simp; omega)
    rintro _ _ ⟨u', rfl, rfl⟩
    try simp only [St.put]
    repeat (first | rw [List.cons_append] | rw [List.nil_append])
    refine CH.nil ?_
    try simp only [List.drop_succ_cons, List.drop_zero]
    repeat
     (first
      | (apply au; iterate 3 rfl) | (apply aj; iterate 3 rfl) | (apply eU; (iterate 3 rfl); (focus omega); (focus omega); iterate 2 rfl) | apply EL.nil
      | ((with_reducible apply EK.ah); apply EK.code) | (with_reducible first | apply EC.region | apply EK.aF))
    refine EK.again ⟨(i + 1, u'), hlt⟩ (by dsimp only; omega) ?_
    dsimp only
    rw [htk]
    simp only [Int.natCast_add]
    exact Le.kp
   ·
    have hie : i = l.length := by omega
    rw [show l.take i = l by rw [hie, List.take_length]]
    refine EC.le (Le.freeze (pre := []) rfl) ?_
    refine EC.le (Le.refine (t := 5) (d' := .sl 2 ((l.map sp).map dPr)) rfl (Rf.fact List.mem_cons_self rfl)) ?_
    simp only [List.nil_append]
    have hNd : ∀ gb, FnM 78 [.v (ptr gb), .sl 2 ((l.map sp).map dPr)] [oB gb gs [] false, sdO gs v1, sdR v1 S1] (fun r os' => ∃ t : SS, SSR (gZ 200 (l.map sp)) (200 * (l.map sp).length) ⟨[], false, v1, S1, hs1⟩ t ∧ r = .val (bJ (bF 200 (l.map sp))) ∧ os' = [oB gb gs t.ns t.c, sdO gs t.v, sdR t.v t.S]) := fun gb => JC (V5 gb gs) 200 (l.map sp) (⟨[], false, v1, S1, hs1⟩ : SS) hne (fun z hz => by
     obtain ⟨w, hw, rfl⟩ := List.mem_map.1 hz
     have := iM hlg hw
     show (split w.1).length < 200
     rw [fA]
     omega) (fun z hz => by
     obtain ⟨w, hw, rfl⟩ := List.mem_map.1 hz
     have := iM hlg hw
     show (split w.1).length ≤ _
     rw [fA]
     omega) (by rw [List.length_map]; omega) (by rw [List.length_map]; show max 0 S1.length + _ ≤ _; omega)
    have h2 := uK (bF 200 (l.map sp))
    repeat
     (first
      | (apply jD; rfl; rfl; rfl; intro gb; refine EL.le (Le.QG (d' := .tup [.sl 33 (([] : List Pr).map dNd), .v (ptr gs), .v (.bool false)]) (by apply Rf.tup; exact RL.cons Rf.sl0 (RL.cons Rf.same (RL.cons Rf.same RL.nil)))) ?_)
      | (apply au; iterate 3 rfl) | (apply aj; iterate 3 rfl) | (apply aA (b := false); (iterate 2 rfl); exact aG; iterate 2 rfl)
      | (apply aB; iterate 4 rfl) | (apply fE; iterate 7 rfl) | apply EL.nil | ((with_reducible apply EK.ah); apply EK.code) | (apply EC.cond_false; rfl)
      | (with_reducible first | apply EC.seq | apply EC.region | apply EC.exit | apply EK.aZ | apply EK.aH))
    refine fH (hNd gb) [] [] rfl rfl (ak.refl _ _) (by intro _ _; simp [go_sem]) rfl rfl ?_
    rintro _ _ ⟨t, hn1, rfl, rfl⟩
    simp only [List.cons_append, List.nil_append]
    rw [List.length_map] at hn1
    have hle := xK (bF 200 (l.map sp))
    have hpt : FnM 79 [.v (ptr gb), .bs (pkB (bF 200 (l.map sp)))] [oB gb gs t.ns t.c, sdO gs t.v, sdR t.v t.S] (fun r os' => ∃ t' : SS, SSR [pkB (bF 200 (l.map sp))] 1 t t' ∧ r = .val (.arr 32 (hash (pkB (bF 200 (l.map sp))))) ∧ os' = [oB gb gs t'.ns t'.c, sdO gs t'.v, sdR t'.v t'.S]) := (V5 gb gs).put t _ (by
     have h1 := hn1.1
     have h2 := hn1.2.1
     dsimp only [List.length_nil] at h1 h2
     show max t.ns.length t.S.length ≤ _
     omega) hle
    have hfin : ∀ t' : SS, SSR [pkB (bF 200 (l.map sp))] 1 t t' → sV (jv l) (2 + 200 * l.length) S t'.S (!t'.c) := fun t' ht => by
     refine ⟨t'.srt, ?_, fun z hz => ht.2.2.1 _ (hn1.2.2.1 _ (hi1 z hz)), fun hc => ?_⟩
     ·
      have h1 := ht.2.1
      have h2 := hn1.2.1
      dsimp only at h2
      omega
     ·
      obtain ⟨a1, a2⟩ := ht.2.2.2 (by simpa using hc)
      obtain ⟨b1, b2⟩ := hn1.2.2.2 a1
      intro z hz
      rw [htU] at hz
      rcases List.mem_cons.1 hz with rfl | hz
      · exact ht.2.2.1 _ (hn1.2.2.1 _ hm1)
      ·
       rcases List.mem_append.1 hz with hz | hz
       · exact ht.2.2.1 _ (b2 z hz)
       · exact a2 z hz
    have hpb : packed (bF 200 (l.map sp)) = none ∨ packed (bF 200 (l.map sp)) = some (pkB (bF 200 (l.map sp))) := by
     unfold pkB
     cases h : packed (bF 200 (l.map sp)) with
     | none => exact .inl rfl
     | some b => exact .inr rfl
    clear hn1 hNd
    rcases hpb with hp | hp
    ·
     have h0 : pkB (bF 200 (l.map sp)) = [] := by unfold pkB; rw [hp]; rfl
     rw [hp] at h2
     rw [h0] at hpt hfin
     unfold oW at h2
     dsimp only at h2
     repeat
      (first
       | (apply aJ (h2); rfl; exact ak.refl _ _; exact enA; iterate 2 rfl) | (apply au; iterate 3 rfl) | (apply aj; iterate 3 rfl)
       | (apply aS; iterate 4 rfl) | apply EL.nil | ((with_reducible apply EK.ah); apply EK.code) | (with_reducible first | apply EC.seq | apply EC.region))
     refine fH hpt [] [] rfl rfl RL.a (by intro _ _; simp [go_sem]) rfl rfl ?_
     rintro _ _ ⟨t', ht, rfl, rfl⟩
     simp only [List.cons_append, List.nil_append]
     repeat
      (first
       | (apply au; iterate 3 rfl) | (apply aj; iterate 3 rfl) | (apply dF; iterate 6 rfl) | (apply jW; iterate 3 rfl)
       | (apply dA; rfl; exact I.a; iterate 4 rfl) | (apply oM; iterate 3 rfl) | apply EL.nil | ((with_reducible apply EK.ah); apply EK.code)
       | (with_reducible first | apply EC.seq | apply EC.region | apply EC.ret))
     exact EK.fM [sdO gs t'.v, sdR t'.v t'.S] rfl rfl (by (repeat first | exact List.nil_sublist _ | apply List.Sublist.cons_cons | apply List.Sublist.cons)) ⟨_, _, _, hfin t' ht, rfl, rfl⟩
    ·
     rw [hp] at h2
     unfold oW at h2
     dsimp only at h2
     repeat
      (first
       | (apply aJ (h2); rfl; exact ak.refl _ _; exact enA; iterate 2 rfl) | (apply au; iterate 3 rfl) | (apply aj; iterate 3 rfl)
       | (apply aS; iterate 4 rfl) | apply EL.nil | ((with_reducible apply EK.ah); apply EK.code) | (with_reducible first | apply EC.seq | apply EC.region))
     refine fH hpt [] [] rfl rfl RL.a (by intro _ _; simp [go_sem]) rfl rfl ?_
     rintro _ _ ⟨t', ht, rfl, rfl⟩
     simp only [List.cons_append, List.nil_append]
     repeat
      (first
       | (apply au; iterate 3 rfl) | (apply aj; iterate 3 rfl) | (apply dF; iterate 6 rfl) | (apply jW; iterate 3 rfl)
       | (apply dA; rfl; exact I.a; iterate 4 rfl) | (apply oM; iterate 3 rfl) | apply EL.nil | ((with_reducible apply EK.ah); apply EK.code)
       | (with_reducible first | apply EC.seq | apply EC.region | apply EC.ret))
     exact EK.fM [sdO gs t'.v, sdR t'.v t'.S] rfl rfl (by (repeat first | exact List.nil_sublist _ | apply List.Sublist.cons_cons | apply List.Sublist.cons)) ⟨_, _, _, hfin t' ht, rfl, rfl⟩
end E
end Go.Proofs.YtiledgojbpmoiaaGreat
namespace Go.Proofs.YtiledgojbpmoiaaGreat
theorem Uo (x : UInt8) : (x >>> 4).toNat = x.toNat / 16 := by rw [UInt8.toNat_shiftRight]; simp [Nat.shiftRight_eq_div_pow]
theorem Un (x : UInt8) : (x &&& 15).toNat = x.toNat % 16 := by rw [UInt8.toNat_and]; exact Nat.and_two_pow_sub_one_eq_mod _ 4
theorem Bv (x y : UInt8) (hx : x.toNat ≤ 15) (hy : y.toNat ≤ 15) : (x <<< 4 ||| y) >>> 4 = x ∧ (x <<< 4 ||| y) &&& 15 = y := by
 have h := Oz x.toNat y.toNat hx hy x y rfl rfl
 constructor
 ·
  apply UInt8.toNat_inj.1
  rw [Uo, h]
  omega
 ·
  apply UInt8.toNat_inj.1
  rw [Un, h]
  omega
theorem yg : ∀ (p m : List UInt8), joinL p = some m → split m = p
 | [], m, h => by simp [joinL] at h; subst h; rfl
 | [_], m, h => by simp [joinL] at h
 | x :: y :: r, m, h => by
  rw [joinL] at h
  split at h
  ·
   rename_i hc
   cases hj : joinL r with
   | none => rw [hj] at h; simp at h
   | some t =>
    rw [hj] at h
    simp only [Option.map_some, Option.some.injEq] at h
    subst h
    have hs : split ((x <<< 4 ||| y) :: t) = ((x <<< 4 ||| y) >>> 4) :: ((x <<< 4 ||| y) &&& 15) :: split t := rfl
    rw [hs, (Bv x y hc.1 hc.2).1, (Bv x y hc.1 hc.2).2, yg r t hj]
  · simp at h
theorem join_some : ∀ (p : List UInt8), p.length % 2 = 0 → (∀ x ∈ p, x.toNat ≤ 15) → ∃ m, joinL p = some m
 | [], _, _ => ⟨[], rfl⟩
 | [_], h, _ => by simp at h
 | x :: y :: r, h, hs => by
  obtain ⟨m, hm⟩ := join_some r (by simp at h; omega) fun z hz => hs z (by simp [hz])
  exact ⟨_, by rw [joinL, if_pos ⟨hs x (by simp), hs y (by simp)⟩, hm]; rfl⟩
theorem MQ (p : List UInt8) (leaf : Bool) : ∀ x ∈ hdr p leaf, x.toNat ≤ 15 := by
 unfold hdr
 split <;> cases leaf <;> decide
theorem OY (p : List UInt8) (leaf : Bool) : (hdr p leaf ++ p).length % 2 = 0 := by
 unfold hdr
 split <;> simp <;> omega
end Go.Proofs.YtiledgojbpmoiaaGreat
namespace Go.Proofs.YtiledgojbpmoiaaGreat
set_option linter.unusedVariables false
open Go.RowKit Mono Rlp
namespace E
theorem F9 : ∀ p : List UInt8, ((joinL p).getD []).length ≤ p.length / 2
 | [] => Nat.le_refl _
 | [_] => Nat.zero_le _
 | x :: y :: r => by
  have ih := F9 r
  rw [joinL]
  split
  ·
   cases h : joinL r with
   | none => simp
   | some m =>
    rw [h] at ih
    simp at ih ⊢
    omega
  · simp
theorem xI (p : List UInt8) (b : Bool) : (ppk p b).length ≤ p.length / 2 + 1 := by
 have h := F9 (hdr p b ++ p)
 have h2 : (hdr p b).length ≤ 2 := by
  unfold hdr
  split <;> simp
 unfold ppk
 rw [List.length_append] at h
 omega
theorem xJ {p q : List UInt8} {a b : Bool} (hp : ∀ x ∈ p, x.toNat ≤ 15) (hq : ∀ x ∈ q, x.toNat ≤ 15) (h : ppk p a = ppk q b) : p = q ∧ a = b := by
 have hs : ∀ (p : List UInt8) (a : Bool), (∀ x ∈ p, x.toNat ≤ 15) → split (ppk p a) = Go.Proofs.YtiledgojbpmoiaaGreat.hdr p a ++ p := fun p a hp => by
  obtain ⟨m, hm⟩ := join_some (Go.Proofs.YtiledgojbpmoiaaGreat.hdr p a ++ p) (OY p a) fun x hx => by
   rcases List.mem_append.1 hx with h | h
   · exact MQ p a x h
   · exact hp x h
  unfold ppk
  rw [hm]
  exact yg _ _ hm
 have h1 := hs p a hp
 rw [h, hs q b hq] at h1
 unfold Go.Proofs.YtiledgojbpmoiaaGreat.hdr at h1
 by_cases e1 : p.length % 2 = 1 <;> by_cases e2 : q.length % 2 = 1 <;> cases a <;> cases b <;> simp [e1, e2] at h1 <;> simp [h1]
theorem lU (n b : Nat) : 1 ≤ (head n b).length := by
 unfold head
 split <;> simp
mutual
theorem KC : ∀ (x : Raw) (m : Nat), dW x m ≤ (Rlp.E x).length
 | .mk false _ _, m => by rw [dW]; omega
 | .mk true _ xs, 0 => by
  rw [dW, Rlp.E, List.length_append]
  have := lU (Rlp.EL xs).length 192
  omega
 | .mk true _ xs, m + 1 => by
  rw [dW, Rlp.E, List.length_append]
  have h1 := lU (Rlp.EL xs).length 192
  have h2 := (maxD_le xs m 0 (Rlp.EL xs).length).2 ⟨Nat.zero_le _, G8 xs m⟩
  omega
theorem G8 : ∀ (xs : List Raw) (m : Nat), ∀ x ∈ xs, dW x m ≤ (Rlp.EL xs).length
 | [], _, x, h => by cases h
 | y :: xs, m, x, h => by
  rw [Rlp.EL, List.length_append]
  rcases List.mem_cons.1 h with e | h
  ·
   have := KC y m
   rw [e]
   omega
  ·
   have := G8 xs m x h
   omega
end
def Vk (x : Raw) (n : Nat) : Prop := dW x 31 ≤ 31 ∧ (Rlp.E x).length ≤ n ∧ norm x = x
def zZ (x : Raw) : Prop := packed x = some (Rlp.E x) ∧ norm x = x
theorem S9 (l : List UInt8) (h : l.length ≤ 1048576) : (EB l).length ≤ l.length + 4 := by
 rw [nT]
 unfold szE szB
 have := gU 3 l.length (by omega)
 split
 · omega
 · split <;> omega
theorem lH (b : List UInt8) (h : b.length ≤ 1048576) : Vk (.mk false b []) (b.length + 4) := ⟨by rw [dW]; omega, by rw [Rlp.E]; exact S9 b h, by rw [norm]⟩
theorem Dn {x : Raw} (h : zZ x) : pkB x = Rlp.E x := by
 unfold pkB
 rw [h.1]
 rfl
theorem Sj {x : Raw} (h : zZ x) : Vk (vC x) 36 := by
 unfold vC
 rw [Dn h]
 split
 ·
  rename_i hlt
  exact ⟨Nat.le_trans (KC x 31) (by omega), by omega, h.2⟩
 ·
  have := lH (hash (Rlp.E x)) (by rw [dV]; decide)
  rw [dV] at this
  exact this
theorem FW : ∀ xs : List Raw, (∀ x ∈ xs, norm x = x) → uo xs = xs
 | [], _ => by rw [uo]
 | x :: xs, h => by rw [uo, h x List.mem_cons_self, FW xs fun y hy => h y (List.mem_cons_of_mem _ hy)]
theorem xM (xs : List Raw) (h1 : ∀ x ∈ xs, dW x 31 ≤ 31 ∧ norm x = x) (h2 : (Rlp.EL xs).length ≤ 2097152) : zZ (.mk true [] xs) := by
 refine ⟨qR ?_ ?_, by rw [norm, FW xs fun x hx => (h1 x hx).2]⟩
 · exact Jn.Cb xs [] 31 31 fun x hx => (h1 x hx).1
 ·
  rw [Rlp.E, List.length_append, gW]
  unfold szB
  have := gU 4 (Rlp.EL xs).length (by omega)
  simp only [most]
  split <;> omega
theorem QC (n : Nat) : ∀ xs : List Raw, (∀ x ∈ xs, (Rlp.E x).length ≤ n) → (Rlp.EL xs).length ≤ n * xs.length
 | [], _ => by simp [Rlp.EL]
 | x :: xs, h => by
  rw [Rlp.EL, List.length_append, List.length_cons, Nat.mul_succ]
  have h1 := h x List.mem_cons_self
  have h2 := QC n xs fun y hy => h y (List.mem_cons_of_mem _ hy)
  omega
theorem zx {l : List Pr} {x : Raw} (h : zZ x) : Vk (jC l x) 36 := by
 unfold jC
 split
 ·
  have := lH [] (by decide)
  exact ⟨this.1, Nat.le_trans this.2.1 (by decide), this.2.2⟩
 · exact Sj h
structure o8 (l : List Pr) : Prop where
 nib : ∀ x ∈ l, ∀ c ∈ x.1, c.toNat ≤ 15
 len : ∀ x ∈ l, x.1.length ≤ 130
 val : ∀ x ∈ l, x.2.length ≤ 1048576
 some : ∀ x ∈ l, x.2 ≠ []
 fn : ∀ x ∈ l, ∀ y ∈ l, x.1 = y.1 → x = y
theorem qL : ∀ (l : List Pr) (v : List UInt8), (l.foldl (fun v x => if x.1.isEmpty then x.2 else v) v = v ∧ ∀ x ∈ l, x.1 ≠ []) ∨ ∃ x ∈ l, x.1 = [] ∧ l.foldl (fun v x => if x.1.isEmpty then x.2 else v) v = x.2
 | [], v => .inl ⟨rfl, fun x hx => by cases hx⟩
 | y :: l, v => by
  rw [List.foldl_cons]
  rcases qL l (if y.1.isEmpty then y.2 else v) with ⟨h1, h2⟩ | ⟨x, hx, h1, h2⟩
  ·
   rw [h1]
   by_cases hy : y.1 = []
   ·
    refine .inr ⟨y, List.mem_cons_self, hy, ?_⟩
    rw [hy]
    rfl
   ·
    refine .inl ⟨?_, fun x hx => ?_⟩
    ·
     rw [if_neg]
     simpa using hy
    ·
     rcases List.mem_cons.1 hx with rfl | hx
     · exact hy
     · exact h2 x hx
  · exact .inr ⟨x, List.mem_cons_of_mem _ hx, h1, h2⟩
theorem Ei {l : List Pr} (h : o8 l) : (lJ l).length ≤ 1048576 := by
 rcases qL l [] with ⟨h1, _⟩ | ⟨x, hx, _, h2⟩
 ·
  unfold lJ
  rw [h1]
  exact Nat.zero_le _
 ·
  unfold lJ
  rw [h2]
  exact h.val x hx
theorem qU {l : List Pr} (h : o8 l) (n : Nat) (p : List UInt8) (hp : ∀ z ∈ l, z.1 = p ++ z.1.drop n) : o8 (eF n l) where
 nib x hx c hc := by
  obtain ⟨z, hz, rfl⟩ := List.mem_map.1 hx
  exact h.nib z hz c (List.mem_of_mem_drop hc)
 len x hx := by
  obtain ⟨z, hz, rfl⟩ := List.mem_map.1 hx
  have := h.len z hz
  show (z.1.drop n).length ≤ _
  rw [List.length_drop]
  omega
 val x hx := by
  obtain ⟨z, hz, rfl⟩ := List.mem_map.1 hx
  exact h.val z hz
 some x hx := by
  obtain ⟨z, hz, rfl⟩ := List.mem_map.1 hx
  exact h.some z hz
 fn x hx y hy e := by
  obtain ⟨z, hz, rfl⟩ := List.mem_map.1 hx
  obtain ⟨w, hw, rfl⟩ := List.mem_map.1 hy
  have : z = w := h.fn z hz w hw (by rw [hp z hz, hp w hw]; exact congrArg _ e)
  rw [this]
theorem headD_cons {d : Nat} {z : Pr} (h : headD d z = true) : ∃ c t, z.1 = c :: t ∧ c.toNat = d := by
 unfold headD at h
 split at h
 · cases h
 ·
  rename_i c t e
  exact ⟨c, t, e, by simpa using h⟩
theorem Gj {l : List Pr} (h : o8 l) (q : Pr → Bool) : o8 (l.filter q) where
 nib x hx := h.nib x (List.mem_filter.1 hx).1
 len x hx := h.len x (List.mem_filter.1 hx).1
 val x hx := h.val x (List.mem_filter.1 hx).1
 some x hx := h.some x (List.mem_filter.1 hx).1
 fn x hx y hy := h.fn x (List.mem_filter.1 hx).1 y (List.mem_filter.1 hy).1
theorem ql {l : List Pr} (h : o8 l) (d : Nat) : o8 (cZ d l) := by
 refine qU (Gj h (headD d)) 1 [UInt8.ofNat d] fun z hz => ?_
 obtain ⟨c, t, e, hc⟩ := headD_cons (List.mem_filter.1 hz).2
 rw [e, ← hc, UInt8.ofNat_toNat]
 rfl
theorem P7 (x y : Pr) (r : List Pr) : ∀ z ∈ x :: y :: r, z.1 = x.1.take (dQ x.1 (y :: r)) ++ z.1.drop (dQ x.1 (y :: r)) := fun z hz => by
 have hcm := lX x.1 (y :: r) x.1.length (Nat.le_refl _)
 have : z.1.take (dQ x.1 (y :: r)) = x.1.take (dQ x.1 (y :: r)) := by
  rcases List.mem_cons.1 hz with rfl | hz
  · rfl
  ·
   have h1 : dQ x.1 (y :: r) ≤ common x.1 z.1 := hcm.2 z hz
   have h2 := (gX x.1 z.1).1
   have := congrArg (List.take (dQ x.1 (y :: r))) h2
   rw [List.take_take, List.take_take, Nat.min_eq_left h1] at this
   exact this.symm
 rw [← this, List.take_append_drop]
theorem kY : ∀ (f : Nat) (l : List Pr), o8 l → zZ (bF f l)
 | 0, _, _ => by
  rw [bF]
  exact ⟨qR (by rw [dW]; omega) (by rw [Rlp.E]; decide), by rw [norm]⟩
 | f + 1, [], _ => by rw [bF]; exact xM [] (fun x hx => by cases hx) (by simp [Rlp.EL])
 | f + 1, [x], h => by
  rw [bF]
  have h1 := lH (ppk x.1 true) (by have := xI x.1 true; have := h.len x List.mem_cons_self; omega)
  have h2 := lH x.2 (h.val x List.mem_cons_self)
  have h3 := xI x.1 true
  have h4 := h.len x List.mem_cons_self
  have h5 := h.val x List.mem_cons_self
  refine xM _ (fun y hy => ?_) ?_
  ·
   simp at hy
   rcases hy with rfl | rfl
   · exact ⟨h1.1, h1.2.2⟩
   · exact ⟨h2.1, h2.2.2⟩
  ·
   have a := h1.2.1
   have b := h2.2.1
   simp only [Rlp.EL, List.length_append, List.length_nil]
   omega
 | f + 1, x :: y :: r, h => by
  rw [bF]
  have hcm := lX x.1 (y :: r) x.1.length (Nat.le_refl _)
  change dQ x.1 (y :: r) ≤ x.1.length ∧ _ at hcm
  have h4 := h.len x List.mem_cons_self
  have hpre := P7 x y r
  split
  ·
   have ih := kY f _ (qU h _ _ hpre)
   have h1 := lH (ppk (x.1.take (dQ x.1 (y :: r))) false) (by have := xI (x.1.take (dQ x.1 (y :: r))) false; rw [List.length_take] at this; omega)
   have h2 := zx (l := eF (dQ x.1 (y :: r)) (x :: y :: r)) ih
   have h3 := xI (x.1.take (dQ x.1 (y :: r))) false
   rw [List.length_take] at h3
   refine xM _ (fun u hu => ?_) ?_
   ·
    simp at hu
    rcases hu with rfl | rfl
    · exact ⟨h1.1, h1.2.2⟩
    · exact ⟨h2.1, h2.2.2⟩
   ·
    have a := h1.2.1
    have b := h2.2.1
    simp only [Rlp.EL, List.length_append, List.length_nil]
    omega
  ·
   have ih : ∀ d, zZ (bF f (cZ d (x :: y :: r))) := fun d => kY f _ (ql h d)
   have hv := lH (lJ (x :: y :: r)) (Ei h)
   have hvl := Ei h
   refine xM _ (fun u hu => ?_) ?_
   ·
    rcases List.mem_append.1 hu with hu | hu
    ·
     obtain ⟨d, _, rfl⟩ := List.mem_map.1 hu
     have := zx (l := cZ d (x :: y :: r)) (ih d)
     exact ⟨this.1, this.2.2⟩
    ·
     obtain rfl : u = _ := by simpa using hu
     exact ⟨hv.1, hv.2.2⟩
   ·
    have h1 := QC 36 ((List.range 16).map fun d => jC (cZ d (x :: y :: r)) (bF f (cZ d (x :: y :: r)))) (fun u hu => by
     obtain ⟨d, _, rfl⟩ := List.mem_map.1 hu
     exact (zx (ih d)).2.1)
    rw [List.length_map, List.length_range] at h1
    rw [rD, List.length_append]
    have b := hv.2.1
    simp only [Rlp.EL, List.length_append, List.length_nil]
    omega
def kV (U V : List (List UInt8)) : Prop := ∀ u ∈ U, ∀ v ∈ V, hash u = hash v → u = v
theorem Ot {x y : Raw} (hx : zZ x) (hy : zZ y) (h : pkB x = pkB y) : x = y := by
 rw [Dn hx, Dn hy] at h
 have h1 := tZ hx.1
 have h2 := tZ hy.1
 rw [h, h2, hx.2, hy.2] at h1
 injection h1 with h1
 exact h1.symm
theorem Fp {l m : List Pr} {U V : List (List UInt8)} {x y : Raw} {xs ys : List Raw} (hx : zZ x) (hy : zZ y) (hxl : l.isEmpty = false → x = .mk true [] xs) (hyl : m.isEmpty = false → y = .mk true [] ys) (H : kV (nV l U x) (nV m V y)) (h : jC l x = jC m y) :
  (l.isEmpty = true ∧ m.isEmpty = true) ∨ (l.isEmpty = false ∧ m.isEmpty = false ∧ x = y) := by
 have hl32 : ∀ b : List UInt8, hash b ≠ [] := fun b e => by
  have := dV b
  rw [e] at this
  cases this
 unfold kV nV at H
 unfold jC at h
 cases hl : l.isEmpty with
 | true =>
  rw [hl, if_pos rfl] at h
  cases hm : m.isEmpty with
  | true => exact .inl ⟨rfl, rfl⟩
  | false =>
   rw [hm, if_neg Bool.false_ne_true] at h
   unfold vC at h
   split at h
   ·
    rw [hyl hm] at h
    injection h with h
    cases h
   ·
    injection h with _ h
    exact absurd h.symm (hl32 _)
 | false =>
  rw [hl, if_neg Bool.false_ne_true] at h
  cases hm : m.isEmpty with
  | true =>
   rw [hm, if_pos rfl] at h
   unfold vC at h
   split at h
   ·
    rw [hxl hl] at h
    injection h with h
    cases h
   ·
    injection h with _ h
    exact absurd h (hl32 _)
  | false =>
   rw [hm, if_neg Bool.false_ne_true] at h
   rw [hl, hm, if_neg Bool.false_ne_true, if_neg Bool.false_ne_true] at H
   refine .inr ⟨rfl, rfl, ?_⟩
   unfold vC at h
   split at h
   ·
    split at h
    · exact h
    ·
     rw [hxl hl] at h
     injection h with h
     cases h
   ·
    rename_i h1
    split at h
    ·
     rw [hyl hm] at h
     injection h with h
     cases h
    ·
     rename_i h2
     injection h with _ h
     exact Ot hx hy (H _ (List.mem_append.2 (.inr (by rw [if_neg h1]; exact List.mem_singleton.2 rfl))) _ (List.mem_append.2 (.inr (by rw [if_neg h2]; exact List.mem_singleton.2 rfl))) h)
theorem Fj {l m : List Pr} {U V : List (List UInt8)} {x y : Raw} (hl : l.isEmpty = false) (hm : m.isEmpty = false) (H : kV (nV l U x) (nV m V y)) : kV U V := fun u hu v hv e => by
 unfold kV nV at H
 rw [hl, hm, if_neg Bool.false_ne_true, if_neg Bool.false_ne_true] at H
 exact H u (List.mem_append.2 (.inl hu)) v (List.mem_append.2 (.inl hv)) e
inductive WI (f : Nat) (l : List Pr) : Prop where
 | leaf (x : Pr) (h : l = [x]) (hn : bF (f + 1) l = .mk true [] [.mk false (ppk x.1 true) [], .mk false x.2 []])
 | ext (p : List UInt8) (h0 : 0 < p.length) (hp : ∀ z ∈ l, z.1 = p ++ z.1.drop p.length) (hs : ∀ c ∈ p, ∃ z ∈ l, c ∈ z.1) (hn : bF (f + 1) l = .mk true [] [.mk false (ppk p false) [], jC (eF p.length l) (bF f (eF p.length l))]) (hU : gZ (f + 1) l = nV (eF p.length l) (gZ f (eF p.length l)) (bF f (eF p.length l)))
 | br (hn : bF (f + 1) l = .mk true [] ((List.range 16).map (fun d => jC (cZ d l) (bF f (cZ d l))) ++ [.mk false (lJ l) []])) (hU : gZ (f + 1) l = ((List.range 16).map fun d => nV (cZ d l) (gZ f (cZ d l)) (bF f (cZ d l))).flatten)
theorem Ur (f : Nat) : ∀ l : List Pr, l.isEmpty = false → WI f l
 | [x], _ => .leaf x rfl (by rw [bF])
 | x :: y :: r, _ => by
  by_cases hp : 0 < dQ x.1 (y :: r)
  ·
   have hle : dQ x.1 (y :: r) ≤ x.1.length := (lX x.1 (y :: r) x.1.length (Nat.le_refl _)).1
   have hln : (x.1.take (dQ x.1 (y :: r))).length = dQ x.1 (y :: r) := by rw [List.length_take]; omega
   refine .ext (x.1.take (dQ x.1 (y :: r))) (by omega) ?_ (fun c hc => ⟨x, List.mem_cons_self, List.mem_of_mem_take hc⟩) ?_ ?_
   ·
    rw [hln]
    exact P7 x y r
   · rw [hln, bF, if_pos hp]
   · rw [hln, gZ, if_pos hp]
  ·
   refine .br ?_ ?_
   · rw [bF, if_neg hp]
   · rw [gZ, if_neg hp]
theorem lT (f : Nat) (l : List Pr) : ∃ xs, bF (f + 1) l = .mk true [] xs := by
 cases hl : l.isEmpty with
 | true =>
  obtain rfl : l = [] := by simpa using hl
  exact ⟨_, by rw [bF]⟩
 | false =>
  rcases Ur f l hl with ⟨x, _, h⟩ | ⟨p, _, _, _, h, _⟩ | ⟨h, _⟩ <;> exact ⟨_, h⟩
theorem QJ {l : List Pr} (h : o8 l) {z : Pr} (hz : z ∈ l) (h0 : z.1 = []) : lJ l = z.2 := by
 rcases qL l [] with ⟨_, h2⟩ | ⟨x, hx, h1, h2⟩
 · exact absurd h0 (h2 z hz)
 ·
  unfold lJ
  rw [h2, h.fn x hx z hz (by rw [h1, h0])]
theorem QI {l : List Pr} (h : lJ l ≠ []) : ∃ z ∈ l, z.1 = [] ∧ z.2 = lJ l := by
 rcases qL l [] with ⟨h1, _⟩ | ⟨x, hx, h1, h2⟩
 · exact absurd h1 h
 · exact ⟨x, hx, h1, h2.symm⟩
theorem xB {d : Nat} {l : List Pr} {z : Pr} (h : z ∈ cZ d l) : (cZ d l).isEmpty = false := by
 cases hk : cZ d l with
 | nil => rw [hk] at h; cases h
 | cons _ _ => rfl
theorem J5 {d : Nat} {l : List Pr} {t : List UInt8} {v : List UInt8} (hd : d < 256) : (t, v) ∈ cZ d l ↔ (UInt8.ofNat d :: t, v) ∈ l := by
 constructor
 ·
  intro h
  obtain ⟨w, hw, hh, e⟩ := uD h
  obtain ⟨c, s, e1, e2⟩ := headD_cons hh
  injection e with e3 e4
  rw [e1, List.drop_succ_cons, List.drop_zero] at e3
  have : w = (UInt8.ofNat d :: t, v) := Prod.ext (by rw [e1, ← e2, UInt8.ofNat_toNat, e3]) e4.symm
  rw [← this]
  exact hw
 ·
  intro h
  refine List.mem_map.2 ⟨_, List.mem_filter.2 ⟨h, ?_⟩, rfl⟩
  simp only [headD, UInt8.toNat_ofNat']
  rw [Nat.mod_eq_of_lt hd]
  simp
theorem yS : ∀ (f : Nat) (l m : List Pr), l.isEmpty = false → m.isEmpty = false → (∀ x ∈ l, x.1.length < f) → (∀ x ∈ m, x.1.length < f) → o8 l → o8 m → kV (gZ f l) (gZ f m) → bF f l = bF f m → ∀ z ∈ l, z ∈ m
 | 0, l, m, hl, _, hf, _, _, _, _, _ => by
  cases l with
  | nil => cases hl
  | cons x r => exact absurd (hf x List.mem_cons_self) (Nat.not_lt_zero _)
 | f + 1, l, m, hl, hm, hfl, hfm, gl, gm, H, h => by
  intro z hz
  rcases Ur f l hl with ⟨x, h1, n1⟩ | ⟨p, p0, hp, ps, n1, u1⟩ | ⟨n1, u1⟩ <;> rcases Ur f m hm with ⟨y, h2, n2⟩ | ⟨q, q0, hq, qs, n2, u2⟩ | ⟨n2, u2⟩ <;> rw [n1, n2] at h <;> injection h with _ _ h
  ·
   injection h with e1 e2
   injection e1 with _ e1
   injection e2 with e2
   injection e2 with _ e2
   subst h1 h2
   obtain ⟨e, _⟩ := xJ (gl.nib x List.mem_cons_self) (gm.nib y List.mem_cons_self) e1
   obtain rfl : z = x := by simpa using hz
   rw [show z = y from Prod.ext e e2]
   exact List.mem_cons_self
  ·
   injection h with e1 e2
   injection e1 with _ e1
   subst h1
   obtain ⟨_, e⟩ := xJ (gl.nib x List.mem_cons_self) (fun c hc => by obtain ⟨w, hw, h3⟩ := qs c hc; exact gm.nib w hw c h3) e1
   cases e
  ·
   have := congrArg List.length h
   simp at this
  ·
   injection h with e1 e2
   injection e1 with _ e1
   subst h2
   obtain ⟨_, e⟩ := xJ (fun c hc => by obtain ⟨w, hw, h3⟩ := ps c hc; exact gl.nib w hw c h3) (gm.nib y List.mem_cons_self) e1
   cases e
  ·
   injection h with e1 e2
   injection e1 with _ e1
   injection e2 with e2
   obtain ⟨e, _⟩ := xJ (fun c hc => by obtain ⟨w, hw, h3⟩ := ps c hc; exact gl.nib w hw c h3) (fun c hc => by obtain ⟨w, hw, h3⟩ := qs c hc; exact gm.nib w hw c h3) e1
   subst e
   rw [u1, u2] at H
   have gl' := qU gl _ _ hp
   have gm' := qU gm _ _ hq
   have hl' : (eF p.length l).isEmpty = false := by
    cases l with
    | nil => cases hl
    | cons _ _ => rfl
   have hm' : (eF p.length m).isEmpty = false := by
    cases m with
    | nil => cases hm
    | cons _ _ => rfl
   have hshort : ∀ (l : List Pr), (∀ x ∈ l, x.1.length < f + 1) → (∀ z ∈ l, z.1 = p ++ z.1.drop p.length) → ∀ x ∈ eF p.length l, x.1.length < f := fun l hfl hp x hx => by
    obtain ⟨w, hw, rfl⟩ := List.mem_map.1 hx
    have h1 := hfl w hw
    have h2 := congrArg List.length (hp w hw)
    rw [List.length_append] at h2
    show (w.1.drop p.length).length < f
    omega
   have hfl' := hshort l hfl hp
   have hfm' := hshort m hfm hq
   obtain ⟨f', rfl⟩ : ∃ f', f = f' + 1 := by
    cases hr : eF p.length l with
    | nil => rw [hr] at hl'; cases hl'
    | cons w _ =>
     have := hfl' w (by rw [hr]; exact List.mem_cons_self)
     exact ⟨f - 1, by omega⟩
   obtain ⟨xs, hxs⟩ := lT f' (eF p.length l)
   obtain ⟨ys, hys⟩ := lT f' (eF p.length m)
   rcases Fp (kY _ _ gl') (kY _ _ gm') (fun _ => hxs) (fun _ => hys) H e2 with ⟨e, _⟩ | ⟨_, _, e⟩
   ·
    rw [hl'] at e
    cases e
   ·
    have ih := yS (f' + 1) _ _ hl' hm' hfl' hfm' gl' gm' (Fj hl' hm' H) e (z.1.drop p.length, z.2) (List.mem_map.2 ⟨z, hz, rfl⟩)
    obtain ⟨w, hw, e⟩ := List.mem_map.1 ih
    injection e with e3 e4
    rw [show z = w from Prod.ext (by rw [hp z hz, hq w hw, e3]) e4.symm]
    exact hw
  ·
   have := congrArg List.length h
   simp at this
  ·
   have := congrArg List.length h
   simp at this
  ·
   have := congrArg List.length h
   simp at this
  ·
   obtain ⟨hk, hv⟩ := List.append_inj h (by simp)
   injection hv with hv
   injection hv with _ hv
   obtain ⟨zp, zv⟩ := z
   cases zp with
   | nil =>
    have h1 := QJ gl hz rfl
    have h2 := gl.some _ hz
    obtain ⟨w, hw, e1, e2⟩ := QI (l := m) (by rw [← hv, h1]; exact h2)
    rw [show (([] : List UInt8), zv) = w from Prod.ext e1.symm (by rw [e2, ← hv, h1])]
    exact hw
   | cons c t =>
    have hc := gl.nib _ hz c List.mem_cons_self
    have hd : c.toNat ∈ List.range 16 := List.mem_range.2 (by omega)
    have hkz : (t, zv) ∈ cZ c.toNat l := (J5 (by omega)).2 (by rw [UInt8.ofNat_toNat]; exact hz)
    have hl' := xB hkz
    have e2 := List.map_inj_left.1 hk c.toNat hd
    have H' : kV (nV (cZ c.toNat l) (gZ f (cZ c.toNat l)) (bF f (cZ c.toNat l))) (nV (cZ c.toNat m) (gZ f (cZ c.toNat m)) (bF f (cZ c.toNat m))) := fun u hu v hv e => H u (by rw [u1]; exact List.mem_flatten.2 ⟨_, List.mem_map.2 ⟨_, hd, rfl⟩, hu⟩) v (by rw [u2]; exact List.mem_flatten.2 ⟨_, List.mem_map.2 ⟨_, hd, rfl⟩, hv⟩) e
    have hshort : ∀ (l : List Pr), (∀ x ∈ l, x.1.length < f + 1) → ∀ x ∈ cZ c.toNat l, x.1.length < f := fun l hfl x hx => by
     obtain ⟨w, hw, hh, rfl⟩ := uD hx
     have h1 := hfl w hw
     have h2 := vV hh
     show (w.1.drop 1).length < f
     rw [List.length_drop]
     omega
    obtain ⟨f', rfl⟩ : ∃ f', f = f' + 1 := by
     have := hshort l hfl _ hkz
     exact ⟨f - 1, by omega⟩
    obtain ⟨xs, hxs⟩ := lT f' (cZ c.toNat l)
    obtain ⟨ys, hys⟩ := lT f' (cZ c.toNat m)
    rcases Fp (kY _ _ (ql gl _)) (kY _ _ (ql gm _)) (fun _ => hxs) (fun _ => hys) H' e2 with ⟨e, _⟩ | ⟨_, hm', e⟩
    ·
     rw [hl'] at e
     cases e
    ·
     have ih := yS (f' + 1) _ _ hl' hm' (hshort l hfl) (hshort m hfm) (ql gl _) (ql gm _) (Fj hl' hm' H') e _ hkz
     have := (J5 (by omega)).1 ih
     rw [UInt8.ofNat_toNat] at this
     exact this
theorem G6 {l : List Pr} : ig l = 0 ↔ l.length ≤ 100000 ∧ (∀ x ∈ l, x.1.length ≤ 64 ∧ x.2.length ≤ 1048576 ∧ x.2 ≠ []) ∧ (l.map (·.1)).Nodup := by
 have hnd : ((l.map sp).map (·.1)).Nodup ↔ (l.map (·.1)).Nodup := by
  have : (l.map sp).map (·.1) = (l.map (·.1)).map split := by rw [List.map_map, List.map_map]; rfl
  rw [this]
  unfold List.Nodup
  rw [List.pairwise_map]
  constructor
  ·
   intro h
   exact h.imp fun h e => h (congrArg split e)
  ·
   intro h
   exact h.imp fun h e => h (lK _ _ e)
 unfold ig
 constructor
 ·
  intro h
  split at h
  · cases h
  ·
   rename_i h1
   split at h
   · cases h
   ·
    rename_i h2
    split at h
    ·
     rename_i h3
     have h1a : ¬ 100000 < l.length := fun e => h1 (.inl e)
     have h1b : l.any lg = false := by simpa using fun e => h1 (.inr e)
     refine ⟨by omega, fun x hx => ⟨(iM h1b hx).1, (iM h1b hx).2, fun e => h2 (List.any_eq_true.2 ⟨x, hx, by rw [e]; rfl⟩)⟩, hnd.1 h3⟩
    · cases h
 ·
  rintro ⟨h1, h2, h3⟩
  rw [if_neg, if_neg, if_pos (hnd.2 h3)]
  ·
   intro h
   obtain ⟨x, hx, e⟩ := List.any_eq_true.1 h
   exact (h2 x hx).2.2 (by simpa using e)
  ·
   rintro (h | h)
   · omega
   ·
    obtain ⟨x, hx, e⟩ := List.any_eq_true.1 h
    have := h2 x hx
    unfold lg at e
    rcases Bool.or_eq_true _ _ ▸ e with e | e
    ·
     have := of_decide_eq_true e
     omega
    ·
     have := of_decide_eq_true e
     omega
theorem RZ {l : List Pr} (h : (l.map (·.1)).Nodup) : ∀ x ∈ l, ∀ y ∈ l, x.1 = y.1 → x = y := by
 induction l with
 | nil => intro x hx; cases hx
 | cons z l ih =>
  rw [List.map_cons, List.nodup_cons] at h
  intro x hx y hy e
  rcases List.mem_cons.1 hx with ex | hx <;> rcases List.mem_cons.1 hy with ey | hy
  · rw [ex, ey]
  · exact absurd (List.mem_map.2 ⟨y, hy, by rw [← e, ex]⟩) h.1
  · exact absurd (List.mem_map.2 ⟨x, hx, by rw [e, ey]⟩) h.1
  · exact ih h.2 x hx y hy e
theorem DK {l : List Pr} (h : ig l = 0) : o8 (l.map sp) := by
 obtain ⟨_, h2, h3⟩ := G6.1 h
 have hf := RZ h3
 constructor
 ·
  intro x hx c hc
  obtain ⟨w, hw, rfl⟩ := List.mem_map.1 hx
  exact tC _ c hc
 ·
  intro x hx
  obtain ⟨w, hw, rfl⟩ := List.mem_map.1 hx
  have := (h2 w hw).1
  show (split w.1).length ≤ _
  rw [fA]
  omega
 ·
  intro x hx
  obtain ⟨w, hw, rfl⟩ := List.mem_map.1 hx
  exact (h2 w hw).2.1
 ·
  intro x hx
  obtain ⟨w, hw, rfl⟩ := List.mem_map.1 hx
  exact (h2 w hw).2.2
 ·
  intro x hx y hy e
  obtain ⟨w, hw, rfl⟩ := List.mem_map.1 hx
  obtain ⟨v, hv, rfl⟩ := List.mem_map.1 hy
  rw [hf w hw v hv (lK _ _ e)]
theorem x9 {S : List Pr} (h : Srt S) {k a b : List UInt8} (ha : (k, a) ∈ S) (hb : (k, b) ∈ S) : a = b := by
 induction S with
 | nil => cases ha
 | cons z S ih =>
  obtain ⟨h1, h2⟩ := List.pairwise_cons.1 h
  have hirr : ∀ l : List UInt8, Op.bytesLess l l = true → False := fun l e => by
   rw [DZ] at e
   exact List.lt_irrefl _ (of_decide_eq_true e)
  rcases List.mem_cons.1 ha with ea | ha <;> rcases List.mem_cons.1 hb with eb | hb
  ·
   rw [← ea] at eb
   injection eb with _ e
   exact e.symm
  ·
   have := h1 _ hb
   rw [← ea] at this
   exact (hirr _ this).elim
  ·
   have := h1 _ ha
   rw [← eb] at this
   exact (hirr _ this).elim
  · exact ih h2 ha hb
theorem wF {l m : List Pr} {S : List Pr} (hS : Srt S) (h1 : ∀ x ∈ jv l, (hash x, x) ∈ S) (h2 : ∀ x ∈ jv m, (hash x, x) ∈ S) : kV (jv l) (jv m) := fun u hu v hv e => by
 have a := h1 u hu
 rw [e] at a
 exact x9 hS a (h2 v hv)
theorem Uj {x : Raw} (h : zZ x) {xs : List Raw} (hx : x = .mk true [] xs) : pkB x ≠ [128] := fun e => by
 rw [Dn h, hx] at e
 have h1 := congrArg List.length e
 rw [Rlp.E] at e h1
 rw [List.length_append, gW] at h1
 unfold szB at h1
 simp only [List.length_singleton] at h1
 split at h1
 ·
  have h0 : Rlp.EL xs = [] := List.eq_nil_of_length_eq_zero (by omega)
  rw [h0] at e
  revert e
  decide +kernel
 · omega
theorem AQ {l m : List Pr} (hl : ig l = 0) (hm : ig m = 0) (H : kV (jv l) (jv m)) (h : kW l = kW m) : ∀ z ∈ l, z ∈ m := by
 rw [← yG, ← yG] at h
 unfold Fb at h
 rw [hl, hm, if_neg (show ¬ (0 ≠ 0) by decide), if_neg (show ¬ (0 ≠ 0) by decide)] at h
 unfold kV jv at H
 have hL : ∀ l : List Pr, l.isEmpty = false → (l.map sp).isEmpty = false := fun l h => by
  cases l with
  | nil => cases h
  | cons _ _ => rfl
 have hF : ∀ l : List Pr, ig l = 0 → ∀ x ∈ l.map sp, x.1.length < 200 := fun l h x hx => by
  have := (DK h).len x hx
  omega
 intro z hz
 have hle : l.isEmpty = false := by
  cases l with
  | nil => cases hz
  | cons _ _ => rfl
 rw [hle, if_neg Bool.false_ne_true] at H h
 obtain ⟨xs, hxs⟩ := lT 199 (l.map sp)
 have gl := DK hl
 have gm := DK hm
 cases hme : m.isEmpty with
 | true =>
  rw [hme, if_pos rfl] at H h
  unfold oU at h
  have := H _ (List.mem_cons_of_mem _ (List.mem_append.2 (.inr (List.mem_singleton.2 rfl)))) _ List.mem_cons_self h
  exact absurd this (Uj (kY 200 _ gl) hxs)
 | false =>
  rw [hme, if_neg Bool.false_ne_true] at H h
  have e1 := H _ (List.mem_cons_of_mem _ (List.mem_append.2 (.inr (List.mem_singleton.2 rfl)))) _ (List.mem_cons_of_mem _ (List.mem_append.2 (.inr (List.mem_singleton.2 rfl)))) h
  have e2 := Ot (kY 200 _ gl) (kY 200 _ gm) e1
  have ih := yS 200 _ _ (hL l hle) (hL m hme) (hF l hl) (hF m hm) gl gm (fun u hu v hv e => H u (List.mem_cons_of_mem _ (List.mem_append.2 (.inl hu))) v (List.mem_cons_of_mem _ (List.mem_append.2 (.inl hv))) e) e2 (sp z) (List.mem_map.2 ⟨z, hz, rfl⟩)
  obtain ⟨w, hw, e⟩ := List.mem_map.1 ih
  injection e with e3 e4
  rw [show z = w from Prod.ext (lK _ _ e3.symm) e4.symm]
  exact hw
theorem Il {l m : List Pr} (hp : l.Perm m) (hl : ig l = 0) : ig m = 0 ∧ kW l = kW m := by
 obtain ⟨h1, h2, h3⟩ := G6.1 hl
 have hm : ig m = 0 := G6.2 ⟨by rw [← hp.length_eq]; exact h1, fun x hx => h2 x (hp.mem_iff.2 hx), (hp.map _).nodup_iff.1 h3⟩
 refine ⟨hm, ?_⟩
 unfold kW
 rw [hl, hm]
 unfold xY
 have hnd := (ku hl).2.2
 have : srt (l.map sp) = srt (m.map sp) := (NW (ps := m.map sp) ((iW _).trans (hp.map sp)) (su _) (ku hm).2.2)
 rw [this]
end E
end Go.Proofs.YtiledgojbpmoiaaGreat
