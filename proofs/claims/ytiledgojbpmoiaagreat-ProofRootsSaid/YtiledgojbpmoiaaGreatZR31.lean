/-
 Merged (wip/tools/merge.py): SD3, PathPl0, Ppk, SD4, SD5.
 Conditions: none.
-/
import Derived.Test.YtiledgojbpmoiaaGreatZR30
import Derived.Test.YtiledgojbpmoiaaGreatZR29
import Derived.Test.YtiledgojbpmoiaaGreatZR2
import Derived.Test.YtiledgojbpmoiaaGreatZR11
import Derived.Test.YtiledgojbpmoiaaGreatZR17
namespace Go.Proofs.YtiledgojbpmoiaaGreat
set_option linter.unusedVariables false
set_option maxRecDepth 20000
set_option maxHeartbeats 16000000
open Go.RowKit Mono Rlp
namespace E
theorem Us (g : Nat) (v : Value) (S : List Pr) (b : List UInt8) (hs : Srt S) (hl : S.length ≤ 1000000000) (hb : b.length ≤ 1099511627776) : FnM 40 [.v (ptr g), .bs b] [sdO g v, sdR v S] (fun r os' => ∃ v', r = .val (.v (.bool (okN (hash b, b) S))) ∧ os' = [sdO g v', sdR v' (iw (hash b, b) S)]) := by
 have hK := uM b hb
 have hA := OE g v S (hash b) b hs hl (by omega)
 refine FnM.walk 10 Tryz.func40 rfl Tryz.ntmps40 (by simp) fun X => ?_
 repeat
  (first
   | (apply aA (hK); rfl; exact aj.refl _ _; exact enA; iterate 2 rfl) | (apply au; iterate 3 rfl) | (apply ak; iterate 3 rfl) | apply EL.nil
   | ((with_reducible apply EK.ah); apply EK.code) | (with_reducible first | apply EC.seq | apply EC.region))
 refine jE hA [] [] rfl rfl (aj.refl _ _) (by intro _ _; simp [go_sem]) rfl rfl ?_
 rintro _ _ ⟨v', rfl, rfl⟩
 simp only [List.cons_append, List.nil_append]
 repeat
  (first
   | (apply ak; iterate 3 rfl) | apply EL.nil | ((with_reducible apply EK.ah); apply EK.code) | (with_reducible apply EC.ret))
 exact EK.iy [sdO g v', sdR v' (iw (hash b, b) S)] rfl rfl (by (repeat first | exact List.nil_sublist _ | apply List.Sublist.cons_cons | apply List.Sublist.cons)) ⟨v', rfl, rfl⟩
def ni (l : List Pr) : List (List UInt8) := [128] :: (if l.isEmpty then [] else dF 200 (l.map sp) ++ [pkB (aG 200 (l.map sp))])
def Jp (U : List (List UInt8)) (C : Nat) (S S' : List Pr) (b : Bool) : Prop := Srt S' ∧ S'.length ≤ S.length + C ∧ (∀ y ∈ S, y ∈ S') ∧ (b = true → ∀ x ∈ U, (hash x, x) ∈ S')
theorem Rh (gs : Nat) (v : Value) (S : List Pr) (l : List Pr) (hs : Srt S) (hS : S.length ≤ 900000000) (he : fP l = 0) : FnM 39 [.v (ptr gs), .sl 2 (l.map dPr)] [sdO gs v, sdR v S] (fun r os' => ∃ b v' S', Jp (ni l) (2 + 200 * l.length) S S' b ∧ r = .val (.v (.bool b)) ∧ os' = [sdO gs v', sdR v' S']) := by
 have hml : (l.map dPr).length = l.length := List.length_map _
 have hA := Us gs v S [128] hs (by omega) (by decide)
 have hs1 := yM (hash [128], [128]) S hs
 have hl1 := qh (hash [128], [128]) S
 have hi1 := yL (hash [128], [128]) S
 have hm1 := IB (hash [128], [128]) S
 generalize iw (hash [128], [128]) S = S1 at hA hs1 hl1 hi1 hm1
 have hlen := (show l.length ≤ 100000 from by
  unfold fP at he
  split at he
  · cases he
  ·
   rename_i h1
   have : ¬ 100000 < l.length := fun e => h1 (.inl e)
   omega)
 have hlg : l.any lg = false := (lN he).2.1
 refine FnM.walk 56 Tryz.func39 rfl Tryz.ntmps39 (by simp) fun X => ?_
 repeat
  (first
   | (apply jD; (iterate 9 rfl); refine EL.le (Le.slB (t := 11) (l := [128]) rfl) ?_) | (apply au; iterate 3 rfl) | (apply ak; iterate 3 rfl) | apply EL.nil
   | ((with_reducible apply EK.ah); apply EK.code) | (with_reducible first | apply EC.seq | apply EC.region))
 refine jE hA [] [] rfl rfl (aj.refl _ _) (by intro _ _; simp [go_sem]) rfl rfl ?_
 rintro _ _ ⟨v1, rfl, rfl⟩
 simp only [List.cons_append, List.nil_append]
 cases hok : okN (hash [128], [128]) S with
 | false =>
  repeat
   (first
    | (apply ak; iterate 3 rfl) | (apply dP; iterate 3 rfl) | apply EL.nil | ((with_reducible apply EK.ah); apply EK.code) | (apply EC.cond_true; rfl)
    | (with_reducible first | apply EC.seq | apply EC.region | apply EC.ret | apply EK.aH))
  exact EK.iy [sdO gs v1, sdR v1 S1] rfl rfl (by (repeat first | exact List.nil_sublist _ | apply List.Sublist.cons_cons | apply List.Sublist.cons)) ⟨false, v1, S1, ⟨hs1, by omega, hi1, fun h => by cases h⟩, rfl, rfl⟩
 | true =>
  have hm1 := hm1 hok
  by_cases hnil : l = []
  ·
   subst hnil
   repeat
    (first
     | (apply au; iterate 3 rfl) | (apply ak; iterate 3 rfl) | (apply dP; iterate 3 rfl)
     | (apply aC (b := true); (iterate 2 rfl); exact aO; iterate 2 rfl) | (apply aJ; iterate 4 rfl) | apply EL.nil | ((with_reducible apply EK.ah); apply EK.code)
     | (apply EC.cond_true; rfl) | (apply EC.cond_false; rfl) | (with_reducible first | apply EC.seq | apply EC.region | apply EC.skip | apply EC.ret | apply EK.aH))
   exact EK.iy [sdO gs v1, sdR v1 S1] rfl rfl (by (repeat first | exact List.nil_sublist _ | apply List.Sublist.cons_cons | apply List.Sublist.cons)) ⟨true, v1, S1, ⟨hs1, by omega, hi1, fun _ x hx => by
    obtain rfl : x = [128] := by simpa [ni] using hx
    exact hm1⟩, rfl, rfl⟩
  ·
   obtain ⟨y, l', rfl⟩ : ∃ y l', l = y :: l' := by
    cases l with
    | nil => exact absurd rfl hnil
    | cons y l' => exact ⟨y, l', rfl⟩
   have hne : ((y :: l').map sp).isEmpty = false := rfl
   have htU : ni (y :: l') = [128] :: (dF 200 ((y :: l').map sp) ++ [pkB (aG 200 ((y :: l').map sp))]) := rfl
   have hlen2 : ((y :: l').map dPr).length = l'.length + 1 := by simp
   have hL2 : (y :: l').length = l'.length + 1 := rfl
   repeat
    (first
     | (apply au; iterate 3 rfl) | (apply ak; iterate 3 rfl) | (apply dP; iterate 3 rfl)
     | (apply aC (b := false); (iterate 2 rfl); exact aO; iterate 2 rfl) | (apply aJ; iterate 4 rfl) | apply EL.nil | ((with_reducible apply EK.ah); apply EK.code)
     | (apply EC.cond_false; rfl) | (with_reducible first | apply EC.seq | apply EC.region | apply EC.skip | apply EC.block))
   generalize hL : y :: l' = l at *
   clear hnil
   refine EC.le (Le.row 149 2) ?_
   refine EC.loop (ι := {x : Nat × Value // x.1 ≤ l.length})
    (fun x => ⟨[(6, .val (.v (.int .i64 (x.1.1 : Int)))), (5, .val (.v x.1.2)), (0, .val (.v (ptr gs))), (1, .val (.sl 2 (l.map dPr)))], [.row x.1.2 149 2 (((l.take x.1.1).map sp).map dPr), sdO gs v1, sdR v1 S1], []⟩)
    (fun x => l.length - x.1.1) ⟨(0, .slice none 0 0), Nat.zero_le _⟩ ?_ ?_
   · exact Le.kp
   rintro ⟨⟨i, u⟩, hi⟩
   dsimp only at hi ⊢
   by_cases hlt : i < l.length
   ·
    have hd : (l.map dPr)[i]? = some (.tup [.bs l[i].1, .bs l[i].2]) := by rw [List.getElem?_map, List.getElem?_eq_getElem hlt]; rfl
    have hsz := iL hlg (List.getElem_mem hlt)
    have hSp := Gl l[i].1 (by omega)
    have hl3 : (((l.take i).map sp).map dPr).length = i := by rw [List.length_map, List.length_map, List.length_take]; omega
    have htk : ((l.take (i + 1)).map sp).map dPr = ((l.take i).map sp).map dPr ++ [.tup [.bs (split l[i].1), .bs l[i].2]] := by
     rw [List.take_succ_eq_append_getElem hlt, List.map_append, List.map_append]
     rfl
    repeat
     (first
      | (apply au; iterate 3 rfl) | (apply aC (b := true); (iterate 2 rfl); exact aO; iterate 2 rfl) | (apply aJ; iterate 4 rfl) | apply EL.nil
      | ((with_reducible apply EK.ah); apply EK.code) | (apply EC.cond_true; rfl) | (with_reducible first | apply EC.seq | apply EC.region | apply EC.skip | apply EC.block))
    refine EC.jO 15 [0, 1, 2, 3, 4, 5, 6, 7, 8, 9, 10, 11, 12, 13] [14] [_] _ (by kernel_rfl) (by kernel_rfl) rfl ?_
    simp only [bQ, List.filterMap_cons, List.filterMap_nil, List.getElem?_cons_zero, List.getElem?_cons_succ]
    repeat
     (first
      | (apply dW (hSp); rfl; exact aj.refl _ _; exact enA; iterate 2 rfl) | (apply aY; iterate 3 rfl) | (apply dn; iterate 7 rfl)
      | (apply bM; iterate 5 rfl)
      | (apply dI; (iterate 4 rfl); (focus (first | exact ⟨by decide, rfl⟩ | (refine ⟨by omega, ?_⟩; rw [Int.toNat_natCast]; assumption))); iterate 2 rfl)
      | (apply iZ; iterate 7 rfl) | (apply kY; iterate 9 rfl))
    refine EM.nil ?_
    repeat (first | rw [List.cons_append] | rw [List.nil_append])
    refine CH.mut (os := [_]) (rest := []) rfl rfl (iM rfl rfl rfl rfl rfl ?_) ?_
    ·
     rw [hl3]
     constructor <;> (simp; omega)
    rintro _ _ ⟨u', rfl, rfl⟩
    try simp only [St.put]
    repeat (first | rw [List.cons_append] | rw [List.nil_append])
    refine CH.nil ?_
    try simp only [List.drop_succ_cons, List.drop_zero]
    repeat
     (first
      | (apply au; iterate 3 rfl) | (apply ak; iterate 3 rfl) | (apply jd; (iterate 3 rfl); (focus omega); (focus omega); iterate 2 rfl) | apply EL.nil
      | ((with_reducible apply EK.ah); apply EK.code) | (with_reducible first | apply EC.region | apply EK.aI))
    refine EK.again ⟨(i + 1, u'), hlt⟩ (by dsimp only; omega) ?_
    dsimp only
    rw [htk]
    simp only [Int.natCast_add]
    exact Le.kp
   ·
    have hie : i = l.length := by omega
    rw [show l.take i = l by rw [hie, List.take_length]]
    refine EC.le (Le.freeze (pre := []) rfl) ?_
    refine EC.le (Le.refine (t := 5) (d' := .sl 2 ((l.map sp).map dPr)) rfl (Rf.fact List.mem_cons_self rfl)) ?_
    simp only [List.nil_append]
    have hNd : ∀ gb, FnM 78 [.v (ptr gb), .sl 2 ((l.map sp).map dPr)] [oB gb gs [] false, sdO gs v1, sdR v1 S1] (fun r os' => ∃ t : SS, SSR (dF 200 (l.map sp)) (200 * (l.map sp).length) ⟨[], false, v1, S1, hs1⟩ t ∧ r = .val (aW (aG 200 (l.map sp))) ∧ os' = [oB gb gs t.ns t.c, sdO gs t.v, sdR t.v t.S]) := fun gb => Jm (Wx gb gs) 200 (l.map sp) (⟨[], false, v1, S1, hs1⟩ : SS) hne (fun z hz => by
     obtain ⟨w, hw, rfl⟩ := List.mem_map.1 hz
     have := iL hlg hw
     show (split w.1).length < 200
     rw [dG]
     omega) (fun z hz => by
     obtain ⟨w, hw, rfl⟩ := List.mem_map.1 hz
     have := iL hlg hw
     show (split w.1).length ≤ _
     rw [dG]
     omega) (by rw [List.length_map]; omega) (by rw [List.length_map]; show max 0 S1.length + _ ≤ _; omega)
    have h2 := DI (aG 200 (l.map sp))
    repeat
     (first
      | (apply gU; rfl; rfl; rfl; intro gb; refine EL.le (Le.QV (d' := .tup [.sl 33 (([] : List Pr).map dNd), .v (ptr gs), .v (.bool false)]) (by apply Rf.tup; exact RL.cons Rf.sl0 (RL.cons Rf.same (RL.cons Rf.same RL.nil)))) ?_)
      | (apply au; iterate 3 rfl) | (apply ak; iterate 3 rfl) | (apply aC (b := false); (iterate 2 rfl); exact aO; iterate 2 rfl)
      | (apply aJ; iterate 4 rfl) | (apply eU; iterate 7 rfl) | apply EL.nil | ((with_reducible apply EK.ah); apply EK.code) | (apply EC.cond_false; rfl)
      | (with_reducible first | apply EC.seq | apply EC.region | apply EC.exit | apply EK.bG | apply EK.aQ))
    refine jE (hNd gb) [] [] rfl rfl (aj.refl _ _) (by intro _ _; simp [go_sem]) rfl rfl ?_
    rintro _ _ ⟨t, hn1, rfl, rfl⟩
    simp only [List.cons_append, List.nil_append]
    rw [List.length_map] at hn1
    have hle := xG (aG 200 (l.map sp))
    have hpt : FnM 79 [.v (ptr gb), .bs (pkB (aG 200 (l.map sp)))] [oB gb gs t.ns t.c, sdO gs t.v, sdR t.v t.S] (fun r os' => ∃ t' : SS, SSR [pkB (aG 200 (l.map sp))] 1 t t' ∧ r = .val (.arr 32 (hash (pkB (aG 200 (l.map sp))))) ∧ os' = [oB gb gs t'.ns t'.c, sdO gs t'.v, sdR t'.v t'.S]) := (Wx gb gs).put t _ (by
     have h1 := hn1.1
     have h2 := hn1.2.1
     dsimp only [List.length_nil] at h1 h2
     show max t.ns.length t.S.length ≤ _
     omega) hle
    have hfin : ∀ t' : SS, SSR [pkB (aG 200 (l.map sp))] 1 t t' → Jp (ni l) (2 + 200 * l.length) S t'.S (!t'.c) := fun t' ht => by
     refine ⟨t'.srt, ?_, fun z hz => ht.2.2.1 _ (hn1.2.2.1 _ (hi1 z hz)), fun hc => ?_⟩
     ·
      have h1 := ht.2.1
      have h2 := hn1.2.1
      dsimp only at h2
      omega
     ·
      obtain ⟨a1, a2⟩ := ht.2.2.2 (by simpa using hc)
      obtain ⟨b1, b2⟩ := hn1.2.2.2 a1
      intro z hz
      rw [htU] at hz
      rcases List.mem_cons.1 hz with rfl | hz
      · exact ht.2.2.1 _ (hn1.2.2.1 _ hm1)
      ·
       rcases List.mem_append.1 hz with hz | hz
       · exact ht.2.2.1 _ (b2 z hz)
       · exact a2 z hz
    have hpb : packed (aG 200 (l.map sp)) = none ∨ packed (aG 200 (l.map sp)) = some (pkB (aG 200 (l.map sp))) := by
     unfold pkB
     cases h : packed (aG 200 (l.map sp)) with
     | none => exact .inl rfl
     | some b => exact .inr rfl
    clear hn1 hNd
    rcases hpb with hp | hp
    ·
     have h0 : pkB (aG 200 (l.map sp)) = [] := by unfold pkB; rw [hp]; rfl
     rw [hp] at h2
     rw [h0] at hpt hfin
     unfold nM at h2
     dsimp only at h2
     repeat
      (first
       | (apply aA (h2); rfl; exact aj.refl _ _; exact enA; iterate 2 rfl) | (apply au; iterate 3 rfl) | (apply ak; iterate 3 rfl)
       | (apply aF; iterate 4 rfl) | apply EL.nil | ((with_reducible apply EK.ah); apply EK.code) | (with_reducible first | apply EC.seq | apply EC.region))
     refine jE hpt [] [] rfl rfl RL.a (by intro _ _; simp [go_sem]) rfl rfl ?_
     rintro _ _ ⟨t', ht, rfl, rfl⟩
     simp only [List.cons_append, List.nil_append]
     repeat
      (first
       | (apply au; iterate 3 rfl) | (apply ak; iterate 3 rfl) | (apply cZ; iterate 6 rfl) | (apply dP; iterate 3 rfl)
       | (apply dh; rfl; exact I.a; iterate 4 rfl) | (apply iY; iterate 3 rfl) | apply EL.nil | ((with_reducible apply EK.ah); apply EK.code)
       | (with_reducible first | apply EC.seq | apply EC.region | apply EC.ret))
     exact EK.iy [sdO gs t'.v, sdR t'.v t'.S] rfl rfl (by (repeat first | exact List.nil_sublist _ | apply List.Sublist.cons_cons | apply List.Sublist.cons)) ⟨_, _, _, hfin t' ht, rfl, rfl⟩
    ·
     rw [hp] at h2
     unfold nM at h2
     dsimp only at h2
     repeat
      (first
       | (apply aA (h2); rfl; exact aj.refl _ _; exact enA; iterate 2 rfl) | (apply au; iterate 3 rfl) | (apply ak; iterate 3 rfl)
       | (apply aF; iterate 4 rfl) | apply EL.nil | ((with_reducible apply EK.ah); apply EK.code) | (with_reducible first | apply EC.seq | apply EC.region))
     refine jE hpt [] [] rfl rfl RL.a (by intro _ _; simp [go_sem]) rfl rfl ?_
     rintro _ _ ⟨t', ht, rfl, rfl⟩
     simp only [List.cons_append, List.nil_append]
     repeat
      (first
       | (apply au; iterate 3 rfl) | (apply ak; iterate 3 rfl) | (apply cZ; iterate 6 rfl) | (apply dP; iterate 3 rfl)
       | (apply dh; rfl; exact I.a; iterate 4 rfl) | (apply iY; iterate 3 rfl) | apply EL.nil | ((with_reducible apply EK.ah); apply EK.code)
       | (with_reducible first | apply EC.seq | apply EC.region | apply EC.ret))
     exact EK.iy [sdO gs t'.v, sdR t'.v t'.S] rfl rfl (by (repeat first | exact List.nil_sublist _ | apply List.Sublist.cons_cons | apply List.Sublist.cons)) ⟨_, _, _, hfin t' ht, rfl, rfl⟩
end E
end Go.Proofs.YtiledgojbpmoiaaGreat
namespace Go.Proofs.YtiledgojbpmoiaaGreat
theorem UC (x : UInt8) : (x >>> 4).toNat = x.toNat / 16 := by rw [UInt8.toNat_shiftRight]; simp [Nat.shiftRight_eq_div_pow]
theorem UA (x : UInt8) : (x &&& 15).toNat = x.toNat % 16 := by rw [UInt8.toNat_and]; exact Nat.and_two_pow_sub_one_eq_mod _ 4
theorem Bl (x y : UInt8) (hx : x.toNat ≤ 15) (hy : y.toNat ≤ 15) : (x <<< 4 ||| y) >>> 4 = x ∧ (x <<< 4 ||| y) &&& 15 = y := by
 have h := O9 x.toNat y.toNat hx hy x y rfl rfl
 constructor
 ·
  apply UInt8.toNat_inj.1
  rw [UC, h]
  omega
 ·
  apply UInt8.toNat_inj.1
  rw [UA, h]
  omega
theorem su : ∀ (p m : List UInt8), joinL p = some m → split m = p
 | [], m, h => by simp [joinL] at h; subst h; rfl
 | [_], m, h => by simp [joinL] at h
 | x :: y :: r, m, h => by
  rw [joinL] at h
  split at h
  ·
   rename_i hc
   cases hj : joinL r with
   | none => rw [hj] at h; simp at h
   | some t =>
    rw [hj] at h
    simp only [Option.map_some, Option.some.injEq] at h
    subst h
    have hs : split ((x <<< 4 ||| y) :: t) = ((x <<< 4 ||| y) >>> 4) :: ((x <<< 4 ||| y) &&& 15) :: split t := rfl
    rw [hs, (Bl x y hc.1 hc.2).1, (Bl x y hc.1 hc.2).2, su r t hj]
  · simp at h
theorem join_some : ∀ (p : List UInt8), p.length % 2 = 0 → (∀ x ∈ p, x.toNat ≤ 15) → ∃ m, joinL p = some m
 | [], _, _ => ⟨[], rfl⟩
 | [_], h, _ => by simp at h
 | x :: y :: r, h, hs => by
  obtain ⟨m, hm⟩ := join_some r (by simp at h; omega) fun z hz => hs z (by simp [hz])
  exact ⟨_, by rw [joinL, if_pos ⟨hs x (by simp), hs y (by simp)⟩, hm]; rfl⟩
theorem BD (p : List UInt8) (leaf : Bool) : ∀ x ∈ hdr p leaf, x.toNat ≤ 15 := by
 unfold hdr
 split <;> cases leaf <;> decide
theorem FX (p : List UInt8) (leaf : Bool) : (hdr p leaf ++ p).length % 2 = 0 := by
 unfold hdr
 split <;> simp <;> omega
end Go.Proofs.YtiledgojbpmoiaaGreat
namespace Go.Proofs.YtiledgojbpmoiaaGreat
set_option linter.unusedVariables false
open Go.RowKit Mono Rlp
namespace E
theorem FU : ∀ p : List UInt8, ((joinL p).getD []).length ≤ p.length / 2
 | [] => Nat.le_refl _
 | [_] => Nat.zero_le _
 | x :: y :: r => by
  have ih := FU r
  rw [joinL]
  split
  ·
   cases h : joinL r with
   | none => simp
   | some m =>
    rw [h] at ih
    simp at ih ⊢
    omega
  · simp
theorem xC (p : List UInt8) (b : Bool) : (ppk p b).length ≤ p.length / 2 + 1 := by
 have h := FU (hdr p b ++ p)
 have h2 : (hdr p b).length ≤ 2 := by
  unfold hdr
  split <;> simp
 unfold ppk
 rw [List.length_append] at h
 omega
theorem xE {p q : List UInt8} {a b : Bool} (hp : ∀ x ∈ p, x.toNat ≤ 15) (hq : ∀ x ∈ q, x.toNat ≤ 15) (h : ppk p a = ppk q b) : p = q ∧ a = b := by
 have hs : ∀ (p : List UInt8) (a : Bool), (∀ x ∈ p, x.toNat ≤ 15) → split (ppk p a) = Go.Proofs.YtiledgojbpmoiaaGreat.hdr p a ++ p := fun p a hp => by
  obtain ⟨m, hm⟩ := join_some (Go.Proofs.YtiledgojbpmoiaaGreat.hdr p a ++ p) (FX p a) fun x hx => by
   rcases List.mem_append.1 hx with h | h
   · exact BD p a x h
   · exact hp x h
  unfold ppk
  rw [hm]
  exact su _ _ hm
 have h1 := hs p a hp
 rw [h, hs q b hq] at h1
 unfold Go.Proofs.YtiledgojbpmoiaaGreat.hdr at h1
 by_cases e1 : p.length % 2 = 1 <;> by_cases e2 : q.length % 2 = 1 <;> cases a <;> cases b <;> simp [e1, e2] at h1 <;> simp [h1]
theorem nR (n b : Nat) : 1 ≤ (head n b).length := by
 unfold head
 split <;> simp
mutual
theorem Kv : ∀ (x : Raw) (m : Nat), dO x m ≤ (Rlp.E x).length
 | .mk false _ _, m => by rw [dO]; omega
 | .mk true _ xs, 0 => by
  rw [dO, Rlp.E, List.length_append]
  have := nR (Rlp.EL xs).length 192
  omega
 | .mk true _ xs, m + 1 => by
  rw [dO, Rlp.E, List.length_append]
  have h1 := nR (Rlp.EL xs).length 192
  have h2 := (maxD_le xs m 0 (Rlp.EL xs).length).2 ⟨Nat.zero_le _, Gv xs m⟩
  omega
theorem Gv : ∀ (xs : List Raw) (m : Nat), ∀ x ∈ xs, dO x m ≤ (Rlp.EL xs).length
 | [], _, x, h => by cases h
 | y :: xs, m, x, h => by
  rw [Rlp.EL, List.length_append]
  rcases List.mem_cons.1 h with e | h
  ·
   have := Kv y m
   rw [e]
   omega
  ·
   have := Gv xs m x h
   omega
end
def Vw (x : Raw) (n : Nat) : Prop := dO x 31 ≤ 31 ∧ (Rlp.E x).length ≤ n ∧ norm x = x
def Aa (x : Raw) : Prop := packed x = some (Rlp.E x) ∧ norm x = x
theorem TA (l : List UInt8) (h : l.length ≤ 1048576) : (EB l).length ≤ l.length + 4 := by
 rw [oC]
 unfold szE szB
 have := jP 3 l.length (by omega)
 split
 · omega
 · split <;> omega
theorem lU (b : List UInt8) (h : b.length ≤ 1048576) : Vw (.mk false b []) (b.length + 4) := ⟨by rw [dO]; omega, by rw [Rlp.E]; exact TA b h, by rw [norm]⟩
theorem yO {x : Raw} (h : Aa x) : pkB x = Rlp.E x := by
 unfold pkB
 rw [h.1]
 rfl
theorem Sz {x : Raw} (h : Aa x) : Vw (oI x) 36 := by
 unfold oI
 rw [yO h]
 split
 ·
  rename_i hlt
  exact ⟨Nat.le_trans (Kv x 31) (by omega), by omega, h.2⟩
 ·
  have := lU (hash (Rlp.E x)) (by rw [fH]; decide)
  rw [fH] at this
  exact this
theorem FB : ∀ xs : List Raw, (∀ x ∈ xs, norm x = x) → nN xs = xs
 | [], _ => by rw [nN]
 | x :: xs, h => by rw [nN, h x List.mem_cons_self, FB xs fun y hy => h y (List.mem_cons_of_mem _ hy)]
theorem xI (xs : List Raw) (h1 : ∀ x ∈ xs, dO x 31 ≤ 31 ∧ norm x = x) (h2 : (Rlp.EL xs).length ≤ 2097152) : Aa (.mk true [] xs) := by
 refine ⟨vC ?_ ?_, by rw [norm, FB xs fun x hx => (h1 x hx).2]⟩
 · exact Jn.NK xs [] 31 31 fun x hx => (h1 x hx).1
 ·
  rw [Rlp.E, List.length_append, iR]
  unfold szB
  have := jP 4 (Rlp.EL xs).length (by omega)
  simp only [most]
  split <;> omega
theorem QO (n : Nat) : ∀ xs : List Raw, (∀ x ∈ xs, (Rlp.E x).length ≤ n) → (Rlp.EL xs).length ≤ n * xs.length
 | [], _ => by simp [Rlp.EL]
 | x :: xs, h => by
  rw [Rlp.EL, List.length_append, List.length_cons, Nat.mul_succ]
  have h1 := h x List.mem_cons_self
  have h2 := QO n xs fun y hy => h y (List.mem_cons_of_mem _ hy)
  omega
theorem zB {l : List Pr} {x : Raw} (h : Aa x) : Vw (dZ l x) 36 := by
 unfold dZ
 split
 ·
  have := lU [] (by decide)
  exact ⟨this.1, Nat.le_trans this.2.1 (by decide), this.2.2⟩
 · exact Sz h
structure GoodL (l : List Pr) : Prop where
 nib : ∀ x ∈ l, ∀ c ∈ x.1, c.toNat ≤ 15
 len : ∀ x ∈ l, x.1.length ≤ 130
 val : ∀ x ∈ l, x.2.length ≤ 1048576
 some : ∀ x ∈ l, x.2 ≠ []
 fn : ∀ x ∈ l, ∀ y ∈ l, x.1 = y.1 → x = y
theorem qO : ∀ (l : List Pr) (v : List UInt8), (l.foldl (fun v x => if x.1.isEmpty then x.2 else v) v = v ∧ ∀ x ∈ l, x.1 ≠ []) ∨ ∃ x ∈ l, x.1 = [] ∧ l.foldl (fun v x => if x.1.isEmpty then x.2 else v) v = x.2
 | [], v => .inl ⟨rfl, fun x hx => by cases hx⟩
 | y :: l, v => by
  rw [List.foldl_cons]
  rcases qO l (if y.1.isEmpty then y.2 else v) with ⟨h1, h2⟩ | ⟨x, hx, h1, h2⟩
  ·
   rw [h1]
   by_cases hy : y.1 = []
   ·
    refine .inr ⟨y, List.mem_cons_self, hy, ?_⟩
    rw [hy]
    rfl
   ·
    refine .inl ⟨?_, fun x hx => ?_⟩
    ·
     rw [if_neg]
     simpa using hy
    ·
     rcases List.mem_cons.1 hx with rfl | hx
     · exact hy
     · exact h2 x hx
  · exact .inr ⟨x, List.mem_cons_of_mem _ hx, h1, h2⟩
theorem Ed {l : List Pr} (h : GoodL l) : (iI l).length ≤ 1048576 := by
 rcases qO l [] with ⟨h1, _⟩ | ⟨x, hx, _, h2⟩
 ·
  unfold iI
  rw [h1]
  exact Nat.zero_le _
 ·
  unfold iI
  rw [h2]
  exact h.val x hx
theorem nT {l : List Pr} (h : GoodL l) (n : Nat) (p : List UInt8) (hp : ∀ z ∈ l, z.1 = p ++ z.1.drop n) : GoodL (bU n l) where
 nib x hx c hc := by
  obtain ⟨z, hz, rfl⟩ := List.mem_map.1 hx
  exact h.nib z hz c (List.mem_of_mem_drop hc)
 len x hx := by
  obtain ⟨z, hz, rfl⟩ := List.mem_map.1 hx
  have := h.len z hz
  show (z.1.drop n).length ≤ _
  rw [List.length_drop]
  omega
 val x hx := by
  obtain ⟨z, hz, rfl⟩ := List.mem_map.1 hx
  exact h.val z hz
 some x hx := by
  obtain ⟨z, hz, rfl⟩ := List.mem_map.1 hx
  exact h.some z hz
 fn x hx y hy e := by
  obtain ⟨z, hz, rfl⟩ := List.mem_map.1 hx
  obtain ⟨w, hw, rfl⟩ := List.mem_map.1 hy
  have : z = w := h.fn z hz w hw (by rw [hp z hz, hp w hw]; exact congrArg _ e)
  rw [this]
theorem headD_cons {d : Nat} {z : Pr} (h : headD d z = true) : ∃ c t, z.1 = c :: t ∧ c.toNat = d := by
 unfold headD at h
 split at h
 · cases h
 ·
  rename_i c t e
  exact ⟨c, t, e, by simpa using h⟩
theorem wP {l : List Pr} (h : GoodL l) (q : Pr → Bool) : GoodL (l.filter q) where
 nib x hx := h.nib x (List.mem_filter.1 hx).1
 len x hx := h.len x (List.mem_filter.1 hx).1
 val x hx := h.val x (List.mem_filter.1 hx).1
 some x hx := h.some x (List.mem_filter.1 hx).1
 fn x hx y hy := h.fn x (List.mem_filter.1 hx).1 y (List.mem_filter.1 hy).1
theorem nU {l : List Pr} (h : GoodL l) (d : Nat) : GoodL (aV d l) := by
 refine nT (wP h (headD d)) 1 [UInt8.ofNat d] fun z hz => ?_
 obtain ⟨c, t, e, hc⟩ := headD_cons (List.mem_filter.1 hz).2
 rw [e, ← hc, UInt8.ofNat_toNat]
 rfl
theorem DR (x y : Pr) (r : List Pr) : ∀ z ∈ x :: y :: r, z.1 = x.1.take (bD x.1 (y :: r)) ++ z.1.drop (bD x.1 (y :: r)) := fun z hz => by
 have hcm := jl x.1 (y :: r) x.1.length (Nat.le_refl _)
 have : z.1.take (bD x.1 (y :: r)) = x.1.take (bD x.1 (y :: r)) := by
  rcases List.mem_cons.1 hz with rfl | hz
  · rfl
  ·
   have h1 : bD x.1 (y :: r) ≤ common x.1 z.1 := hcm.2 z hz
   have h2 := (fA x.1 z.1).1
   have := congrArg (List.take (bD x.1 (y :: r))) h2
   rw [List.take_take, List.take_take, Nat.min_eq_left h1] at this
   exact this.symm
 rw [← this, List.take_append_drop]
theorem kS : ∀ (f : Nat) (l : List Pr), GoodL l → Aa (aG f l)
 | 0, _, _ => by
  rw [aG]
  exact ⟨vC (by rw [dO]; omega) (by rw [Rlp.E]; decide), by rw [norm]⟩
 | f + 1, [], _ => by rw [aG]; exact xI [] (fun x hx => by cases hx) (by simp [Rlp.EL])
 | f + 1, [x], h => by
  rw [aG]
  have h1 := lU (ppk x.1 true) (by have := xC x.1 true; have := h.len x List.mem_cons_self; omega)
  have h2 := lU x.2 (h.val x List.mem_cons_self)
  have h3 := xC x.1 true
  have h4 := h.len x List.mem_cons_self
  have h5 := h.val x List.mem_cons_self
  refine xI _ (fun y hy => ?_) ?_
  ·
   simp at hy
   rcases hy with rfl | rfl
   · exact ⟨h1.1, h1.2.2⟩
   · exact ⟨h2.1, h2.2.2⟩
  ·
   have a := h1.2.1
   have b := h2.2.1
   simp only [Rlp.EL, List.length_append, List.length_nil]
   omega
 | f + 1, x :: y :: r, h => by
  rw [aG]
  have hcm := jl x.1 (y :: r) x.1.length (Nat.le_refl _)
  change bD x.1 (y :: r) ≤ x.1.length ∧ _ at hcm
  have h4 := h.len x List.mem_cons_self
  have hpre := DR x y r
  split
  ·
   have ih := kS f _ (nT h _ _ hpre)
   have h1 := lU (ppk (x.1.take (bD x.1 (y :: r))) false) (by have := xC (x.1.take (bD x.1 (y :: r))) false; rw [List.length_take] at this; omega)
   have h2 := zB (l := bU (bD x.1 (y :: r)) (x :: y :: r)) ih
   have h3 := xC (x.1.take (bD x.1 (y :: r))) false
   rw [List.length_take] at h3
   refine xI _ (fun u hu => ?_) ?_
   ·
    simp at hu
    rcases hu with rfl | rfl
    · exact ⟨h1.1, h1.2.2⟩
    · exact ⟨h2.1, h2.2.2⟩
   ·
    have a := h1.2.1
    have b := h2.2.1
    simp only [Rlp.EL, List.length_append, List.length_nil]
    omega
  ·
   have ih : ∀ d, Aa (aG f (aV d (x :: y :: r))) := fun d => kS f _ (nU h d)
   have hv := lU (iI (x :: y :: r)) (Ed h)
   have hvl := Ed h
   refine xI _ (fun u hu => ?_) ?_
   ·
    rcases List.mem_append.1 hu with hu | hu
    ·
     obtain ⟨d, _, rfl⟩ := List.mem_map.1 hu
     have := zB (l := aV d (x :: y :: r)) (ih d)
     exact ⟨this.1, this.2.2⟩
    ·
     obtain rfl : u = _ := by simpa using hu
     exact ⟨hv.1, hv.2.2⟩
   ·
    have h1 := QO 36 ((List.range 16).map fun d => dZ (aV d (x :: y :: r)) (aG f (aV d (x :: y :: r)))) (fun u hu => by
     obtain ⟨d, _, rfl⟩ := List.mem_map.1 hu
     exact (zB (ih d)).2.1)
    rw [List.length_map, List.length_range] at h1
    rw [rH, List.length_append]
    have b := hv.2.1
    simp only [Rlp.EL, List.length_append, List.length_nil]
    omega
def qM (U V : List (List UInt8)) : Prop := ∀ u ∈ U, ∀ v ∈ V, hash u = hash v → u = v
theorem O5 {x y : Raw} (hx : Aa x) (hy : Aa y) (h : pkB x = pkB y) : x = y := by
 rw [yO hx, yO hy] at h
 have h1 := yK hx.1
 have h2 := yK hy.1
 rw [h, h2, hx.2, hy.2] at h1
 injection h1 with h1
 exact h1.symm
theorem Ey {l m : List Pr} {U V : List (List UInt8)} {x y : Raw} {xs ys : List Raw} (hx : Aa x) (hy : Aa y) (hxl : l.isEmpty = false → x = .mk true [] xs) (hyl : m.isEmpty = false → y = .mk true [] ys) (H : qM (kD l U x) (kD m V y)) (h : dZ l x = dZ m y) :
  (l.isEmpty = true ∧ m.isEmpty = true) ∨ (l.isEmpty = false ∧ m.isEmpty = false ∧ x = y) := by
 have hl32 : ∀ b : List UInt8, hash b ≠ [] := fun b e => by
  have := fH b
  rw [e] at this
  cases this
 unfold qM kD at H
 unfold dZ at h
 cases hl : l.isEmpty with
 | true =>
  rw [hl, if_pos rfl] at h
  cases hm : m.isEmpty with
  | true => exact .inl ⟨rfl, rfl⟩
  | false =>
   rw [hm, if_neg Bool.false_ne_true] at h
   unfold oI at h
   split at h
   ·
    rw [hyl hm] at h
    injection h with h
    cases h
   ·
    injection h with _ h
    exact absurd h.symm (hl32 _)
 | false =>
  rw [hl, if_neg Bool.false_ne_true] at h
  cases hm : m.isEmpty with
  | true =>
   rw [hm, if_pos rfl] at h
   unfold oI at h
   split at h
   ·
    rw [hxl hl] at h
    injection h with h
    cases h
   ·
    injection h with _ h
    exact absurd h (hl32 _)
  | false =>
   rw [hm, if_neg Bool.false_ne_true] at h
   rw [hl, hm, if_neg Bool.false_ne_true, if_neg Bool.false_ne_true] at H
   refine .inr ⟨rfl, rfl, ?_⟩
   unfold oI at h
   split at h
   ·
    split at h
    · exact h
    ·
     rw [hxl hl] at h
     injection h with h
     cases h
   ·
    rename_i h1
    split at h
    ·
     rw [hyl hm] at h
     injection h with h
     cases h
    ·
     rename_i h2
     injection h with _ h
     exact O5 hx hy (H _ (List.mem_append.2 (.inr (by rw [if_neg h1]; exact List.mem_singleton.2 rfl))) _ (List.mem_append.2 (.inr (by rw [if_neg h2]; exact List.mem_singleton.2 rfl))) h)
theorem Ew {l m : List Pr} {U V : List (List UInt8)} {x y : Raw} (hl : l.isEmpty = false) (hm : m.isEmpty = false) (H : qM (kD l U x) (kD m V y)) : qM U V := fun u hu v hv e => by
 unfold qM kD at H
 rw [hl, hm, if_neg Bool.false_ne_true, if_neg Bool.false_ne_true] at H
 exact H u (List.mem_append.2 (.inl hu)) v (List.mem_append.2 (.inl hv)) e
inductive WX (f : Nat) (l : List Pr) : Prop where
 | leaf (x : Pr) (h : l = [x]) (hn : aG (f + 1) l = .mk true [] [.mk false (ppk x.1 true) [], .mk false x.2 []])
 | ext (p : List UInt8) (h0 : 0 < p.length) (hp : ∀ z ∈ l, z.1 = p ++ z.1.drop p.length) (hs : ∀ c ∈ p, ∃ z ∈ l, c ∈ z.1) (hn : aG (f + 1) l = .mk true [] [.mk false (ppk p false) [], dZ (bU p.length l) (aG f (bU p.length l))]) (hU : dF (f + 1) l = kD (bU p.length l) (dF f (bU p.length l)) (aG f (bU p.length l)))
 | br (hn : aG (f + 1) l = .mk true [] ((List.range 16).map (fun d => dZ (aV d l) (aG f (aV d l))) ++ [.mk false (iI l) []])) (hU : dF (f + 1) l = ((List.range 16).map fun d => kD (aV d l) (dF f (aV d l)) (aG f (aV d l))).flatten)
theorem UD (f : Nat) : ∀ l : List Pr, l.isEmpty = false → WX f l
 | [x], _ => .leaf x rfl (by rw [aG])
 | x :: y :: r, _ => by
  by_cases hp : 0 < bD x.1 (y :: r)
  ·
   have hle : bD x.1 (y :: r) ≤ x.1.length := (jl x.1 (y :: r) x.1.length (Nat.le_refl _)).1
   have hln : (x.1.take (bD x.1 (y :: r))).length = bD x.1 (y :: r) := by rw [List.length_take]; omega
   refine .ext (x.1.take (bD x.1 (y :: r))) (by omega) ?_ (fun c hc => ⟨x, List.mem_cons_self, List.mem_of_mem_take hc⟩) ?_ ?_
   ·
    rw [hln]
    exact DR x y r
   · rw [hln, aG, if_pos hp]
   · rw [hln, dF, if_pos hp]
  ·
   refine .br ?_ ?_
   · rw [aG, if_neg hp]
   · rw [dF, if_neg hp]
theorem iV (f : Nat) (l : List Pr) : ∃ xs, aG (f + 1) l = .mk true [] xs := by
 cases hl : l.isEmpty with
 | true =>
  obtain rfl : l = [] := by simpa using hl
  exact ⟨_, by rw [aG]⟩
 | false =>
  rcases UD f l hl with ⟨x, _, h⟩ | ⟨p, _, _, _, h, _⟩ | ⟨h, _⟩ <;> exact ⟨_, h⟩
theorem Cc {l : List Pr} (h : GoodL l) {z : Pr} (hz : z ∈ l) (h0 : z.1 = []) : iI l = z.2 := by
 rcases qO l [] with ⟨_, h2⟩ | ⟨x, hx, h1, h2⟩
 · exact absurd h0 (h2 z hz)
 ·
  unfold iI
  rw [h2, h.fn x hx z hz (by rw [h1, h0])]
theorem QX {l : List Pr} (h : iI l ≠ []) : ∃ z ∈ l, z.1 = [] ∧ z.2 = iI l := by
 rcases qO l [] with ⟨h1, _⟩ | ⟨x, hx, h1, h2⟩
 · exact absurd h1 h
 · exact ⟨x, hx, h1, h2.symm⟩
theorem pJ {d : Nat} {l : List Pr} {z : Pr} (h : z ∈ aV d l) : (aV d l).isEmpty = false := by
 cases hk : aV d l with
 | nil => rw [hk] at h; cases h
 | cons _ _ => rfl
theorem xJ {d : Nat} {l : List Pr} {t : List UInt8} {v : List UInt8} (hd : d < 256) : (t, v) ∈ aV d l ↔ (UInt8.ofNat d :: t, v) ∈ l := by
 constructor
 ·
  intro h
  obtain ⟨w, hw, hh, e⟩ := nP h
  obtain ⟨c, s, e1, e2⟩ := headD_cons hh
  injection e with e3 e4
  rw [e1, List.drop_succ_cons, List.drop_zero] at e3
  have : w = (UInt8.ofNat d :: t, v) := Prod.ext (by rw [e1, ← e2, UInt8.ofNat_toNat, e3]) e4.symm
  rw [← this]
  exact hw
 ·
  intro h
  refine List.mem_map.2 ⟨_, List.mem_filter.2 ⟨h, ?_⟩, rfl⟩
  simp only [headD, UInt8.toNat_ofNat']
  rw [Nat.mod_eq_of_lt hd]
  simp
theorem yU : ∀ (f : Nat) (l m : List Pr), l.isEmpty = false → m.isEmpty = false → (∀ x ∈ l, x.1.length < f) → (∀ x ∈ m, x.1.length < f) → GoodL l → GoodL m → qM (dF f l) (dF f m) → aG f l = aG f m → ∀ z ∈ l, z ∈ m
 | 0, l, m, hl, _, hf, _, _, _, _, _ => by
  cases l with
  | nil => cases hl
  | cons x r => exact absurd (hf x List.mem_cons_self) (Nat.not_lt_zero _)
 | f + 1, l, m, hl, hm, hfl, hfm, gl, gm, H, h => by
  intro z hz
  rcases UD f l hl with ⟨x, h1, n1⟩ | ⟨p, p0, hp, ps, n1, u1⟩ | ⟨n1, u1⟩ <;> rcases UD f m hm with ⟨y, h2, n2⟩ | ⟨q, q0, hq, qs, n2, u2⟩ | ⟨n2, u2⟩ <;> rw [n1, n2] at h <;> injection h with _ _ h
  ·
   injection h with e1 e2
   injection e1 with _ e1
   injection e2 with e2
   injection e2 with _ e2
   subst h1 h2
   obtain ⟨e, _⟩ := xE (gl.nib x List.mem_cons_self) (gm.nib y List.mem_cons_self) e1
   obtain rfl : z = x := by simpa using hz
   rw [show z = y from Prod.ext e e2]
   exact List.mem_cons_self
  ·
   injection h with e1 e2
   injection e1 with _ e1
   subst h1
   obtain ⟨_, e⟩ := xE (gl.nib x List.mem_cons_self) (fun c hc => by obtain ⟨w, hw, h3⟩ := qs c hc; exact gm.nib w hw c h3) e1
   cases e
  ·
   have := congrArg List.length h
   simp at this
  ·
   injection h with e1 e2
   injection e1 with _ e1
   subst h2
   obtain ⟨_, e⟩ := xE (fun c hc => by obtain ⟨w, hw, h3⟩ := ps c hc; exact gl.nib w hw c h3) (gm.nib y List.mem_cons_self) e1
   cases e
  ·
   injection h with e1 e2
   injection e1 with _ e1
   injection e2 with e2
   obtain ⟨e, _⟩ := xE (fun c hc => by obtain ⟨w, hw, h3⟩ := ps c hc; exact gl.nib w hw c h3) (fun c hc => by obtain ⟨w, hw, h3⟩ := qs c hc; exact gm.nib w hw c h3) e1
   subst e
   rw [u1, u2] at H
   have gl' := nT gl _ _ hp
   have gm' := nT gm _ _ hq
   have hl' : (bU p.length l).isEmpty = false := by
    cases l with
    | nil => cases hl
    | cons _ _ => rfl
   have hm' : (bU p.length m).isEmpty = false := by
    cases m with
    | nil => cases hm
    | cons _ _ => rfl
   have hshort : ∀ (l : List Pr), (∀ x ∈ l, x.1.length < f + 1) → (∀ z ∈ l, z.1 = p ++ z.1.drop p.length) → ∀ x ∈ bU p.length l, x.1.length < f := fun l hfl hp x hx => by
    obtain ⟨w, hw, rfl⟩ := List.mem_map.1 hx
    have h1 := hfl w hw
    have h2 := congrArg List.length (hp w hw)
    rw [List.length_append] at h2
    show (w.1.drop p.length).length < f
    omega
   have hfl' := hshort l hfl hp
   have hfm' := hshort m hfm hq
   obtain ⟨f', rfl⟩ : ∃ f', f = f' + 1 := by
    cases hr : bU p.length l with
    | nil => rw [hr] at hl'; cases hl'
    | cons w _ =>
     have := hfl' w (by rw [hr]; exact List.mem_cons_self)
     exact ⟨f - 1, by omega⟩
   obtain ⟨xs, hxs⟩ := iV f' (bU p.length l)
   obtain ⟨ys, hys⟩ := iV f' (bU p.length m)
   rcases Ey (kS _ _ gl') (kS _ _ gm') (fun _ => hxs) (fun _ => hys) H e2 with ⟨e, _⟩ | ⟨_, _, e⟩
   ·
    rw [hl'] at e
    cases e
   ·
    have ih := yU (f' + 1) _ _ hl' hm' hfl' hfm' gl' gm' (Ew hl' hm' H) e (z.1.drop p.length, z.2) (List.mem_map.2 ⟨z, hz, rfl⟩)
    obtain ⟨w, hw, e⟩ := List.mem_map.1 ih
    injection e with e3 e4
    rw [show z = w from Prod.ext (by rw [hp z hz, hq w hw, e3]) e4.symm]
    exact hw
  ·
   have := congrArg List.length h
   simp at this
  ·
   have := congrArg List.length h
   simp at this
  ·
   have := congrArg List.length h
   simp at this
  ·
   obtain ⟨hk, hv⟩ := List.append_inj h (by simp)
   injection hv with hv
   injection hv with _ hv
   obtain ⟨zp, zv⟩ := z
   cases zp with
   | nil =>
    have h1 := Cc gl hz rfl
    have h2 := gl.some _ hz
    obtain ⟨w, hw, e1, e2⟩ := QX (l := m) (by rw [← hv, h1]; exact h2)
    rw [show (([] : List UInt8), zv) = w from Prod.ext e1.symm (by rw [e2, ← hv, h1])]
    exact hw
   | cons c t =>
    have hc := gl.nib _ hz c List.mem_cons_self
    have hd : c.toNat ∈ List.range 16 := List.mem_range.2 (by omega)
    have hkz : (t, zv) ∈ aV c.toNat l := (xJ (by omega)).2 (by rw [UInt8.ofNat_toNat]; exact hz)
    have hl' := pJ hkz
    have e2 := List.map_inj_left.1 hk c.toNat hd
    have H' : qM (kD (aV c.toNat l) (dF f (aV c.toNat l)) (aG f (aV c.toNat l))) (kD (aV c.toNat m) (dF f (aV c.toNat m)) (aG f (aV c.toNat m))) := fun u hu v hv e => H u (by rw [u1]; exact List.mem_flatten.2 ⟨_, List.mem_map.2 ⟨_, hd, rfl⟩, hu⟩) v (by rw [u2]; exact List.mem_flatten.2 ⟨_, List.mem_map.2 ⟨_, hd, rfl⟩, hv⟩) e
    have hshort : ∀ (l : List Pr), (∀ x ∈ l, x.1.length < f + 1) → ∀ x ∈ aV c.toNat l, x.1.length < f := fun l hfl x hx => by
     obtain ⟨w, hw, hh, rfl⟩ := nP hx
     have h1 := hfl w hw
     have h2 := nS hh
     show (w.1.drop 1).length < f
     rw [List.length_drop]
     omega
    obtain ⟨f', rfl⟩ : ∃ f', f = f' + 1 := by
     have := hshort l hfl _ hkz
     exact ⟨f - 1, by omega⟩
    obtain ⟨xs, hxs⟩ := iV f' (aV c.toNat l)
    obtain ⟨ys, hys⟩ := iV f' (aV c.toNat m)
    rcases Ey (kS _ _ (nU gl _)) (kS _ _ (nU gm _)) (fun _ => hxs) (fun _ => hys) H' e2 with ⟨e, _⟩ | ⟨_, hm', e⟩
    ·
     rw [hl'] at e
     cases e
    ·
     have ih := yU (f' + 1) _ _ hl' hm' (hshort l hfl) (hshort m hfm) (nU gl _) (nU gm _) (Ew hl' hm' H') e _ hkz
     have := (xJ (by omega)).1 ih
     rw [UInt8.ofNat_toNat] at this
     exact this
theorem Qk {l : List Pr} : fP l = 0 ↔ l.length ≤ 100000 ∧ (∀ x ∈ l, x.1.length ≤ 64 ∧ x.2.length ≤ 1048576 ∧ x.2 ≠ []) ∧ (l.map (·.1)).Nodup := by
 have hnd : ((l.map sp).map (·.1)).Nodup ↔ (l.map (·.1)).Nodup := by
  have : (l.map sp).map (·.1) = (l.map (·.1)).map split := by rw [List.map_map, List.map_map]; rfl
  rw [this]
  unfold List.Nodup
  rw [List.pairwise_map]
  constructor
  ·
   intro h
   exact h.imp fun h e => h (congrArg split e)
  ·
   intro h
   exact h.imp fun h e => h (oG _ _ e)
 unfold fP
 constructor
 ·
  intro h
  split at h
  · cases h
  ·
   rename_i h1
   split at h
   · cases h
   ·
    rename_i h2
    split at h
    ·
     rename_i h3
     have h1a : ¬ 100000 < l.length := fun e => h1 (.inl e)
     have h1b : l.any lg = false := by simpa using fun e => h1 (.inr e)
     refine ⟨by omega, fun x hx => ⟨(iL h1b hx).1, (iL h1b hx).2, fun e => h2 (List.any_eq_true.2 ⟨x, hx, by rw [e]; rfl⟩)⟩, hnd.1 h3⟩
    · cases h
 ·
  rintro ⟨h1, h2, h3⟩
  rw [if_neg, if_neg, if_pos (hnd.2 h3)]
  ·
   intro h
   obtain ⟨x, hx, e⟩ := List.any_eq_true.1 h
   exact (h2 x hx).2.2 (by simpa using e)
  ·
   rintro (h | h)
   · omega
   ·
    obtain ⟨x, hx, e⟩ := List.any_eq_true.1 h
    have := h2 x hx
    unfold lg at e
    rcases Bool.or_eq_true _ _ ▸ e with e | e
    ·
     have := of_decide_eq_true e
     omega
    ·
     have := of_decide_eq_true e
     omega
theorem J5 {l : List Pr} (h : (l.map (·.1)).Nodup) : ∀ x ∈ l, ∀ y ∈ l, x.1 = y.1 → x = y := by
 induction l with
 | nil => intro x hx; cases hx
 | cons z l ih =>
  rw [List.map_cons, List.nodup_cons] at h
  intro x hx y hy e
  rcases List.mem_cons.1 hx with ex | hx <;> rcases List.mem_cons.1 hy with ey | hy
  · rw [ex, ey]
  · exact absurd (List.mem_map.2 ⟨y, hy, by rw [← e, ex]⟩) h.1
  · exact absurd (List.mem_map.2 ⟨x, hx, by rw [e, ey]⟩) h.1
  · exact ih h.2 x hx y hy e
theorem RU {l : List Pr} (h : fP l = 0) : GoodL (l.map sp) := by
 obtain ⟨_, h2, h3⟩ := Qk.1 h
 have hf := J5 h3
 constructor
 ·
  intro x hx c hc
  obtain ⟨w, hw, rfl⟩ := List.mem_map.1 hx
  exact iU _ c hc
 ·
  intro x hx
  obtain ⟨w, hw, rfl⟩ := List.mem_map.1 hx
  have := (h2 w hw).1
  show (split w.1).length ≤ _
  rw [dG]
  omega
 ·
  intro x hx
  obtain ⟨w, hw, rfl⟩ := List.mem_map.1 hx
  exact (h2 w hw).2.1
 ·
  intro x hx
  obtain ⟨w, hw, rfl⟩ := List.mem_map.1 hx
  exact (h2 w hw).2.2
 ·
  intro x hx y hy e
  obtain ⟨w, hw, rfl⟩ := List.mem_map.1 hx
  obtain ⟨v, hv, rfl⟩ := List.mem_map.1 hy
  rw [hf w hw v hv (oG _ _ e)]
theorem yh {S : List Pr} (h : Srt S) {k a b : List UInt8} (ha : (k, a) ∈ S) (hb : (k, b) ∈ S) : a = b := by
 induction S with
 | nil => cases ha
 | cons z S ih =>
  obtain ⟨h1, h2⟩ := List.pairwise_cons.1 h
  have hirr : ∀ l : List UInt8, Op.bytesLess l l = true → False := fun l e => by
   rw [DV] at e
   exact List.lt_irrefl _ (of_decide_eq_true e)
  rcases List.mem_cons.1 ha with ea | ha <;> rcases List.mem_cons.1 hb with eb | hb
  ·
   rw [← ea] at eb
   injection eb with _ e
   exact e.symm
  ·
   have := h1 _ hb
   rw [← ea] at this
   exact (hirr _ this).elim
  ·
   have := h1 _ ha
   rw [← eb] at this
   exact (hirr _ this).elim
  · exact ih h2 ha hb
theorem Uy {x : Raw} (h : Aa x) {xs : List Raw} (hx : x = .mk true [] xs) : pkB x ≠ [128] := fun e => by
 rw [yO h, hx] at e
 have h1 := congrArg List.length e
 rw [Rlp.E] at e h1
 rw [List.length_append, iR] at h1
 unfold szB at h1
 simp only [List.length_singleton] at h1
 split at h1
 ·
  have h0 : Rlp.EL xs = [] := List.eq_nil_of_length_eq_zero (by omega)
  rw [h0] at e
  revert e
  decide +kernel
 · omega
end E
end Go.Proofs.YtiledgojbpmoiaaGreat
