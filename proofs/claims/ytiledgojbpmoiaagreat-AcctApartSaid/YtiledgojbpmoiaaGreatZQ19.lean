/-
 Merged (wip/tools/merge.py): TP6, TP7.
 Conditions: none.
-/
import Derived.Test.YtiledgojbpmoiaaGreatZQ18
import Derived.Test.YtiledgojbpmoiaaGreatZQ17
namespace Go.Proofs.YtiledgojbpmoiaaGreat
set_option linter.unusedVariables false
set_option maxRecDepth 20000
set_option maxHeartbeats 8000000
open Go.RowKit Mono Rlp Go.Sort
namespace E
abbrev Pr := List UInt8 × List UInt8
def sp (x : Pr) : Pr := (split x.1, x.2)
def srt (ps : List Pr) : List Pr := ps.mergeSort fun a b => decide (a.1 ≤ b.1)
theorem iW (ps : List Pr) : (srt ps).Perm ps := List.mergeSort_perm _ _
theorem su (ps : List Pr) : (srt ps).Pairwise fun a b => a.1 ≤ b.1 := by
 have h := List.pairwise_mergeSort (le := fun a b : Pr => decide (a.1 ≤ b.1)) (fun a b c h1 h2 => by simp only [decide_eq_true_eq] at h1 h2 ⊢; exact List.le_trans h1 h2) (fun a b => by simp only [Bool.or_eq_true, decide_eq_true_eq]; exact List.le_total a.1 b.1) ps
 exact h.imp fun h => by simpa using h
theorem Me {ps : List Pr} (h : (ps.map (·.1)).Nodup) {a b : Pr} (ha : a ∈ ps) (hb : b ∈ ps) (e : a.1 = b.1) : a = b := by
 obtain ⟨i, hi, rfl⟩ := List.getElem_of_mem ha
 obtain ⟨j, hj, rfl⟩ := List.getElem_of_mem hb
 have := (List.getElem_inj (h₀ := by simpa using hi) (h₁ := by simpa using hj) h).1 (by simpa using e)
 subst this
 rfl
theorem NW {ps qs : List Pr} (hp : qs.Perm ps) (hs : qs.Pairwise fun a b => a.1 ≤ b.1) (hn : (ps.map (·.1)).Nodup) : qs = srt ps :=
 List.Perm.eq_of_pairwise (fun a b ha hb h1 h2 => Me hn (hp.mem_iff.1 ha) ((iW ps).mem_iff.1 hb) (List.le_antisymm h1 h2)) hs (su ps) (hp.trans (iW ps).symm)
def vJ (l : List Pr) : R :=
 if 100000 < l.length ∨ l.any lg = true then .tpl [.v (.slice none 0 0), .v (.int .i64 3)]
 else if l.any (·.2.isEmpty) = true then .tpl [.v (.slice none 0 0), .v (.int .i64 1)]
 else if ((l.map sp).map (·.1)).Nodup then .tpl [.sl 2 ((srt (l.map sp)).map dPr), .v (.int .i64 0)]
 else .tpl [.v (.slice none 0 0), .v (.int .i64 1)]
theorem PV (l m : List UInt8) : Fn 135 [.bs l, .bs m] (· = .val (.v (.bool (l == m)))) := by
 have hb := (oK l m).1
 refine Fn.walk 10 Tryz.func135 rfl Tryz.ntmps135 (by simp) fun X => ?_
 repeat
  (first
   | (apply iU; (iterate 2 rfl); exact hb; iterate 2 rfl) | (apply au; iterate 3 rfl) | (apply aj; iterate 3 rfl) | (apply Wn; iterate 3 rfl)
   | apply EL.nil | ((with_reducible apply EK.ah); apply EK.code) | (with_reducible first | apply EC.seq | apply EC.region | apply EC.ret))
 exact EK.fV rfl rfl rfl
theorem iM {l : List Pr} (h : l.any lg = false) {x : Pr} (hx : x ∈ l) : x.1.length ≤ 64 ∧ x.2.length ≤ 1048576 := by
 have := List.any_eq_false.1 h x hx
 unfold lg at this
 simp at this
 omega
theorem Ny {qs : List Pr} (hq : qs.Pairwise fun a b => a.1 ≤ b.1) (h : ∀ j (hj : j + 1 < qs.length), qs[j].1 ≠ qs[j + 1].1) : (qs.map (·.1)).Nodup := by
 unfold List.Nodup
 rw [List.pairwise_map, List.pairwise_iff_getElem]
 intro i j hi hj hij e
 have h1 := List.pairwise_iff_getElem.1 hq i (i + 1) hi (by omega) (by omega)
 have h2 : qs[i + 1].1 ≤ qs[j].1 := by
  rcases Nat.lt_or_ge (i + 1) j with h | h
  · exact List.pairwise_iff_getElem.1 hq (i + 1) j (by omega) hj h
  ·
   obtain rfl : j = i + 1 := by omega
   exact List.le_refl _
 exact h i (by omega) (List.le_antisymm h1 (by rw [e]; exact h2))
theorem Sv (l : List Pr) : Fn 110 [.sl 2 (l.map dPr)] (· = vJ l) := by
 have h1 := GV l
 unfold vJ
 have hl : (l.map dPr).length = l.length := by rw [List.length_map]
 refine Fn.walk 56 Tryz.func110 rfl Tryz.ntmps110 (by simp) fun X => ?_
 by_cases hbig : 100000 < l.length
 ·
  rw [if_pos (.inl hbig)]
  repeat
   (first
    | (apply fP; iterate 2 rfl) | (apply au; iterate 3 rfl) | (apply aj; iterate 3 rfl) | (apply bV; iterate 4 rfl)
    | (apply aA (b := true); (iterate 2 rfl); exact aG; iterate 2 rfl) | (apply aB; iterate 4 rfl) | apply EL.nil | ((with_reducible apply EK.ah); apply EK.code)
    | (apply EC.cond_true; rfl) | (with_reducible first | apply EC.seq | apply EC.region | apply EC.ret | apply EK.aI))
  exact EK.rF rfl rfl rfl rfl
 ·
  cases hany : l.any lg with
  | true =>
   rw [hany] at h1
   rw [if_pos (.inr rfl)]
   repeat
    (first
     | (apply aJ (h1); rfl; exact ak.refl _ _; exact enA; iterate 2 rfl) | (apply au; iterate 3 rfl) | (apply aj; iterate 3 rfl)
     | (apply bV; iterate 4 rfl) | (apply aA (b := false); (iterate 2 rfl); exact aG; iterate 2 rfl) | (apply aB; iterate 4 rfl) | apply EL.nil
     | ((with_reducible apply EK.ah); apply EK.code) | (apply EC.cond_true; rfl) | (with_reducible first | apply EC.seq | apply EC.region | apply EC.ret | apply EK.aI))
   exact EK.rF rfl rfl rfl rfl
  | false =>
   rw [hany] at h1
   rw [if_neg (by simp; omega)]
   repeat
    (first
     | (apply aJ (h1); rfl; exact ak.refl _ _; exact enA; iterate 2 rfl) | (apply au; iterate 3 rfl) | (apply aj; iterate 3 rfl)
     | (apply bV; iterate 4 rfl) | (apply aA (b := false); (iterate 2 rfl); exact aG; iterate 2 rfl) | (apply aB; iterate 4 rfl) | apply EL.nil
     | ((with_reducible apply EK.ah); apply EK.code) | (apply EC.cond_false; rfl) | (with_reducible first | apply EC.seq | apply EC.region | apply EC.skip | apply EC.block))
   refine EC.le (Le.row 263 2) ?_
   refine EC.loop (ι := {p : Value × Nat // p.2 ≤ l.length ∧ (l.take p.2).any (·.2.isEmpty) = false})
    (fun p => ⟨[(17, .val (.v (.int .i64 (p.1.2 : Int)))), (16, .val (.v (.int .i64 ((l.map dPr).length : Int)))), (15, .val (.sl 2 (l.map dPr))), (4, .val (.v p.1.1))],
     [.row p.1.1 263 2 ((l.take p.1.2).map fun x => dPr (sp x))], []⟩)
    (fun p => l.length - p.1.2) ⟨(.slice none 0 0, 0), by omega, by simp⟩ ?_ ?_
   · exact Le.kp
   rintro ⟨⟨rv, n⟩, hn, hI⟩
   dsimp only at hn hI ⊢
   by_cases hlt : n < l.length
   ·
    have hat : (l.map dPr)[n]? = some (.tup [.bs l[n].1, .bs l[n].2]) := by rw [List.getElem?_map, List.getElem?_eq_getElem hlt]; rfl
    have hx := iM hany (List.getElem_mem hlt)
    have hs := PG l[n].1 (by omega)
    by_cases he : l[n].2 = []
    ·
     have he0 : (l[n].2.length : Int) = 0 := by rw [he]; rfl
     have hempty : l.any (·.2.isEmpty) = true := List.any_eq_true.2 ⟨_, List.getElem_mem hlt, by rw [he]; rfl⟩
     repeat
      (first
       | (apply aj; iterate 3 rfl) | (apply dF; iterate 6 rfl) | (apply aK; iterate 5 rfl) | (apply dA; rfl; exact I.a; iterate 4 rfl)
       | (apply aA (b := true); (iterate 2 rfl); exact aG; iterate 2 rfl) | (apply dU; iterate 4 rfl)
       | (apply aX; (iterate 4 rfl); (focus (first | exact ⟨by decide, rfl⟩ | (refine ⟨by omega, ?_⟩; rw [Int.toNat_natCast]; assumption))); iterate 2 rfl)
       | (apply aV; rfl; rfl; rfl; intro _) | (apply aO; rfl; (focus (repeat first | exact .z | apply aY.s | apply aN.s)); iterate 4 rfl) | apply EL.nil
       | ((with_reducible apply EK.ah); apply EK.code) | (apply EC.cond_true; rfl)
       | (with_reducible first | apply EC.seq | apply EC.region | apply EC.skip | apply EC.block | apply EC.ret | apply EK.dS | apply EK.aI))
     refine EK.rF rfl rfl rfl ?_
     rw [if_pos hempty]
    ·
     have he0 : ¬ (l[n].2.length : Int) = 0 := fun h => he (List.eq_nil_of_length_eq_zero (by omega))
     repeat
      (first
       | (apply dF; iterate 6 rfl) | (apply aK; iterate 5 rfl) | (apply dA; rfl; exact I.a; iterate 4 rfl)
       | (apply aA (b := true); (iterate 2 rfl); exact aG; iterate 2 rfl) | (apply aA (b := false); (iterate 2 rfl); exact aG; iterate 2 rfl)
       | (apply dU; iterate 4 rfl)
       | (apply aX; (iterate 4 rfl); (focus (first | exact ⟨by decide, rfl⟩ | (refine ⟨by omega, ?_⟩; rw [Int.toNat_natCast]; assumption))); iterate 2 rfl)
       | (apply aV; rfl; rfl; rfl; intro _) | (apply aO; rfl; (focus (repeat first | exact .z | apply aY.s | apply aN.s)); iterate 4 rfl) | apply EL.nil
       | ((with_reducible apply EK.ah); apply EK.code) | (apply EC.cond_true; rfl) | (apply EC.cond_false; rfl)
       | (with_reducible first | apply EC.seq | apply EC.region | apply EC.skip | apply EC.block))
     have hm : ((l.take n).map fun x => dPr (sp x)).length = n := by rw [List.length_map, List.length_take]; omega
     have hnx : (l.take (n + 1)).map (fun x => dPr (sp x)) = (l.take n).map (fun x => dPr (sp x)) ++ [.tup [.bs (split l[n].1), .bs l[n].2]] := by rw [List.take_succ_eq_append_getElem hlt, List.map_append]; rfl
     have hIx : (l.take (n + 1)).any (·.2.isEmpty) = false := by
      rw [List.take_succ_eq_append_getElem hlt, List.any_append, hI, Bool.false_or, List.any_cons, List.any_nil, Bool.or_false]
      cases hv : l[n].2 with
      | nil => exact absurd hv he
      | cons _ _ => rfl
     refine EC.le (Le.pick [1, 0] [_, _] rfl (by decide) rfl) ?_
     refine EC.jm 9 [0, 1, 2, 4, 5] [3, 6, 7, 8] [_] _ (by kernel_rfl) (by kernel_rfl) rfl ?_
     simp only [aQ, List.filterMap_cons, List.filterMap_nil, List.getElem?_cons_zero, List.getElem?_cons_succ]
     repeat
      (first
       | (apply aU; iterate 3 rfl) | (apply bH; iterate 6 rfl) | (apply bT; rfl; exact I.a; iterate 4 rfl))
     refine EM.nil ?_
     repeat (first | rw [List.cons_append] | rw [List.nil_append])
     refine CH.cut 3 ?_
     simp only [List.take_succ_cons, List.take_zero, List.drop_succ_cons, List.drop_zero]
     repeat
      (first
       | (apply bP (hs); rfl; exact ak.refl _ _; exact enA; iterate 2 rfl) | (apply iL; iterate 7 rfl) | (apply kP; iterate 9 rfl))
     refine EM.nil ?_
     repeat (first | rw [List.cons_append] | rw [List.nil_append])
     refine CH.mut (os := [_]) (rest := []) rfl rfl (fZ rfl rfl rfl rfl rfl (by rw [hm]; constructor <;> (simp; omega))) ?_
     rintro _ _ ⟨v', rfl, rfl⟩
     try simp only [St.put]
     repeat (first | rw [List.cons_append] | rw [List.nil_append])
     refine CH.nil ?_
     try simp only [List.drop_succ_cons, List.drop_zero]
     repeat
      (first
       | (apply au; iterate 3 rfl) | (apply aj; iterate 3 rfl) | (apply eU; (iterate 3 rfl); (focus omega); (focus omega); iterate 2 rfl) | apply EL.nil
       | ((with_reducible apply EK.ah); apply EK.code) | (with_reducible first | apply EC.region | apply EK.aF))
     refine EK.again ⟨(v', n + 1), hlt, hIx⟩ (by dsimp only; omega) ?_
     dsimp only
     rw [hnx]
     simp only [Int.natCast_add]
     exact Le.kp
   ·
    obtain rfl : n = l.length := by omega
    have hne : l.any (·.2.isEmpty) = false := by rwa [List.take_length] at hI
    have hrow : (l.take l.length).map (fun x => dPr (sp x)) = (l.map sp).map dPr := by rw [List.take_length, List.map_map]; rfl
    rw [hrow]
    have hso := Lm rv (l.map sp) (by rw [List.length_map]; omega)
    simp only [hne, Bool.false_eq_true, if_false]
    repeat
     (first
      | (apply KT (os := [.row rv 263 2 ((l.map sp).map dPr)]) hso; (iterate 2 rfl); exact ak.refl _ _; (focus (intro _ _; simp [go_sem]; done)); (iterate 2 rfl); rintro _ _ ⟨rfl, qs, hp, hq, rfl⟩; refine EL.le (Le.freeze (pre := []) rfl) ?_; refine EL.le (Le.refine (t := 4) rfl (Rf.fact List.mem_cons_self rfl)) ?_)
      | (apply au; iterate 3 rfl) | (apply aj; iterate 3 rfl) | (apply aA (b := false); (iterate 2 rfl); exact aG; iterate 2 rfl) | apply EL.nil
      | ((with_reducible apply EK.ah); apply EK.code) | (apply EC.cond_false; rfl)
      | (with_reducible first | apply EC.seq | apply EC.region | apply EC.block | apply EC.exit | apply EK.aZ | apply EK.aH))
    have hql : qs.length = l.length := by rw [hp.length_eq, List.length_map]
    have hqd : (qs.map dPr).length = qs.length := by rw [List.length_map]
    refine EC.loop (ι := {n : Nat // n ≤ qs.length ∧ ∀ j (hj : j + 1 < qs.length), j < n → qs[j].1 ≠ qs[j + 1].1})
     (fun n => ⟨[(7, .val (.v (.int .i64 ((n.1 + 1 : Nat) : Int)))), (4, .val (.sl 2 (qs.map dPr)))], [], []⟩)
     (fun n => qs.length - n.1) ⟨0, by omega, fun j _ h => absurd h (Nat.not_lt_zero _)⟩ ?_ ?_
    · exact Le.kp
    rintro ⟨n, hn, hI⟩
    dsimp only
    by_cases hlt : n + 1 < qs.length
    ·
     have hat1 : (qs.map dPr)[n]? = some (.tup [.bs qs[n].1, .bs qs[n].2]) := by rw [List.getElem?_map, List.getElem?_eq_getElem (by omega)]; rfl
     have hat2 : (qs.map dPr)[n + 1]? = some (.tup [.bs qs[n + 1].1, .bs qs[n + 1].2]) := by rw [List.getElem?_map, List.getElem?_eq_getElem hlt]; rfl
     have hE := PV qs[n].1 qs[n + 1].1
     by_cases heq : qs[n].1 = qs[n + 1].1
     ·
      rw [show (qs[n].1 == qs[n + 1].1) = true by simpa using heq] at hE
      repeat
       (first
        | (apply au; iterate 3 rfl) | (apply aA (b := true); (iterate 2 rfl); exact aG; iterate 2 rfl) | (apply aB; iterate 4 rfl) | apply EL.nil
        | ((with_reducible apply EK.ah); apply EK.code) | (apply EC.cond_true; rfl) | (with_reducible first | apply EC.seq | apply EC.region | apply EC.skip | apply EC.block))
      refine EC.draw 12 (by kernel_rfl) ?_
      simp only [List.take_succ_cons, List.take_zero, List.drop_succ_cons, List.drop_zero]
      repeat
       (first
        | (apply bP (hE); rfl; exact ak.refl _ _; exact enA; iterate 2 rfl)
        | (apply bD; (iterate 4 rfl); exact ⟨by omega, by rw [show (((n + 1 : Nat) : Int) - 1).toNat = n by omega]; exact hat1⟩; iterate 2 rfl) | (apply aU; iterate 3 rfl)
        | (apply aW; iterate 7 rfl) | (apply bG; iterate 5 rfl) | (apply mF; (iterate 3 rfl); (focus omega); (focus omega); iterate 2 rfl)
        | (apply bD; (iterate 4 rfl); (focus (first | exact ⟨by decide, rfl⟩ | (refine ⟨by omega, ?_⟩; rw [Int.toNat_natCast]; assumption))); iterate 2 rfl)
        | ((with_reducible apply EH.nil); rfl))
      repeat
       (first
        | (apply aj; iterate 3 rfl) | apply EL.nil | ((with_reducible apply EK.ah); apply EK.code) | (apply EC.cond_true; rfl)
        | (with_reducible first | apply EC.seq | apply EC.region | apply EC.ret | apply EK.dS | apply EK.aI))
      refine EK.rF rfl rfl rfl ?_
      rw [if_neg]
      intro hnd
      have h3 := (hp.map (·.1)).nodup_iff.2 hnd
      have h4 := (List.getElem_inj (h₀ := by rw [List.length_map]; omega) (h₁ := by rw [List.length_map]; exact hlt) h3 (i := n) (j := n + 1)).1 (by simpa using heq)
      omega
     ·
      rw [show (qs[n].1 == qs[n + 1].1) = false by simpa using heq] at hE
      repeat
       (first
        | (apply au; iterate 3 rfl) | (apply aA (b := true); (iterate 2 rfl); exact aG; iterate 2 rfl) | (apply aB; iterate 4 rfl) | apply EL.nil
        | ((with_reducible apply EK.ah); apply EK.code) | (apply EC.cond_true; rfl) | (with_reducible first | apply EC.seq | apply EC.region | apply EC.skip | apply EC.block))
      refine EC.draw 12 (by kernel_rfl) ?_
      simp only [List.take_succ_cons, List.take_zero, List.drop_succ_cons, List.drop_zero]
      repeat
       (first
        | (apply bP (hE); rfl; exact ak.refl _ _; exact enA; iterate 2 rfl)
        | (apply bD; (iterate 4 rfl); exact ⟨by omega, by rw [show (((n + 1 : Nat) : Int) - 1).toNat = n by omega]; exact hat1⟩; iterate 2 rfl) | (apply aU; iterate 3 rfl)
        | (apply aW; iterate 7 rfl) | (apply bG; iterate 5 rfl) | (apply mF; (iterate 3 rfl); (focus omega); (focus omega); iterate 2 rfl)
        | (apply bD; (iterate 4 rfl); (focus (first | exact ⟨by decide, rfl⟩ | (refine ⟨by omega, ?_⟩; rw [Int.toNat_natCast]; assumption))); iterate 2 rfl)
        | ((with_reducible apply EH.nil); rfl))
      repeat
       (first
        | (apply au; iterate 3 rfl) | (apply aj; iterate 3 rfl) | (apply eU; (iterate 3 rfl); (focus omega); (focus omega); iterate 2 rfl) | apply EL.nil
        | ((with_reducible apply EK.ah); apply EK.code) | (apply EC.cond_false; rfl) | (with_reducible first | apply EC.region | apply EC.skip | apply EK.aF))
      refine EK.again ⟨n + 1, by omega, fun j hj hjn => ?_⟩ (by dsimp only; omega) ?_
      ·
       rcases Nat.lt_or_ge j n with h | h
       · exact hI j hj h
       ·
        obtain rfl : j = n := by omega
        exact heq
      dsimp only
      simp only [Int.natCast_add]
      exact Le.kp
    ·
     have hnd := Ny hq fun j hj => hI j hj (by omega)
     have hnd2 : ((l.map sp).map (·.1)).Nodup := (hp.map (·.1)).nodup_iff.1 hnd
     have hqs := NW hp hq hnd2
     repeat
      (first
       | (apply au; iterate 3 rfl) | (apply aj; iterate 3 rfl) | (apply aA (b := false); (iterate 2 rfl); exact aG; iterate 2 rfl)
       | (apply aB; iterate 4 rfl) | apply EL.nil | ((with_reducible apply EK.ah); apply EK.code) | (apply EC.cond_false; rfl)
       | (with_reducible first | apply EC.seq | apply EC.region | apply EC.exit | apply EC.ret | apply EK.aZ | apply EK.aH))
     refine EK.rF rfl rfl rfl ?_
     rw [if_pos hnd2, hqs]
end E
end Go.Proofs.YtiledgojbpmoiaaGreat
namespace Go.Proofs.YtiledgojbpmoiaaGreat
set_option linter.unusedVariables false
open Go.RowKit Mono Rlp
namespace E
theorem uy : ∀ (at_ : Nat) (a b : List UInt8), a < b → a.take at_ = b.take at_ → a.drop at_ < b.drop at_
 | 0, a, b, h, _ => h
 | n + 1, [], [], h, _ => absurd h (List.lt_irrefl _)
 | n + 1, [], _ :: _, _, e => by simp at e
 | n + 1, _ :: _, [], h, _ => absurd h (List.not_lt_nil _)
 | n + 1, x :: a, y :: b, h, e => by
  simp only [List.take_succ_cons, List.cons.injEq] at e
  obtain ⟨rfl, e⟩ := e
  rcases List.cons_lt_cons_iff.1 h with h | ⟨_, h⟩
  · exact absurd h (by simp)
  · exact uy n a b h e
theorem sandwich : ∀ (n : Nat) (a b c : List UInt8), a ≤ b → b ≤ c → a.take n = c.take n → n ≤ a.length → b.take n = a.take n ∧ n ≤ b.length
 | 0, a, b, c, _, _, _, _ => ⟨rfl, Nat.zero_le _⟩
 | n + 1, [], b, c, _, _, _, h => by simp at h
 | n + 1, x :: a, [], c, h, _, _, _ => by
  rw [← List.not_lt] at h
  exact absurd (List.nil_lt_cons x a) h
 | n + 1, x :: a, y :: b, [], _, _, e, _ => by simp at e
 | n + 1, x :: a, y :: b, z :: c, h1, h2, e, h => by
  simp only [List.take_succ_cons, List.cons.injEq] at e
  obtain ⟨rfl, e⟩ := e
  rw [List.cons_le_cons_iff] at h1 h2
  have hxy : x = y := by
   rcases h1 with h1 | ⟨h1, _⟩
   ·
    rcases h2 with h2 | ⟨h2, _⟩
    · exact absurd (UInt8.lt_trans h1 h2) (by simp)
    · exact h2.symm
   · exact h1
  subst hxy
  have h1' : a ≤ b := by
   rcases h1 with h1 | ⟨_, h1⟩
   · exact absurd h1 (by simp)
   · exact h1
  have h2' : b ≤ c := by
   rcases h2 with h2 | ⟨_, h2⟩
   · exact absurd h2 (by simp)
   · exact h2
  obtain ⟨g1, g2⟩ := sandwich n a b c h1' h2' e (by simpa using h)
  exact ⟨by rw [List.take_succ_cons, List.take_succ_cons, g1], by simpa using g2⟩
theorem gX : ∀ (a b : List UInt8), a.take (common a b) = b.take (common a b) ∧ common a b ≤ a.length ∧ common a b ≤ b.length
 | [], b => by simp [common]
 | _ :: _, [] => by simp [common]
 | x :: a, y :: b => by
  unfold common
  split
  ·
   rename_i h
   subst h
   obtain ⟨g1, g2, g3⟩ := gX a b
   refine ⟨by rw [List.take_succ_cons, List.take_succ_cons, g1], by simpa using g2, by simpa using g3⟩
  · simp
structure kT (at_ : Nat) (l : List Pr) : Prop where
 ord : l.Pairwise fun a b => a.1 < b.1
 len : ∀ x ∈ l, at_ ≤ x.1.length
 pre : ∀ x ∈ l, ∀ y ∈ l, x.1.take at_ = y.1.take at_
 nib : ∀ x ∈ l, ∀ b ∈ x.1, b.toNat < 16
theorem kT.sub {at_ : Nat} {l m : List Pr} (h : kT at_ l) (hs : m.Sublist l) : kT at_ m := ⟨h.ord.sublist hs, fun x hx => h.len x (hs.subset hx), fun x hx y hy => h.pre x (hs.subset hx) y (hs.subset hy), fun x hx => h.nib x (hs.subset hx)⟩
theorem kT.longer {at_ : Nat} {x : Pr} {r : List Pr} (h : kT at_ (x :: r)) {y : Pr} (hy : y ∈ r) : at_ < y.1.length := by
 have h1 := h.len y (List.mem_cons_of_mem _ hy)
 rcases Nat.lt_or_ge at_ y.1.length with h2 | h2
 · exact h2
 ·
  exfalso
  have h3 := uy at_ x.1 y.1 ((List.pairwise_cons.1 h.ord).1 y hy) (h.pre _ List.mem_cons_self _ (List.mem_cons_of_mem _ hy))
  rw [List.drop_eq_nil_of_le h2] at h3
  exact List.not_lt_nil _ h3
def dO (at_ : Nat) (x : Pr) : UInt8 := x.1.getD at_ 0
theorem kK {at_ : Nat} {x : Pr} (h : at_ < x.1.length) : x.1[at_]? = some (dO at_ x) := by
 unfold dO
 rw [List.getElem?_eq_getElem h, List.getD_eq_getElem?_getD, List.getElem?_eq_getElem h]
 rfl
theorem kT.mono {at_ : Nat} {l : List Pr} (h : kT at_ l) (hl : ∀ x ∈ l, at_ < x.1.length) {i j : Nat} (hi : i < l.length) (hj : j < l.length) (hij : i ≤ j) : (dO at_ l[i]).toNat ≤ (dO at_ l[j]).toNat := by
 rcases Nat.lt_or_ge i j with h1 | h1
 ·
  have h2 := List.pairwise_iff_getElem.1 h.ord i j hi hj h1
  have h3 := uy at_ _ _ h2 (h.pre _ (List.getElem_mem hi) _ (List.getElem_mem hj))
  have e1 := hl _ (List.getElem_mem hi)
  have e2 := hl _ (List.getElem_mem hj)
  rw [List.drop_eq_getElem_cons e1, List.drop_eq_getElem_cons e2] at h3
  have e3 : dO at_ l[i] = l[i].1[at_] := by unfold dO; rw [List.getD_eq_getElem?_getD, List.getElem?_eq_getElem e1]; rfl
  have e4 : dO at_ l[j] = l[j].1[at_] := by unfold dO; rw [List.getD_eq_getElem?_getD, List.getElem?_eq_getElem e2]; rfl
  rw [e3, e4]
  rcases List.cons_lt_cons_iff.1 h3 with h4 | ⟨h4, _⟩
  · exact Nat.le_of_lt (UInt8.lt_iff_toNat_lt.1 h4)
  ·
   rw [h4]
   exact Nat.le_refl _
 ·
  obtain rfl : i = j := by omega
  exact Nat.le_refl _
def bdF : Nat → List Pr → Nat → Tn
 | 0, _, _ => .nil
 | f + 1, l, at_ => match l with
  | [] => .nil
  | [x] => .leaf (x.1.drop at_) x.2
  | x :: y :: r =>
   if common (x.1.drop at_) (((y :: r).getLast (by simp)).1.drop at_) > 0 then
    .ext ((x.1.drop at_).take (common (x.1.drop at_) (((y :: r).getLast (by simp)).1.drop at_))) (bdF f (x :: y :: r) (at_ + common (x.1.drop at_) (((y :: r).getLast (by simp)).1.drop at_)))
   else if (x.1.drop at_).length = 0 then .br (fun d => bdF f ((y :: r).filter fun z => (dO at_ z).toNat == d) (at_ + 1)) x.2
   else .br (fun d => bdF f ((x :: y :: r).filter fun z => (dO at_ z).toNat == d) (at_ + 1)) []
theorem kT.vT {at_ : Nat} {l : List Pr} (h : kT at_ l) {i j : Nat} (hi : i < l.length) (hj : j < l.length) (hij : i ≤ j) : l[i].1.drop at_ ≤ l[j].1.drop at_ := by
 rcases Nat.lt_or_ge i j with h1 | h1
 · exact List.le_of_lt (uy at_ _ _ (List.pairwise_iff_getElem.1 h.ord i j hi hj h1) (h.pre _ (List.getElem_mem hi) _ (List.getElem_mem hj)))
 ·
  obtain rfl : i = j := by omega
  exact List.le_refl _
theorem kT.more {at_ n : Nat} {l : List Pr} (h : kT at_ l) (h0 : 0 < l.length) (hn : n = common (l[0].1.drop at_) (l[l.length - 1].1.drop at_)) : kT (at_ + n) l := by
 obtain ⟨c1, c2, c3⟩ := gX (l[0].1.drop at_) (l[l.length - 1].1.drop at_)
 rw [← hn] at c1 c2 c3
 have key : ∀ x ∈ l, (x.1.drop at_).take n = (l[0].1.drop at_).take n ∧ n ≤ (x.1.drop at_).length := fun x hx => by
  obtain ⟨i, hi, rfl⟩ := List.getElem_of_mem hx
  exact sandwich n _ _ _ (h.vT h0 hi (Nat.zero_le _)) (h.vT hi (by omega) (by omega)) c1 c2
 refine ⟨h.ord, fun x hx => ?_, fun x hx y hy => ?_, h.nib⟩
 ·
  have h1 := (key x hx).2
  have h2 := h.len x hx
  rw [List.length_drop] at h1
  omega
 · rw [List.take_add, List.take_add, h.pre x hx y hy, (key x hx).1, (key y hy).1]
theorem JB (f at_ : Nat) : bdF f [] at_ = .nil := by cases f <;> rfl
theorem Ql (f at_ : Nat) (x : Pr) : bdF (f + 1) [x] at_ = .leaf (x.1.drop at_) x.2 := rfl
theorem Qm (f at_ : Nat) (l : List Pr) (h : 1 < l.length) (hn : common (l[0].1.drop at_) (l[l.length - 1].1.drop at_) > 0) : bdF (f + 1) l at_ = .ext ((l[0].1.drop at_).take (common (l[0].1.drop at_) (l[l.length - 1].1.drop at_))) (bdF f l (at_ + common (l[0].1.drop at_) (l[l.length - 1].1.drop at_))) := by
 match l, h with
 | x :: y :: r, _ =>
  have e : (y :: r).getLast (by simp) = (x :: y :: r)[(x :: y :: r).length - 1] := by rw [List.getLast_eq_getElem]; simp
  rw [bdF, e]
  exact if_pos hn
theorem Qo (f at_ : Nat) (l : List Pr) (h : 1 < l.length) (hn : ¬ common (l[0].1.drop at_) (l[l.length - 1].1.drop at_) > 0) (h0 : (l[0].1.drop at_).length = 0) : bdF (f + 1) l at_ = .br (fun d => bdF f (l.tail.filter fun z => (dO at_ z).toNat == d) (at_ + 1)) l[0].2 := by
 match l, h with
 | x :: y :: r, _ =>
  have e : (y :: r).getLast (by simp) = (x :: y :: r)[(x :: y :: r).length - 1] := by rw [List.getLast_eq_getElem]; simp
  rw [bdF, e]
  exact (if_neg hn).trans (if_pos h0)
theorem Qn (f at_ : Nat) (l : List Pr) (h : 1 < l.length) (hn : ¬ common (l[0].1.drop at_) (l[l.length - 1].1.drop at_) > 0) (h0 : ¬ (l[0].1.drop at_).length = 0) : bdF (f + 1) l at_ = .br (fun d => bdF f (l.filter fun z => (dO at_ z).toNat == d) (at_ + 1)) [] := by
 match l, h with
 | x :: y :: r, _ =>
  have e : (y :: r).getLast (by simp) = (x :: y :: r)[(x :: y :: r).length - 1] := by rw [List.getLast_eq_getElem]; simp
  rw [bdF, e]
  exact (if_neg hn).trans (if_neg h0)
def jq (f at_ : Nat) (L : List Pr) (m : Nat) : List D := (List.range 16).map fun d => dT (bdF f ((L.take m).filter fun z => (dO at_ z).toNat == d) (at_ + 1))
theorem wQ (f at_ : Nat) (L : List Pr) : jq f at_ L 0 = List.replicate 16 (.v .nilIface) := by
 unfold jq
 simp only [List.take_zero, List.filter_nil, JB]
 rfl
theorem y8 (f at_ : Nat) (L : List Pr) : jq f at_ L L.length = (List.range 16).map fun d => dT (bdF f (L.filter fun z => (dO at_ z).toNat == d) (at_ + 1)) := by
 unfold jq
 rw [List.take_length]
theorem oz (f at_ : Nat) (L : List Pr) (m n k : Nat) (hk : k < 16) (hrun : ∀ z ∈ (L.drop m).take n, (dO at_ z).toNat = k) (hold : ∀ z ∈ L.take m, (dO at_ z).toNat ≠ k) : jq f at_ L (m + n) = (jq f at_ L m).set k (dT (bdF f ((L.drop m).take n) (at_ + 1))) := by
 unfold jq
 refine List.ext_getElem? fun d => ?_
 rw [List.take_add, List.getElem?_set]
 by_cases hd : k = d
 ·
  subst hd
  rw [if_pos rfl, if_pos (by simpa using hk), List.getElem?_map, List.getElem?_range hk, Option.map_some, List.filter_append]
  have e1 : (L.take m).filter (fun z => (dO at_ z).toNat == k) = [] := List.filter_eq_nil_iff.2 fun z hz => by simpa using hold z hz
  have e2 : ((L.drop m).take n).filter (fun z => (dO at_ z).toNat == k) = (L.drop m).take n := List.filter_eq_self.2 fun z hz => by simpa using hrun z hz
  rw [e1, e2, List.nil_append]
 ·
  rw [if_neg hd, List.getElem?_map, List.getElem?_map]
  by_cases h16 : d < 16
  ·
   rw [List.getElem?_range h16, Option.map_some, Option.map_some, List.filter_append]
   have e2 : ((L.drop m).take n).filter (fun z => (dO at_ z).toNat == d) = [] := List.filter_eq_nil_iff.2 fun z hz => by
    have := hrun z hz
    simp
    omega
   rw [e2, List.append_nil]
  ·
   rw [List.getElem?_eq_none (by simp; omega)]
   rfl
end E
end Go.Proofs.YtiledgojbpmoiaaGreat
