/-
 Merged (wip/tools/merge.py): PG2, Open, OpenAll, OpenWord, OpenW, OpenSh, OpenPr, LawM.
 Conditions: none.
-/
import Derived.Test.YtiledgojbpmoiaaGreatZR33
import Derived.Test.YtiledgojbpmoiaaGreatZR2
import Derived.OpenShut
import Derived.Test.YtiledgojbpmoiaaGreatZR3
import Derived.Deep.Slices
import Derived.ChangeSame
import Derived.SizedLaws
import Derived.Test.YtiledgojbpmoiaaGreatZR19
import Derived.Test.YtiledgojbpmoiaaGreatZR11
import Derived.Below
namespace Go.Proofs.YtiledgojbpmoiaaGreat
set_option linter.unusedVariables false
set_option maxRecDepth 20000
set_option maxHeartbeats 32000000
open Go.RowKit Mono Rlp
namespace E
theorem II (l m : List Pr) (key : List UInt8) : FnM 7 [.sl 2 (l.map dPr), .sl 2 (m.map dPr), .bs key] [] (fun r os' => r = .val (.v (.bool true)) ∧ os' = []) := by
 have hL := Qg
 have hB := Qe l
 have hB2 := Qe m
 have hM := oW l
 have hM2 := oW m
 have hml : (l.map dPr).length = l.length := List.length_map _
 have hmm : (m.map dPr).length = m.length := List.length_map _
 refine FnM.walk 139 Tryz.func7 rfl Tryz.ntmps7 (by simp) fun X => ?_
 cases hbg : Tf l with
 | true =>
  rw [hbg] at hB
  repeat
   (first
    | (apply fF; iterate 2 rfl) | (apply aA (hL); rfl; exact aj.refl _ _; exact enA; iterate 2 rfl)
    | (apply aA (hB); rfl; exact aj.refl _ _; exact enA; iterate 2 rfl) | (apply au; iterate 3 rfl) | (apply ak; iterate 3 rfl)
    | (apply aT; iterate 4 rfl) | (apply dP; iterate 3 rfl) | apply EL.nil | ((with_reducible apply EK.ah); apply EK.code) | (apply EC.cond_true; rfl)
    | (with_reducible first | apply EC.seq | apply EC.region | apply EC.ret | apply EK.aH))
  exact EK.iy [] rfl rfl (List.nil_sublist _) ⟨rfl, rfl⟩
 | false =>
 rw [hbg] at hB
 cases hbg2 : Tf m with
 | true =>
  rw [hbg2] at hB2
  repeat
   (first
    | (apply fF; iterate 2 rfl) | (apply aA (hL); rfl; exact aj.refl _ _; exact enA; iterate 2 rfl)
    | (apply aA (hB); rfl; exact aj.refl _ _; exact enA; iterate 2 rfl) | (apply aA (hB2); rfl; exact aj.refl _ _; exact enA; iterate 2 rfl)
    | (apply au; iterate 3 rfl) | (apply ak; iterate 3 rfl) | (apply aT; iterate 4 rfl) | (apply dP; iterate 3 rfl) | apply EL.nil
    | ((with_reducible apply EK.ah); apply EK.code) | (apply EC.cond_true; rfl) | (with_reducible first | apply EC.seq | apply EC.region | apply EC.ret | apply EK.aH))
  exact EK.iy [] rfl rfl (List.nil_sublist _) ⟨rfl, rfl⟩
 | false =>
 rw [hbg2] at hB2
 by_cases ha : 64 < key.length
 ·
  skip
  repeat
   (first
    | (apply fF; iterate 2 rfl) | (apply aA (hL); rfl; exact aj.refl _ _; exact enA; iterate 2 rfl)
    | (apply aA (hB); rfl; exact aj.refl _ _; exact enA; iterate 2 rfl) | (apply aA (hB2); rfl; exact aj.refl _ _; exact enA; iterate 2 rfl)
    | (apply au; iterate 3 rfl) | (apply ak; iterate 3 rfl) | (apply aT; iterate 4 rfl) | (apply dP; iterate 3 rfl)
    | (apply aC (b := true); (iterate 2 rfl); exact aO; iterate 2 rfl) | (apply aU; iterate 4 rfl) | apply EL.nil | ((with_reducible apply EK.ah); apply EK.code)
    | (apply EC.cond_true; rfl) | (with_reducible first | apply EC.seq | apply EC.region | apply EC.ret | apply EK.aH))
  exact EK.iy [] rfl rfl (List.nil_sublist _) ⟨rfl, rfl⟩
 by_cases nl : l.length < 1
 ·
  skip
  repeat
   (first
    | (apply fF; iterate 2 rfl) | (apply aA (hL); rfl; exact aj.refl _ _; exact enA; iterate 2 rfl)
    | (apply aA (hB); rfl; exact aj.refl _ _; exact enA; iterate 2 rfl) | (apply aA (hB2); rfl; exact aj.refl _ _; exact enA; iterate 2 rfl)
    | (apply au; iterate 3 rfl) | (apply ak; iterate 3 rfl) | (apply aT; iterate 4 rfl) | (apply dP; iterate 3 rfl)
    | (apply aC (b := true); (iterate 2 rfl); exact aO; iterate 2 rfl) | (apply aC (b := false); (iterate 2 rfl); exact aO; iterate 2 rfl)
    | (apply aU; iterate 4 rfl) | (apply aJ; iterate 4 rfl) | apply EL.nil | ((with_reducible apply EK.ah); apply EK.code) | (apply EC.cond_true; rfl)
    | (with_reducible first | apply EC.seq | apply EC.region | apply EC.ret | apply EK.aH))
  exact EK.iy [] rfl rfl (List.nil_sublist _) ⟨rfl, rfl⟩
 by_cases nm : m.length < 1
 ·
  skip
  repeat
   (first
    | (apply fF; iterate 2 rfl) | (apply aA (hL); rfl; exact aj.refl _ _; exact enA; iterate 2 rfl)
    | (apply aA (hB); rfl; exact aj.refl _ _; exact enA; iterate 2 rfl) | (apply aA (hB2); rfl; exact aj.refl _ _; exact enA; iterate 2 rfl)
    | (apply au; iterate 3 rfl) | (apply ak; iterate 3 rfl) | (apply aT; iterate 4 rfl) | (apply dP; iterate 3 rfl)
    | (apply aC (b := true); (iterate 2 rfl); exact aO; iterate 2 rfl) | (apply aC (b := false); (iterate 2 rfl); exact aO; iterate 2 rfl)
    | (apply aU; iterate 4 rfl) | (apply aJ; iterate 4 rfl) | apply EL.nil | ((with_reducible apply EK.ah); apply EK.code) | (apply EC.cond_true; rfl)
    | (with_reducible first | apply EC.seq | apply EC.region | apply EC.ret | apply EK.aH))
  exact EK.iy [] rfl rfl (List.nil_sublist _) ⟨rfl, rfl⟩
 by_cases he : fP l = 0
 ·
  by_cases hem : fP m = 0
  ·
   have hC := clear_ [l, m] (by simp)
   have hlaw := fun h => LC he hem (by intro e; rw [e] at nl; simp at nl) (by intro e; rw [e] at nm; simp at nm) h (key := key) (by omega)
   have hT := J8 l
   have hT2 := J8 m
   rw [OG] at hT hT2
   have hP := SI l key (by omega)
   have hK := uJ (fK m) key (uY l key) (tX m) (by omega)
   have hK2 := uJ kE key (uY l key) (fH _) (by omega)
   have hK3 := uJ (fK l) key [] (tX l) (by omega)
   have hE := Gp
   have hw := (nY (fK l) (fK m)).1
   rw [he] at hM hT hP
   rw [hem] at hM2 hT2
   unfold Rt at hK hK2 hK3
   generalize qF (fK m) key (uY l key) = r1 at *
   generalize qF kE key (uY l key) = r2 at *
   generalize qF (fK l) key [] = r3 at *
   generalize uY l key = q at *
   generalize fK l = rl at *
   generalize fK m = rm at *
   obtain ⟨v1, e1⟩ := r1
   obtain ⟨v2, e2⟩ := r2
   obtain ⟨v3, e3⟩ := r3
   dsimp only at hK hK2 hK3 hlaw
   generalize decide (0 < v1.length) = d1 at *
   generalize decide (0 < v2.length) = d2 at *
   generalize decide (0 < v3.length) = d3 at *
   simp only [List.map_cons, List.map_nil, Qq] at hC hK3
   clear hbg hbg2
   repeat
    (first
     | (apply aA (hL); rfl; exact aj.refl _ _; exact enA; iterate 2 rfl) | (apply aA (hB); rfl; exact aj.refl _ _; exact enA; iterate 2 rfl)
     | (apply aA (hB2); rfl; exact aj.refl _ _; exact enA; iterate 2 rfl) | (apply aA (hM); rfl; exact aj.refl _ _; exact enA; iterate 2 rfl)
     | (apply aA (hM2); rfl; exact aj.refl _ _; exact enA; iterate 2 rfl) | (apply jD; iterate 9 rfl) | (apply au; iterate 3 rfl)
     | (apply ak; iterate 3 rfl) | (apply aT; iterate 4 rfl) | (apply dP; iterate 3 rfl)
     | (apply aC (b := false); (iterate 2 rfl); exact aO; iterate 2 rfl) | (apply aU; iterate 4 rfl) | (apply aJ; iterate 4 rfl)
     | (apply jD; iterate 9 rfl) | apply EL.nil | ((with_reducible apply EK.ah); apply EK.code) | (apply EC.cond_false; rfl)
     | (with_reducible first | apply EC.seq | apply EC.region | apply EC.skip))
   refine D6 (os := []) hC rfl rfl (aj.refl _ _) (by intro _ _; simp [go_sem]) rfl rfl ?_
   rintro _ _ ⟨cb, hcb, rfl, rfl⟩
   simp only [List.nil_append]
   cases cb with
   | false =>
    repeat
     (first
      | (apply au; iterate 3 rfl) | (apply ak; iterate 3 rfl) | (apply dP; iterate 3 rfl) | apply EL.nil | ((with_reducible apply EK.ah); apply EK.code)
      | (apply EC.cond_true; rfl) | (with_reducible first | apply EC.seq | apply EC.region | apply EC.ret | apply EK.aH))
    exact EK.iy [] rfl rfl (List.nil_sublist _) ⟨rfl, rfl⟩
   | true =>
    obtain ⟨l1, l2, l3, l4⟩ := hlaw (hcb rfl)
    subst l3
    subst l4
    clear hlaw hcb
    have n3 := DK 3
    have n5 := DK 5
    repeat
     (first
      | (apply au; iterate 3 rfl) | (apply ak; iterate 3 rfl) | (apply dP; iterate 3 rfl) | apply EL.nil | ((with_reducible apply EK.ah); apply EK.code)
      | (apply EC.cond_false; rfl) | (with_reducible first | apply EC.seq | apply EC.region | apply EC.skip))
    refine KO hT rfl (aj.refl _ _) (by intro _ _; simp [go_sem]) rfl rfl ?_
    rintro _ ⟨ns, rfl⟩
    repeat
     (first
      | (apply au; iterate 3 rfl) | (apply ak; iterate 3 rfl) | (apply aF; iterate 4 rfl) | (apply aZ; rfl; rfl; rfl; intro _)
      | (apply aN; rfl; (focus (repeat first | exact .z | apply bC.s | apply aP.s)); iterate 4 rfl) | apply EL.nil | ((with_reducible apply EK.ah); apply EK.code)
      | (with_reducible first | apply EC.seq | apply EC.region))
    refine KO hT2 rfl (aj.refl _ _) (by intro _ _; simp [go_sem]) rfl rfl ?_
    rintro _ ⟨ns2, rfl⟩
    by_cases hrr : rl = rm
    ·
     obtain rfl : e1 = 0 := l1.2 hrr
     rw [show (rl == rm) = true by simp [hrr]] at hw
     have n0 := DK 0
     have b1 := (GU true true).1
     repeat
      (first
       | (apply aA (hP); rfl; exact aj.refl _ _; exact enA; iterate 2 rfl) | (apply aA (hK); rfl; exact aj.refl _ _; exact enA; iterate 2 rfl)
       | (apply aA (hE); rfl; exact aj.refl _ _; exact enA; iterate 2 rfl) | (apply aA (hK2); rfl; exact aj.refl _ _; exact enA; iterate 2 rfl)
       | (apply aA (hK3); rfl; exact RL.a; exact enA; iterate 2 rfl) | (apply au; iterate 3 rfl) | (apply ak; iterate 3 rfl)
       | (apply aF; iterate 4 rfl) | (apply dh; rfl; exact I.a; iterate 4 rfl) | (apply aZ; rfl; rfl; rfl; intro _)
       | (apply aN; rfl; (focus (repeat first | exact .z | apply bC.s | apply aP.s)); iterate 4 rfl) | apply EL.nil | ((with_reducible apply EK.ah); apply EK.code)
       | (with_reducible first | apply EC.seq | apply EC.region))
     refine EC.draw 10 (by kernel_rfl) ?_
     simp only [List.take_succ_cons, List.take_zero, List.drop_succ_cons, List.drop_zero]
     repeat
      (first
       | (apply dW (n0); rfl; exact aj.refl _ _; exact enA; iterate 2 rfl) | (apply lD; (iterate 2 rfl); exact hw; iterate 2 rfl)
       | (apply lD; (iterate 2 rfl); exact b1; iterate 2 rfl) | (apply aY; iterate 3 rfl) | (apply dH; rfl; exact I.a; iterate 4 rfl)
       | (apply jw (b := true); (iterate 2 rfl); exact aO; iterate 2 rfl) | ((with_reducible apply EH.nil); rfl))
     repeat
      (first
       | (apply fF; iterate 2 rfl) | (apply aA (n3); rfl; exact aj.refl _ _; exact enA; iterate 2 rfl)
       | (apply aA (n5); rfl; exact aj.refl _ _; exact enA; iterate 2 rfl) | (apply dY; (iterate 2 rfl); exact hw; iterate 2 rfl) | (apply au; iterate 3 rfl)
       | (apply ak; iterate 3 rfl) | (apply aT; iterate 4 rfl) | (apply aC (b := true); (iterate 2 rfl); exact aO; iterate 2 rfl) | apply EL.nil
       | ((with_reducible apply EK.ah); apply EK.code) | (with_reducible apply EC.ret))
     exact EK.iy [] rfl rfl (List.nil_sublist _) ⟨rfl, rfl⟩
    ·
     obtain rfl : e1 = 5 := l2 hrr
     rw [show (rl == rm) = false by simp [hrr]] at hw
     have b1 := (GU false false).1
     repeat
      (first
       | (apply aA (hP); rfl; exact aj.refl _ _; exact enA; iterate 2 rfl) | (apply aA (hK); rfl; exact aj.refl _ _; exact enA; iterate 2 rfl)
       | (apply aA (hE); rfl; exact aj.refl _ _; exact enA; iterate 2 rfl) | (apply aA (hK2); rfl; exact aj.refl _ _; exact enA; iterate 2 rfl)
       | (apply aA (hK3); rfl; exact RL.a; exact enA; iterate 2 rfl) | (apply au; iterate 3 rfl) | (apply ak; iterate 3 rfl)
       | (apply aF; iterate 4 rfl) | (apply dh; rfl; exact I.a; iterate 4 rfl) | (apply aZ; rfl; rfl; rfl; intro _)
       | (apply aN; rfl; (focus (repeat first | exact .z | apply bC.s | apply aP.s)); iterate 4 rfl) | apply EL.nil | ((with_reducible apply EK.ah); apply EK.code)
       | (with_reducible first | apply EC.seq | apply EC.region))
     refine EC.draw 10 (by kernel_rfl) ?_
     simp only [List.take_succ_cons, List.take_zero, List.drop_succ_cons, List.drop_zero]
     repeat
      (first
       | (apply dW (n5); rfl; exact aj.refl _ _; exact enA; iterate 2 rfl) | (apply lD; (iterate 2 rfl); exact hw; iterate 2 rfl)
       | (apply lD; (iterate 2 rfl); exact b1; iterate 2 rfl) | (apply aY; iterate 3 rfl) | (apply dH; rfl; exact I.a; iterate 4 rfl)
       | (apply jw (b := false); (iterate 2 rfl); exact aO; iterate 2 rfl) | ((with_reducible apply EH.nil); rfl))
     repeat
      (first
       | (apply aA (n3); rfl; exact aj.refl _ _; exact enA; iterate 2 rfl) | (apply aA (n5); rfl; exact aj.refl _ _; exact enA; iterate 2 rfl)
       | (apply dY; (iterate 2 rfl); exact hw; iterate 2 rfl) | (apply au; iterate 3 rfl) | (apply ak; iterate 3 rfl) | (apply aT; iterate 4 rfl)
       | (apply aC (b := true); (iterate 2 rfl); exact aO; iterate 2 rfl) | apply EL.nil | ((with_reducible apply EK.ah); apply EK.code) | (with_reducible apply EC.ret))
     exact EK.iy [] rfl rfl (List.nil_sublist _) ⟨rfl, rfl⟩
  ·
   have hne : (fP m : Int) ≠ 0 := by omega
   rw [he] at hM
   repeat
    (first
     | (apply aA (hL); rfl; exact aj.refl _ _; exact enA; iterate 2 rfl) | (apply aA (hB); rfl; exact aj.refl _ _; exact enA; iterate 2 rfl)
     | (apply aA (hB2); rfl; exact aj.refl _ _; exact enA; iterate 2 rfl) | (apply aA (hM); rfl; exact aj.refl _ _; exact enA; iterate 2 rfl)
     | (apply aA (hM2); rfl; exact aj.refl _ _; exact enA; iterate 2 rfl) | (apply au; iterate 3 rfl) | (apply ak; iterate 3 rfl)
     | (apply aT; iterate 4 rfl) | (apply dP; iterate 3 rfl) | (apply aC (b := true); (iterate 2 rfl); exact aO; iterate 2 rfl)
     | (apply aC (b := false); (iterate 2 rfl); exact aO; iterate 2 rfl) | (apply aU; iterate 4 rfl) | (apply aJ; iterate 4 rfl) | apply EL.nil
     | ((with_reducible apply EK.ah); apply EK.code) | (apply EC.cond_true; rfl) | (with_reducible first | apply EC.seq | apply EC.region | apply EC.ret | apply EK.aH))
   exact EK.iy [] rfl rfl (List.nil_sublist _) ⟨rfl, rfl⟩
 ·
  have hne : (fP l : Int) ≠ 0 := by omega
  repeat
   (first
    | (apply fF; iterate 2 rfl) | (apply aA (hL); rfl; exact aj.refl _ _; exact enA; iterate 2 rfl)
    | (apply aA (hB); rfl; exact aj.refl _ _; exact enA; iterate 2 rfl) | (apply aA (hB2); rfl; exact aj.refl _ _; exact enA; iterate 2 rfl)
    | (apply aA (hM); rfl; exact aj.refl _ _; exact enA; iterate 2 rfl) | (apply au; iterate 3 rfl) | (apply ak; iterate 3 rfl)
    | (apply aT; iterate 4 rfl) | (apply dP; iterate 3 rfl) | (apply aC (b := true); (iterate 2 rfl); exact aO; iterate 2 rfl)
    | (apply aC (b := false); (iterate 2 rfl); exact aO; iterate 2 rfl) | (apply aU; iterate 4 rfl) | (apply aJ; iterate 4 rfl) | apply EL.nil
    | ((with_reducible apply EK.ah); apply EK.code) | (apply EC.cond_true; rfl) | (with_reducible first | apply EC.seq | apply EC.region | apply EC.ret | apply EK.aH))
  exact EK.iy [] rfl rfl (List.nil_sublist _) ⟨rfl, rfl⟩
end E
end Go.Proofs.YtiledgojbpmoiaaGreat
namespace Go.Proofs.YtiledgojbpmoiaaGreat
open Go.RowKit Mono

end Go.Proofs.YtiledgojbpmoiaaGreat
namespace Go.Proofs.YtiledgojbpmoiaaGreat
set_option linter.unusedVariables false
set_option maxRecDepth 100000
open Go.RowKit Mono Go.ChangeShapes Go.WideShapes Go.Deep
theorem cell_spot {w : World} {p : Addr} {v : Value} (h : w.cell? p = some v) : p.block < w.heap.size ∧ ∃ b o, p = ⟨b, o, none⟩ := by
 obtain ⟨blk, off, spot⟩ := p
 have hspot : spot = none := by
  simp only [World.cell?] at h
  cases spot with
  | none => rfl
  | some s =>
   simp at h
   split at h <;> simp at h
 subst hspot
 refine ⟨?_, blk, off, rfl⟩
 rcases Nat.lt_or_ge blk w.heap.size with hlt | hge
 · exact hlt
 · simp [World.cell?, Array.getElem?_eq_none hge] at h
theorem flat_get {n : Nat} {u : Value} : ∀ (rows : List (List Value)) (j : Nat), (∀ r ∈ rows, r.length = n) → rows.flatten[j]? = some u → ∃ i r row, j = i * n + r ∧ r < n ∧ rows[i]? = some row ∧ row[r]? = some u
 | [], j, _, h => by simp at h
 | row :: rows, j, hn, h => by
  have hr : row.length = n := hn row (by simp)
  rw [List.flatten_cons] at h
  by_cases hj : j < n
  ·
   rw [List.getElem?_append_left (by omega)] at h
   exact ⟨0, j, row, by simp, hj, rfl, h⟩
  ·
   rw [List.getElem?_append_right (by omega), hr] at h
   obtain ⟨i, r, row', h1, h2, h3, h4⟩ := flat_get rows (j - n) (fun r hr => hn r (by simp [hr])) h
   exact ⟨i + 1, r, row', by rw [Nat.add_mul]; omega, h2, by simpa using h3, h4⟩
section
variable {H : Type} {enc : TypeId × Value → H} {w : World} {spare : Nat → Bool} {held : Bool}
theorem Hw {t e n : TypeId} {fuel : Nat} {v : Value} {x : DataW H × List MemPlace} (ht : Tryz.prog.underlying t = some (.slice e)) (hn : Tryz.prog.cellsOf e = n) (h : DataW.trod enc Tryz.prog w 0 spare held fuel t [v] = some x) :
  ∃ (A : Option Addr) (c f : Nat) (rows : List (List Value)), v = .slice A rows.length c ∧ rows.length ≤ c ∧ c ≤ maxLen ∧ Rd w w.heap.size A rows.flatten ∧ (∀ r ∈ rows, r.length = n) ∧ (A = none → rows = [] ∧ c = 0) ∧ ∀ r ∈ rows, ∃ y, DataW.trod enc Tryz.prog w 0 spare held f e r = some y := by
 rcases open_slice ht h with ⟨hcs, _⟩ | ⟨a, len, cap, m, f, D, Pl, hcs, _, hl, hm, hmm, _, hi⟩
 ·
  simp at hcs
  subst hcs
  exact ⟨none, 0, 0, [], rfl, Nat.le_refl _, by simp [maxLen], Rd.nil, by simp, fun _ => ⟨rfl, rfl⟩, by simp⟩
 ·
  simp at hcs
  subst hcs
  have hlm : len ≤ m := by rw [hmm]; split <;> omega
  rw [hn] at hi
  let row : Nat → List Value := fun i => (w.cells? 0 (a.add (i * n)) n).getD []
  have hrow : ∀ i, i < len → w.cells? 0 (a.add (i * n)) n = some (row i) ∧ ∃ y, DataW.trod enc Tryz.prog w 0 spare held f e (row i) = some y := fun i hil => by
   obtain ⟨cs', h1, h2⟩ := hi i (by omega)
   have : row i = cs' := by simp only [row]; rw [h1]; rfl
   rw [this]
   exact ⟨h1, _, h2⟩
  have hmem : ∀ r ∈ (List.range len).map row, ∃ i, i < len ∧ r = row i := fun r hr => by
   obtain ⟨i, h1, h2⟩ := List.mem_map.1 hr
   exact ⟨i, List.mem_range.1 h1, h2.symm⟩
  have hlen : ∀ r ∈ (List.range len).map row, r.length = n := fun r hr => by
   obtain ⟨i, h1, rfl⟩ := hmem r hr
   exact (World.cells?_some (hrow i h1).1).2.1
  refine ⟨some a, cap, f, (List.range len).map row, by simp, by simpa using hl, hm, ?_, hlen, (fun e => by cases e), fun r hr => ?_⟩
  ·
   have hcell : ∀ j u, ((List.range len).map row).flatten[j]? = some u → w.cell? (a.add j) = some u := fun j u hu => by
    obtain ⟨i, r, row', rfl, h2, h3, h4⟩ := flat_get _ j hlen hu
    have hil : i < len := by
     have := (List.getElem?_eq_some_iff.1 h3).1
     simpa using this
    have h5 : row' = row i := by
     rw [List.getElem?_map, List.getElem?_range hil] at h3
     exact (Option.some.inj h3).symm
    subst h5
    have h6 := (World.cells?_some (hrow i hil).1).2.2 r h2
    rw [h4, Go.Deep.add_add] at h6
    exact h6
   intro hne
   obtain ⟨u0, rest, he⟩ := List.exists_cons_of_ne_nil hne
   have h0 := hcell 0 u0 (by rw [he]; rfl)
   rw [show a.add 0 = a from if_pos rfl] at h0
   obtain ⟨h1, b, o, rfl⟩ := cell_spot h0
   refine ⟨b, o, rfl, h1, fun j u hu => ?_⟩
   have := hcell j u hu
   rw [eF] at this
   exact this
  ·
   obtain ⟨i, h1, rfl⟩ := hmem r hr
   exact (hrow i h1).2
theorem int_of_trod {t : TypeId} {k : IntKind} {fuel : Nat} {cs : List Value} {x : DataW H × List MemPlace} (ht : Tryz.prog.underlying t = some (.int k)) (h : DataW.trod enc Tryz.prog w 0 spare held fuel t cs = some x) : ∃ n, cs = [.int k n] ∧ (Lit.int k n).wf = true := by
 obtain ⟨n, h1, _, h2⟩ := DataW.trod_int ht h
 exact ⟨n, h1, h2⟩
theorem rY {fuel : Nat} {cs : List Value} {x : DataW H × List MemPlace} (h : DataW.trod enc Tryz.prog w 0 spare held fuel 5 cs = some x) : ∃ b : UInt8, cs = [bv b] := by
 obtain ⟨n, rfl, hw⟩ := int_of_trod Tryz.underlying5 h
 have hb := bounds_u8 hw
 refine ⟨UInt8.ofNat n.toNat, ?_⟩
 unfold bv
 rw [UInt8.toNat_ofNat']
 have : ((n.toNat % 2 ^ 8 : Nat) : Int) = n := by omega
 rw [this]
theorem rW {rows : List (List Value)} (h : ∀ r ∈ rows, ∃ b : UInt8, r = [bv b]) : ∃ l : List UInt8, l.length = rows.length ∧ rows.flatten = bvs l := by
 induction rows with
 | nil => exact ⟨[], rfl, rfl⟩
 | cons r rows ih =>
  obtain ⟨l, h1, h2⟩ := ih fun r hr => h r (by simp [hr])
  obtain ⟨b, rfl⟩ := h r (by simp)
  exact ⟨b :: l, by simp [h1], by simp [h2, bvs]⟩
theorem Am {fuel : Nat} {v : Value} {x : DataW H × List MemPlace} (h : DataW.trod enc Tryz.prog w 0 spare held fuel 30 [v] = some x) : ∃ l, IsB w v l := by
 obtain ⟨A, c, f, rows, rfl, h1, h2, h3, _, _, h5⟩ := Hw Tryz.underlying30 (by kernel_rfl : Tryz.prog.cellsOf 5 = 1) h
 obtain ⟨l, h6, h7⟩ := rW fun r hr => by
  obtain ⟨y, hy⟩ := h5 r hr
  exact rY hy
 rw [h7] at h3
 exact ⟨l, A, c, by rw [h6], by rw [h6]; exact h1, h2, h3⟩
set_option maxRecDepth 100000
variable {r : Reach} {b0 : Nat} {v : Value} {d : DataW H} {ps : List MemPlace}
theorem Ry (hv : Value.okWide Tryz.prog w r b0 30 v) (h : DataW.Trod enc Tryz.prog w 0 spare held 30 v d ps) : ∃ l, IsB w v l := by
 obtain ⟨a, n, c, rfl⟩ := okWide_slice Tryz.underlying30 hv
 obtain ⟨fuel, hf⟩ := h
 exact Am hf
end
section
variable {H : Type} {enc : TypeId × Value → H} {w : World} {spare : Nat → Bool} {held : Bool}
theorem Vh (cs : List Value) (h : ∀ u ∈ cs, ∃ b : UInt8, u = bv b) : ∃ l : List UInt8, cs = bvs l := by
 induction cs with
 | nil => exact ⟨[], rfl⟩
 | cons u cs ih =>
  obtain ⟨l, hl⟩ := ih fun u hu => h u (by simp [hu])
  obtain ⟨b, rfl⟩ := h u (by simp)
  exact ⟨b :: l, by rw [hl]; rfl⟩
theorem GV {t : TypeId} {n fuel : Nat} {cs : List Value} {x : DataW H × List MemPlace} (ht : Tryz.prog.underlying t = some (.array n 5)) (hc : Tryz.prog.cellsOf t = n) (h : DataW.trod enc Tryz.prog w 0 spare held fuel t cs = some x) :
  ∃ l : List UInt8, l.length = n ∧ cs = bvs l := by
 obtain ⟨xs, m, _, _, hl, hxl, hg⟩ := DataW.trod_array ht h
 rw [hc] at hl
 obtain ⟨l, rfl⟩ := Vh cs fun u hu => by
  obtain ⟨i, hi, rfl⟩ := List.getElem_of_mem hu
  have h1 := hg i (by omega)
  rw [(by kernel_rfl : Tryz.prog.cellsOf 5 = 1), Nat.mul_one, List.drop_eq_getElem_cons hi, List.take_succ_cons, List.take_zero, List.getElem?_eq_getElem (by omega)] at h1
  obtain ⟨b, hb⟩ := rY h1
  exact ⟨b, by simpa using hb⟩
 exact ⟨l, by rw [← hl, bn], rfl⟩
variable {r : Reach} {b0 : Nat} {v : Value} {d : DataW H} {ps : List MemPlace}
end
section
variable {H : Type} {enc : TypeId × Value → H} {w : World} {spare : Nat → Bool} {held : Bool}
theorem vZ {P : Program} {e : TypeId} {d : DataW H} {k : Nat} : ∀ {ds : List (DataW H)}, d ∈ ds → k ∈ d.weights P e → k ∈ DataW.weightsAll P e ds
 | [], h, _ => by cases h
 | x :: xs, h, hk => by
  rw [DataW.weightsAll]
  rcases List.mem_cons.1 h with rfl | h
  · exact List.mem_append_left _ hk
  · exact List.mem_append_right _ (vZ h hk)
theorem wB {t e n : TypeId} {fuel : Nat} {v : Value} {x : DataW H × List MemPlace} (ht : Tryz.prog.underlying t = some (.slice e)) (hn : Tryz.prog.cellsOf e = n) (h : DataW.trod enc Tryz.prog w 0 spare held fuel t [v] = some x) :
  ∃ (A : Option Addr) (c f : Nat) (rows : List (List Value)), v = .slice A rows.length c ∧ rows.length ≤ c ∧ c ≤ maxLen ∧ Rd w w.heap.size A rows.flatten ∧ (∀ r ∈ rows, r.length = n) ∧ (A = none → rows = [] ∧ c = 0) ∧ (rows ≠ [] → f < fuel) ∧ (∀ r ∈ rows, ∃ y, DataW.trod enc Tryz.prog w 0 spare held f e r = some y ∧ ∀ k ∈ y.1.weights Tryz.prog e, k ∈ x.1.weights Tryz.prog t) ∧ (rows ≠ [] → ∃ k ∈ x.1.weights Tryz.prog t, rows.length * Tryz.prog.bytesOf e ≤ k) := by
 rcases DataW.trod_slice ht h with ⟨hcs, hx⟩ | ⟨a, len, cap, elems, rest, f, hfu, hcs, hx, _, hl, hm, hel, hi, _⟩
 ·
  simp at hcs
  subst hcs
  exact ⟨none, 0, 0, [], rfl, Nat.le_refl _, by simp [maxLen], Rd.nil, by simp, fun _ => ⟨rfl, rfl⟩, fun hne => absurd rfl hne, by simp, fun hne => absurd rfl hne⟩
 ·
  simp at hcs
  subst hcs
  rw [hn] at hi
  let row : Nat → List Value := fun i => (w.cells? 0 (a.add (i * n)) n).getD []
  have hrow : ∀ i, i < len → w.cells? 0 (a.add (i * n)) n = some (row i) ∧ ∃ y, DataW.trod enc Tryz.prog w 0 spare held f e (row i) = some y ∧ ∀ k ∈ y.1.weights Tryz.prog e, k ∈ x.1.weights Tryz.prog t := fun i hil => by
   have h1 := hi i hil
   rw [List.getElem?_eq_getElem (by omega)] at h1
   cases hc : w.cells? 0 (a.add (i * n)) n with
   | none => rw [hc] at h1; cases h1
   | some cs' =>
    rw [hc] at h1
    have : row i = cs' := by simp only [row]; rw [hc]; rfl
    rw [this]
    refine ⟨rfl, _, h1, fun k hk => ?_⟩
    rw [hx, DataW.weights, ht]
    exact List.mem_cons_of_mem _ (List.mem_append_left _ (vZ (List.mem_map_of_mem (List.getElem_mem (by omega))) hk))
  have hmem : ∀ r ∈ (List.range len).map row, ∃ i, i < len ∧ r = row i := fun r hr => by
   obtain ⟨i, h1, h2⟩ := List.mem_map.1 hr
   exact ⟨i, List.mem_range.1 h1, h2.symm⟩
  have hlen : ∀ r ∈ (List.range len).map row, r.length = n := fun r hr => by
   obtain ⟨i, h1, rfl⟩ := hmem r hr
   exact (World.cells?_some (hrow i h1).1).2.1
  refine ⟨some a, cap, f, (List.range len).map row, by simp, by simpa using hl, hm, ?_, hlen, (fun e => by cases e), fun _ => by omega, fun r hr => ?_, fun _ => ⟨(elems.length + rest.length) * Tryz.prog.bytesOf e, ?_, ?_⟩⟩
  ·
   have hcell : ∀ j u, ((List.range len).map row).flatten[j]? = some u → w.cell? (a.add j) = some u := fun j u hu => by
    obtain ⟨i, r, row', rfl, h2, h3, h4⟩ := flat_get _ j hlen hu
    have hil : i < len := by
     have := (List.getElem?_eq_some_iff.1 h3).1
     simpa using this
    have h5 : row' = row i := by
     rw [List.getElem?_map, List.getElem?_range hil] at h3
     exact (Option.some.inj h3).symm
    subst h5
    have h6 := (World.cells?_some (hrow i hil).1).2.2 r h2
    rw [h4, Go.Deep.add_add] at h6
    exact h6
   intro hne
   obtain ⟨u0, rest, he⟩ := List.exists_cons_of_ne_nil hne
   have h0 := hcell 0 u0 (by rw [he]; rfl)
   rw [show a.add 0 = a from if_pos rfl] at h0
   obtain ⟨h1, b, o, rfl⟩ := cell_spot h0
   refine ⟨b, o, rfl, h1, fun j u hu => ?_⟩
   have := hcell j u hu
   rw [eF] at this
   exact this
  ·
   obtain ⟨i, h1, rfl⟩ := hmem r hr
   exact (hrow i h1).2
  ·
   rw [hx, DataW.weights, ht]
   simp
  ·
   rw [List.length_map, List.length_range]
   exact Nat.mul_le_mul_right _ (by omega)
end
end Go.Proofs.YtiledgojbpmoiaaGreat
namespace Go.Proofs.YtiledgojbpmoiaaGreat
set_option linter.unusedVariables false
set_option maxRecDepth 100000
open Go.RowKit Mono Go.ChangeShapes Go.WideShapes Go.Deep
namespace E
inductive Sh where
 | bool
 | int (k : IntKind)
 | arr (n : Nat)
 | bytes
 | slice (b : Nat) (s : Sh)
 | struct (ss : List Sh)
mutual
def Sh.size : Sh → Nat
 | .arr n => n
 | .struct ss => Sh.sizes ss
 | _ => 1
def Sh.sizes : List Sh → Nat
 | [] => 0
 | s :: ss => s.size + Sh.sizes ss
end
def Sh.agg : Sh → Bool
 | .arr _ => true
 | .struct _ => true
 | _ => false
mutual
def Sh.Is : Sh → TypeId → Prop
 | .bool, t => Tryz.prog.underlying t = some .bool ∧ Tryz.prog.cellsOf t = 1
 | .int k, t => Tryz.prog.underlying t = some (.int k) ∧ Tryz.prog.cellsOf t = 1
 | .arr n, t => Tryz.prog.underlying t = some (.array n 5) ∧ Tryz.prog.cellsOf t = n
 | .bytes, t => Tryz.prog.underlying t = some (.slice 5) ∧ Tryz.prog.cellsOf t = 1
 | .slice b s, t => Tryz.prog.cellsOf t = 1 ∧ ∃ e, Tryz.prog.underlying t = some (.slice e) ∧ Tryz.prog.bytesOf e = b ∧ s.Is e
 | .struct ss, t => ∃ fs : Array Field, Tryz.prog.underlying t = some (.struct fs) ∧ Tryz.prog.cellsOf t = Sh.sizes ss ∧ Sh.IsF ss 0 fs.toList
def Sh.IsF : List Sh → Nat → List Field → Prop
 | [], _, fs => fs = []
 | s :: ss, o, fs => ∃ f rest, fs = f :: rest ∧ f.offset = o ∧ s.Is f.type ∧ Sh.IsF ss (o + s.size) rest
end
mutual
def Sh.Of (N : Nat) : Sh → D → Prop
 | .bool, d => ∃ b, d = .v (.bool b)
 | .int k, d => ∃ n, d = .v (.int k n) ∧ (Lit.int k n).wf = true
 | .arr n, d => ∃ l : List UInt8, l.length = n ∧ d = .arr n l
 | .bytes, d => ∃ l : List UInt8, l.length ≤ N ∧ d = .bs l
 | .slice b s, d => ∃ ds : List D, ds.length * b ≤ N ∧ d = .sl s.size ds ∧ ∀ x ∈ ds, s.Of N x
 | .struct ss, d => ∃ ds, d = .tup ds ∧ Sh.OfL N ss ds
def Sh.OfL (N : Nat) : List Sh → List D → Prop
 | [], ds => ds = []
 | s :: ss, ds => ∃ d rest, ds = d :: rest ∧ s.Of N d ∧ Sh.OfL N ss rest
end
theorem Sh.Is.cells : ∀ {s : Sh} {t : TypeId}, s.Is t → Tryz.prog.cellsOf t = s.size
 | .bool, t, h => by rw [Sh.Is] at h; exact h.2
 | .int k, t, h => by rw [Sh.Is] at h; exact h.2
 | .arr n, t, h => by rw [Sh.Is] at h; exact h.2
 | .bytes, t, h => by rw [Sh.Is] at h; exact h.2
 | .slice b s, t, h => by rw [Sh.Is] at h; exact h.1
 | .struct ss, t, h => by
  rw [Sh.Is] at h
  obtain ⟨fs, _, h2, _⟩ := h
  exact h2
theorem JC {ok : Nat → Prop} {w : World} {z : Nat} {Q : D → Prop} : ∀ {rows : List (List Value)}, (∀ r ∈ rows, r.length = z ∧ ∃ d, Q d ∧ Reads ok w d r) → ∃ ds, ds.length = rows.length ∧ (∀ x ∈ ds, Q x) ∧ ay ok w z ds rows
 | [], _ => ⟨[], rfl, by simp, by rw [ay]⟩
 | r :: rows, h => by
  obtain ⟨ds, h1, h2, h3⟩ := JC (rows := rows) fun r hr => h r (by simp [hr])
  obtain ⟨hz, d, hd, hr⟩ := h r (by simp)
  refine ⟨d :: ds, by simp [h1], fun x hx => ?_, by rw [ay]; exact ⟨r, rows, rfl, hz, hr, h3⟩⟩
  rcases List.mem_cons.1 hx with rfl | hx
  · exact hd
  · exact h2 x hx
section
variable {H : Type} {enc : TypeId × Value → H} {w : World} {spare : Nat → Bool} {held : Bool} {N : Nat}
mutual
theorem CP : ∀ (s : Sh) (t : TypeId) (fuel : Nat) (cs : List Value) (x : DataW H × List MemPlace), s.Is t → DataW.trod enc Tryz.prog w 0 spare held fuel t cs = some x → (∀ k ∈ x.1.weights Tryz.prog t, k ≤ N) → ∃ d, s.Of N d ∧ Reads (fun b => b < w.heap.size) w d cs
 | .bool, t, fuel, cs, x, hs, h, hN => by
  rw [Sh.Is] at hs
  obtain ⟨b, rfl, _⟩ := DataW.trod_bool hs.1 h
  exact ⟨.v (.bool b), by rw [Sh.Of]; exact ⟨b, rfl⟩, by rw [Reads]; exact ⟨rfl, rfl⟩⟩
 | .int k, t, fuel, cs, x, hs, h, hN => by
  rw [Sh.Is] at hs
  obtain ⟨n, rfl, _, hw⟩ := DataW.trod_int hs.1 h
  exact ⟨.v (.int k n), by rw [Sh.Of]; exact ⟨n, rfl, hw⟩, by rw [Reads]; exact ⟨rfl, rfl⟩⟩
 | .arr n, t, fuel, cs, x, hs, h, hN => by
  rw [Sh.Is] at hs
  obtain ⟨l, hl, rfl⟩ := GV hs.1 hs.2 h
  exact ⟨.arr n l, by rw [Sh.Of]; exact ⟨l, hl, rfl⟩, by rw [Reads]; exact ⟨hl, rfl⟩⟩
 | .bytes, t, fuel, cs, x, hs, h, hN => by
  rw [Sh.Is] at hs
  have hl : ∃ v, cs = [v] := by
   rcases DataW.trod_slice hs.1 h with ⟨hcs, _⟩ | ⟨a, len, cap, elems, rest, f, hfu, hcs, _⟩
   · exact ⟨_, hcs⟩
   · exact ⟨_, hcs⟩
  obtain ⟨v, rfl⟩ := hl
  obtain ⟨A, c, f, rows, rfl, h1, h2, h3, _, _, _, h5, h8⟩ := wB hs.1 (by kernel_rfl : Tryz.prog.cellsOf 5 = 1) h
  obtain ⟨l, h6, h7⟩ := rW fun r hr => by
   obtain ⟨y, hy, _⟩ := h5 r hr
   exact rY hy
  rw [h7] at h3
  have hl : l.length ≤ N := by
   rw [h6]
   by_cases hr : rows = []
   · rw [hr]; simp
   ·
    obtain ⟨k, hk, hk2⟩ := h8 hr
    rw [(by kernel_rfl : Tryz.prog.bytesOf 5 = 1), Nat.mul_one] at hk2
    exact Nat.le_trans hk2 (hN k hk)
  exact ⟨.bs l, by rw [Sh.Of]; exact ⟨l, hl, rfl⟩, by rw [Reads]; exact ⟨_, rfl, A, c, by rw [h6], by rw [h6]; exact h1, h2, h3⟩⟩
 | .slice b s, t, fuel, cs, x, hs, h, hN => by
  rw [Sh.Is] at hs
  obtain ⟨_, e, hu, hb, he⟩ := hs
  have hl : ∃ v, cs = [v] := by
   rcases DataW.trod_slice hu h with ⟨hcs, _⟩ | ⟨a, len, cap, elems, rest, f, hfu, hcs, _⟩
   · exact ⟨_, hcs⟩
   · exact ⟨_, hcs⟩
  obtain ⟨v, rfl⟩ := hl
  obtain ⟨A, c, f, rows, rfl, h1, h2, h3, h4, h5, _, h6, h8⟩ := wB hu he.cells h
  obtain ⟨ds, g1, g2, g3⟩ := JC (ok := fun b => b < w.heap.size) (w := w) (z := s.size) (Q := s.Of N) fun r hr => by
   obtain ⟨y, hy, hk⟩ := h6 r hr
   exact ⟨h4 r hr, CP s e f r y he hy fun k hk' => hN k (hk k hk')⟩
  have hl : ds.length * b ≤ N := by
   rw [g1, ← hb]
   by_cases hr : rows = []
   · rw [hr]; simp
   ·
    obtain ⟨k, hk, hk2⟩ := h8 hr
    exact Nat.le_trans hk2 (hN k hk)
  refine ⟨.sl s.size ds, by rw [Sh.Of]; exact ⟨ds, hl, rfl, g2⟩, ?_⟩
  rw [Reads]
  exact ⟨A, c, rows, by rw [g1], by rw [g1]; exact h1, h2, fun e => by rw [g1, (h5 e).1]; exact ⟨rfl, (h5 e).2⟩, h3, g3⟩
 | .struct ss, t, fuel, cs, x, hs, h, hN => by
  rw [Sh.Is] at hs
  obtain ⟨fs, hu, hc, hf⟩ := hs
  obtain ⟨xs, n, _, hx, hl, hxl, hg⟩ := DataW.trod_struct hu h
  obtain ⟨ds, h1, h2⟩ := Eh ss 0 n cs fs.toList hf (by rw [hl, hc, Nat.zero_add]) fun f hm => by
   obtain ⟨i, hi, rfl⟩ := List.getElem_of_mem hm
   have hi' : i < fs.size := by simpa using hi
   have := hg i fs[i] (by rw [Array.getElem?_eq_getElem hi'])
   rw [List.getElem?_eq_getElem (by omega)] at this
   refine ⟨_, this, fun k hk => hN k ?_⟩
   rw [hx]
   simp only [DataW.weights, hu]
   exact DataW.weights_mem_each (j := i) (t := fs[i].type) (d := xs[i].1) (by simp [Array.getElem?_eq_getElem hi']) (by rw [List.getElem?_map, List.getElem?_eq_getElem (by omega)]; rfl) k hk
  exact ⟨.tup ds, by rw [Sh.Of]; exact ⟨ds, rfl, h1⟩, by rw [Reads]; simpa using h2⟩
theorem Eh : ∀ (ss : List Sh) (o n : Nat) (cs : List Value) (fs : List Field), Sh.IsF ss o fs → cs.length = o + Sh.sizes ss → (∀ f ∈ fs, ∃ y, DataW.trod enc Tryz.prog w 0 spare held n f.type ((cs.drop f.offset).take (Tryz.prog.cellsOf f.type)) = some y ∧ ∀ k ∈ y.1.weights Tryz.prog f.type, k ≤ N) →
  ∃ ds, Sh.OfL N ss ds ∧ bK (fun b => b < w.heap.size) w ds (cs.drop o)
 | [], o, n, cs, fs, hf, hl, h => ⟨[], by rw [Sh.OfL], by
  rw [bK]
  rw [Sh.sizes] at hl
  exact List.drop_eq_nil_of_le (by omega)⟩
 | s :: ss, o, n, cs, fs, hf, hl, h => by
  rw [Sh.IsF] at hf
  obtain ⟨f, rest, rfl, rfl, hs, hf⟩ := hf
  rw [Sh.sizes] at hl
  obtain ⟨y, hy, hk⟩ := h f (by simp)
  rw [hs.cells] at hy
  obtain ⟨d, h1, h2⟩ := CP s f.type n _ y hs hy hk
  obtain ⟨ds, h3, h4⟩ := Eh ss (f.offset + s.size) n cs rest hf (by omega) fun g hg => h g (by simp [hg])
  refine ⟨d :: ds, by rw [Sh.OfL]; exact ⟨d, ds, rfl, h1, h3⟩, ?_⟩
  rw [bK]
  refine ⟨_, _, ?_, h2, h4⟩
  rw [← List.drop_drop, List.take_append_drop]
end
theorem Ur {s : Sh} {d : D} (h : s.Of N d) : d.agg = s.agg := by
 cases s <;> rw [Sh.Of] at h
 ·
  obtain ⟨_, rfl⟩ := h
  rfl
 ·
  obtain ⟨_, rfl, _⟩ := h
  rfl
 ·
  obtain ⟨_, _, rfl⟩ := h
  rfl
 ·
  obtain ⟨_, _, rfl⟩ := h
  rfl
 ·
  obtain ⟨_, _, rfl, _⟩ := h
  rfl
 ·
  obtain ⟨_, rfl, _⟩ := h
  rfl
variable {r : Reach} {b0 : Nat} {v : Value} {d : DataW H} {ps : List MemPlace}
theorem OC {s : Sh} {t : TypeId} (hs : s.Is t) (hv : Value.okWide Tryz.prog w r b0 t v) (h : DataW.Trod enc Tryz.prog w 0 spare held t v d ps) : v = if s.agg then .agg v.cells else v.cells.toList.headD undef := by
 cases s <;> rw [Sh.Is] at hs
 ·
  obtain ⟨b, rfl, _⟩ := open_bool hs.1 hv h
  rfl
 ·
  obtain ⟨n, rfl, _⟩ := open_int hs.1 hv h
  rfl
 ·
  simp only [Value.okWide, hs.1] at hv
  obtain ⟨cs, rfl, _⟩ := hv
  rfl
 ·
  obtain ⟨a, n, c, rfl⟩ := okWide_slice hs.1 hv
  rfl
 ·
  obtain ⟨_, e, hu, _, _⟩ := hs
  obtain ⟨a, n, c, rfl⟩ := okWide_slice hu hv
  rfl
 ·
  obtain ⟨fs, hu, _⟩ := hs
  simp only [Value.okWide, hu] at hv
  obtain ⟨cs, rfl, _⟩ := hv
  rfl
theorem WM {s : Sh} {t : TypeId} (hs : s.Is t) (hv : Value.okWide Tryz.prog w r b0 t v) (h : DataW.Trod enc Tryz.prog w 0 spare held t v d ps) (hN : ∀ k ∈ d.weights Tryz.prog t, k ≤ N) : ∃ D, s.Of N D ∧ bW (fun b => b < w.heap.size) w D v := by
 have h3 := OC hs hv h
 obtain ⟨fuel, hf⟩ := h
 obtain ⟨D, h1, h2⟩ := CP s t fuel _ _ hs hf hN
 refine ⟨D, h1, _, h2, ?_⟩
 unfold form
 rw [Ur h1]
 simpa using h3
end
end E
end Go.Proofs.YtiledgojbpmoiaaGreat
namespace Go.Proofs.YtiledgojbpmoiaaGreat
set_option linter.unusedVariables false
set_option maxRecDepth 100000
open Go.RowKit Mono Go.ChangeShapes Go.WideShapes Go.Deep
namespace E
def OD : Sh := .struct [.bytes, .bytes]
theorem PD : OD.Is 69 := by
 unfold OD
 rw [Sh.Is]
 refine ⟨_, Tryz.underlying69, by kernel_rfl, ?_⟩
 simp only [Sh.IsF, Sh.Is]
 exact ⟨_, _, rfl, rfl, ⟨Tryz.underlying30, by kernel_rfl⟩, _, _, rfl, rfl, ⟨Tryz.underlying30, by kernel_rfl⟩, rfl⟩
theorem MZ : (Sh.slice 48 OD).Is 46 := by
 rw [Sh.Is]
 exact ⟨by kernel_rfl, _, Tryz.underlying46, by kernel_rfl, PD⟩
theorem FH {α : Type} {Q : D → Prop} {f : α → D} (h : ∀ d, Q d → ∃ a, d = f a) : ∀ {ds : List D}, (∀ x ∈ ds, Q x) → ∃ rs : List α, ds = rs.map f
 | [], _ => ⟨[], rfl⟩
 | d :: ds, hd => by
  obtain ⟨a, rfl⟩ := h d (hd d (by simp))
  obtain ⟨rs, rfl⟩ := FH h fun x hx => hd x (List.mem_cons_of_mem _ hx)
  exact ⟨a :: rs, rfl⟩
variable {N : Nat}
theorem Pg {d : D} (h : OD.Of N d) : ∃ s : Pr, d = dPr s := by
 unfold OD at h
 simp only [Sh.Of, Sh.OfL] at h
 obtain ⟨_, rfl, _, _, rfl, ⟨k, h1, rfl⟩, _, _, rfl, ⟨v, h2, rfl⟩, rfl⟩ := h
 exact ⟨(k, v), rfl⟩
theorem RI (l : List Nat) : ∀ k ∈ l, k ≤ l.sum := by
 induction l with
 | nil => intro k hk; cases hk
 | cons a l ih =>
  intro k hk
  rw [List.sum_cons]
  rcases List.mem_cons.1 hk with rfl | hk
  · omega
  ·
   have := ih k hk
   omega
end E
def sQ (w : World) (v : Value) : Prop := ∃ l : List E.Pr, E.bW (fun b => b < w.heap.size) w (.sl 2 (l.map E.dPr)) v
section
variable {H : Type} {enc : TypeId × Value → H} {w : World} {spare : Nat → Bool} {held : Bool} {r : Reach} {b0 : Nat} {v : Value} {d : DataW H} {ps : List MemPlace}
theorem TL (hv : Value.okWide Tryz.prog w r b0 46 v) (h : DataW.Trod enc Tryz.prog w 0 spare held 46 v d ps) : sQ w v := by
 obtain ⟨D, h1, h2⟩ := E.WM E.MZ hv h (E.RI _)
 rw [E.Sh.Of] at h1
 obtain ⟨ds, _, rfl, h3⟩ := h1
 obtain ⟨l, rfl⟩ := E.FH (fun _ => E.Pg) h3
 exact ⟨l, h2⟩
end
end Go.Proofs.YtiledgojbpmoiaaGreat
namespace Go.Proofs.YtiledgojbpmoiaaGreat
set_option linter.unusedVariables false
open Go.RowKit Mono
namespace E
theorem MR {f : FuncId} {ds : List D} {xs : List Value} {w : World} (h : FnM f ds [] (fun r os' => r = .val (.v (.bool true)) ∧ os' = [])) (hr : fQ (fun b => b < w.heap.size) w ds xs) : Calls Tryz.prog f xs.toArray w fun e w' => e = .returned (.bool true) ∧ Below w.heap.size w w' :=
 (h.go _ w xs (fun b hb => hb) ⟨fun o ho => by simp at ho, .nil, fun b ⟨o, ho, _⟩ => by simp at ho⟩ hr).mono fun e w' ⟨v, r, os', he, ⟨h1, h2⟩, ht, hv⟩ => by
  subst he h1
  have hg := ht.gr.gr fun b ⟨o, ho, _⟩ => by simp at ho
  exact ⟨by rw [(bF.1 hv).2], hg⟩
end E
end Go.Proofs.YtiledgojbpmoiaaGreat
