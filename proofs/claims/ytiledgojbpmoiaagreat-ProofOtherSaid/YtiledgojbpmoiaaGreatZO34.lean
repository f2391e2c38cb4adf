/-
 Merged (wip/tools/merge.py): BR6, TA1, TA2, PG2, Open, OpenAll, OpenWord, OpenW, OpenSh, OpenPr, LawM.
 Conditions: none.
-/
import Derived.Test.YtiledgojbpmoiaaGreatZO29
import Derived.Test.YtiledgojbpmoiaaGreatZO25
import Derived.Test.YtiledgojbpmoiaaGreatZO17
import Derived.Test.YtiledgojbpmoiaaGreatZO33
import Derived.Test.YtiledgojbpmoiaaGreatZO2
import Derived.OpenShut
import Derived.Test.YtiledgojbpmoiaaGreatZO3
import Derived.Deep.Slices
import Derived.ChangeSame
import Derived.SizedLaws
import Derived.Test.YtiledgojbpmoiaaGreatZO19
import Derived.Test.YtiledgojbpmoiaaGreatZO11
import Derived.Below
namespace Go.Proofs.YtiledgojbpmoiaaGreat
set_option linter.unusedVariables false
set_option maxRecDepth 20000
set_option maxHeartbeats 16000000
open Go.RowKit Mono Rlp
namespace E
theorem EK.Dh {N : Nat} {X : Cx N} {S : St} {fn : Func} {Φ : R → List Obj → Prop} {p u q : Tmp} {g ty : Nat} {t : TypeId} {d d' e e' k k' : D} (i : Nat) (os' : List Obj) (hres : fn.results = #[.cell p ty, .tmp u, .tmp q]) (hl : look S.regs p = some (.val (.v (.pointer (some ⟨g, 0, none⟩))))) (hi : S.objs[i]? = some (.var g t d)) (hT : assoc tyL ty = some (d.size, d.agg)) (hu : look S.regs u = some (.val e)) (hq : look S.regs q = some (.val k)) (hR : ak S.facts [d] [d']) (hR2 : ak S.facts [e] [e']) (hR3 : ak S.facts [k] [k']) (ho : os'.Sublist S.objs) (hΦ : Φ (.tpl [d', e', k']) os') : EK X (bodyPost Tryz.prog fn (Az X Φ) .ret) S := by
 constructor
 intro a w ha
 obtain ⟨x, h1, h2⟩ := tN ha.mem hi (tyI hT)
 have hp := (bF.1 (ha.regs p _ hl)).2
 have hp' : a.tmps[p]?.getD undef = .pointer (some ⟨g, 0, none⟩) := by simpa using hp
 have h3 : bY (X.ok S.objs w) w (.tpl [d', e', k']) (.tuple #[x, a.tmps.getD u undef, a.tmps.getD q undef]) := ⟨[x, a.tmps.getD u undef, a.tmps.getD q undef], rfl, _, _, rfl, Refine1.kH ha.mem.fact hR h2, _, _, rfl, Refine1.kH ha.mem.fact hR2 (ha.regs u _ hu), _, _, rfl, Refine1.kH ha.mem.fact hR3 (ha.regs q _ hq), rfl⟩
 refine bodyPost_ret (v := .tuple #[x, a.tmps.getD u undef, a.tmps.getD q undef]) ?_ ha.defers ⟨_, _, os', rfl, hΦ, ha.mem.less ho (fun f hf => by cases hf), h3.mono (fun b hb => ru ho hb) fun _ _ => rfl⟩
 simp [results, hres, hp', asAddr, h1]
theorem SQ (l : List Pr) : Fn 37 [.sl 2 (l.map dPr)] (fun r => ∃ ns : List Pr, r = .tpl [.arr 32 (JI l), .sl 33 (ns.map dNd), .v (.int .i64 (fQ l : Int))]) := by
 have hml : (l.map dPr).length = l.length := List.length_map _
 have hM := sV l
 have hE := Qk
 unfold JI
 refine FnM.toFn ?_
 refine FnM.walk 60 Tryz.func37 rfl Tryz.ntmps37 (by simp) fun X => ?_
 by_cases he : fQ l = 0
 ·
  rw [he] at hM ⊢
  rw [if_neg (by decide)]
  have hlen := (show l.length ≤ 100000 from by
   unfold fQ at he
   split at he
   · cases he
   ·
    rename_i h1
    have : ¬ 100000 < l.length := fun e => h1 (.inl e)
    omega)
  have hlg : l.any lg = false := (lN he).2.1
  by_cases hnil : l = []
  ·
   subst hnil
   rw [if_pos (show ([] : List Pr).isEmpty = true from rfl)]
   repeat
    (first
     | (apply aB (hM); rfl; exact ak.refl _ _; exact enA; iterate 2 rfl) | (apply aB (hE); rfl; exact ak.refl _ _; exact enA; iterate 2 rfl)
     | (apply au; iterate 3 rfl) | (apply aj; iterate 3 rfl) | (apply aC (b := true); (iterate 2 rfl); exact aO; iterate 2 rfl)
     | (apply aC (b := false); (iterate 2 rfl); exact aO; iterate 2 rfl) | (apply aK; iterate 4 rfl) | (apply bf; rfl; rfl; rfl; intro _)
     | (apply aN; rfl; (focus (repeat first | exact .z | apply bC.s | apply aP.s)); iterate 4 rfl) | apply EL.nil | ((with_reducible apply EK.ah); apply EK.code)
     | (apply EC.cond_true; rfl) | (apply EC.cond_false; rfl) | (with_reducible first | apply EC.seq | apply EC.region | apply EC.skip | apply EC.ret | apply EK.aH))
   refine EK.Dh 0 [] rfl rfl rfl rfl rfl rfl ?_ ?_ ?_ (List.nil_sublist _) ⟨⟨[], rfl⟩, rfl⟩
   · (exact RL.a)
   · exact RL.cons Rf.sl0 RL.nil
   · (exact RL.a)
  ·
   obtain ⟨y, l', rfl⟩ : ∃ y l', l = y :: l' := by
    cases l with
    | nil => exact absurd rfl hnil
    | cons y l' => exact ⟨y, l', rfl⟩
   rw [if_neg (show ¬ ((y :: l').isEmpty = true) from Bool.false_ne_true)]
   have hne : ((y :: l').map sp).isEmpty = false := rfl
   have hlen2 : ((y :: l').map dPr).length = l'.length + 1 := by simp
   have hL2 : (y :: l').length = l'.length + 1 := rfl
   repeat
    (first
     | (apply aB (hM); rfl; exact ak.refl _ _; exact enA; iterate 2 rfl) | (apply au; iterate 3 rfl) | (apply aj; iterate 3 rfl)
     | (apply aC (b := false); (iterate 2 rfl); exact aO; iterate 2 rfl) | (apply aK; iterate 4 rfl) | (apply bf; rfl; rfl; rfl; intro _) | apply EL.nil
     | ((with_reducible apply EK.ah); apply EK.code) | (apply EC.cond_false; rfl) | (with_reducible first | apply EC.seq | apply EC.region | apply EC.skip | apply EC.block))
   rename_i g2
   generalize hL : y :: l' = l at *
   clear hnil
   refine EC.le (Le.row 149 2) ?_
   refine EC.loop (ι := {x : Nat × Value // x.1 ≤ l.length})
    (fun x => ⟨[(7, .val (.v (.int .i64 (x.1.1 : Int)))), (6, .val (.v x.1.2)), (0, .val (.sl 2 (l.map dPr))), (2, .val (.v (.pointer (some ⟨g2, 0, none⟩))))], [.row x.1.2 149 2 (((l.take x.1.1).map sp).map dPr), .var g2 29 (.arr 32 zero32)], []⟩)
    (fun x => l.length - x.1.1) ⟨(0, .slice none 0 0), Nat.zero_le _⟩ ?_ ?_
   · exact Le.kp
   rintro ⟨⟨i, v⟩, hi⟩
   dsimp only at hi ⊢
   by_cases hlt : i < l.length
   ·
    have hd : (l.map dPr)[i]? = some (.tup [.bs l[i].1, .bs l[i].2]) := by rw [List.getElem?_map, List.getElem?_eq_getElem hlt]; rfl
    have hsz := iL hlg (List.getElem_mem hlt)
    have hS := Gp l[i].1 (by omega)
    have hl3 : (((l.take i).map sp).map dPr).length = i := by rw [List.length_map, List.length_map, List.length_take]; omega
    have htk : ((l.take (i + 1)).map sp).map dPr = ((l.take i).map sp).map dPr ++ [.tup [.bs (split l[i].1), .bs l[i].2]] := by
     rw [List.take_succ_eq_append_getElem hlt, List.map_append, List.map_append]
     rfl
    repeat
     (first
      | (apply au; iterate 3 rfl) | (apply aC (b := true); (iterate 2 rfl); exact aO; iterate 2 rfl) | (apply aK; iterate 4 rfl) | apply EL.nil
      | ((with_reducible apply EK.ah); apply EK.code) | (apply EC.cond_true; rfl) | (with_reducible first | apply EC.seq | apply EC.region | apply EC.skip | apply EC.block))
    refine EC.jQ 15 [0, 1, 2, 3, 4, 5, 6, 7, 8, 9, 10, 11, 12, 13] [14] [_] _ (by kernel_rfl) (by kernel_rfl) rfl ?_
    simp only [bQ, List.filterMap_cons, List.filterMap_nil, List.getElem?_cons_zero, List.getElem?_cons_succ]
    repeat
     (first
      | (apply eF (hS); rfl; exact ak.refl _ _; exact enA; iterate 2 rfl) | (apply aY; iterate 3 rfl) | (apply bZ; iterate 7 rfl)
      | (apply bH; iterate 5 rfl)
      | (apply dw; (iterate 4 rfl); (focus (first | exact ⟨by decide, rfl⟩ | (refine ⟨by omega, ?_⟩; rw [Int.toNat_natCast]; assumption))); iterate 2 rfl)
      | (apply jc; iterate 7 rfl) | (apply kZ; iterate 9 rfl))
    refine EM.nil ?_
    repeat (first | rw [List.cons_append] | rw [List.nil_append])
    refine CH.mut (os := [_]) (rest := []) rfl rfl (iM rfl rfl rfl rfl rfl ?_) ?_
    ·
     rw [hl3]
     constructor <;> (simp; omega)
    rintro _ _ ⟨v', rfl, rfl⟩
    try simp only [St.put]
    repeat (first | rw [List.cons_append] | rw [List.nil_append])
    refine CH.nil ?_
    try simp only [List.drop_succ_cons, List.drop_zero]
    repeat
     (first
      | (apply au; iterate 3 rfl) | (apply aj; iterate 3 rfl) | (apply iZ; (iterate 3 rfl); (focus omega); (focus omega); iterate 2 rfl) | apply EL.nil
      | ((with_reducible apply EK.ah); apply EK.code) | (with_reducible first | apply EC.region | apply EK.aI))
    refine EK.again ⟨(i + 1, v'), hlt⟩ (by dsimp only; omega) ?_
    dsimp only
    rw [htk]
    simp only [Int.natCast_add]
    exact Le.kp
   ·
    have hie : i = l.length := by omega
    rw [show l.take i = l by rw [hie, List.take_length]]
    refine EC.le (Le.freeze (pre := []) rfl) ?_
    refine EC.le (Le.refine (t := 6) (d' := .sl 2 ((l.map sp).map dPr)) rfl (Rf.fact List.mem_cons_self rfl)) ?_
    simp only [List.nil_append]
    have hNd : ∀ gb, FnM 78 [.v (ptr gb), .sl 2 ((l.map sp).map dPr)] [bO gb []] (fun r os' => ∃ t : List Pr, t.length ≤ 0 + 200 * (l.map sp).length ∧ r = .val (aW (aF 200 (l.map sp))) ∧ os' = [bO gb t]) := fun gb => Jr (Xc gb) 200 (l.map sp) ([] : List Pr) hne (fun z hz => by
     obtain ⟨w, hw, rfl⟩ := List.mem_map.1 hz
     have := iL hlg hw
     show (split w.1).length < 200
     rw [dH]
     omega) (fun z hz => by
     obtain ⟨w, hw, rfl⟩ := List.mem_map.1 hz
     have := iL hlg hw
     show (split w.1).length ≤ _
     rw [dH]
     omega) (by rw [List.length_map]; omega) (by rw [List.length_map]; show 0 + _ ≤ _; omega)
    have h2 := DN (aF 200 (l.map sp))
    repeat
     (first
      | (apply gU; rfl; rfl; rfl; intro gb; refine EL.le (Le.Q9 (d' := .tup [.sl 33 (([] : List Pr).map dNd), .v (.pointer none), .v (.bool false)]) (by apply Rf.tup; exact RL.cons Rf.sl0 (RL.cons Rf.same (RL.cons Rf.same RL.nil)))) ?_)
      | (apply au; iterate 3 rfl) | (apply aj; iterate 3 rfl) | (apply aC (b := false); (iterate 2 rfl); exact aO; iterate 2 rfl)
      | (apply aK; iterate 4 rfl) | (apply eU; iterate 7 rfl) | apply EL.nil | ((with_reducible apply EK.ah); apply EK.code) | (apply EC.cond_false; rfl)
      | (with_reducible first | apply EC.seq | apply EC.region | apply EC.exit | apply EK.bG | apply EK.aQ))
    refine jD (hNd gb) [] [_] rfl rfl (ak.refl _ _) (by intro _ _; simp [go_sem]) rfl rfl ?_
    rintro _ _ ⟨ns1, hn1, rfl, rfl⟩
    simp only [List.cons_append, List.nil_append]
    rw [List.length_map] at hn1
    have hpb : packed (aF 200 (l.map sp)) = none ∨ packed (aF 200 (l.map sp)) = some (pkB (aF 200 (l.map sp))) := by
     unfold pkB
     cases h : packed (aF 200 (l.map sp)) with
     | none => exact .inl rfl
     | some b => exact .inr rfl
    rcases hpb with hp | hp
    ·
     have h0 : pkB (aF 200 (l.map sp)) = [] := by unfold pkB; rw [hp]; rfl
     rw [hp] at h2
     rw [h0]
     unfold nM at h2
     dsimp only at h2
     repeat
      (first
       | (apply aB (h2); rfl; exact ak.refl _ _; exact enA; iterate 2 rfl) | (apply au; iterate 3 rfl) | (apply aj; iterate 3 rfl)
       | (apply aG; iterate 4 rfl) | apply EL.nil | ((with_reducible apply EK.ah); apply EK.code) | (with_reducible first | apply EC.seq | apply EC.region))
     have hle := xG (aF 200 (l.map sp))
     refine jD (QL gb ns1 [] (by omega) (by simp)) [] [_] rfl rfl RL.a (by intro _ _; simp [go_sem]) rfl rfl ?_
     rintro _ _ ⟨rfl, rfl⟩
     simp only [List.cons_append, List.nil_append]
     repeat
      (first
       | (apply bf; rfl; rfl; rfl; intro _) | (apply aN; rfl; (focus (repeat first | exact .z | apply bC.s | apply aP.s)); iterate 4 rfl) | apply EL.nil
       | ((with_reducible apply EK.ah); apply EK.code) | (with_reducible apply EC.seq))
     refine EC.le (Le.pick [2, 0, 1] [_, _, _] rfl (by decide) rfl) ?_
     refine EC.jQ 8 [0, 1, 2, 3, 4, 6, 7] [5] [_] _ (by kernel_rfl) (by kernel_rfl) rfl ?_
     simp only [bQ, List.filterMap_cons, List.filterMap_nil, List.getElem?_cons_zero, List.getElem?_cons_succ]
     repeat
      (first
       | (apply aY; iterate 3 rfl) | (apply gy; iterate 3 rfl) | (apply dF; iterate 6 rfl) | (apply dJ; rfl; exact I.a; iterate 4 rfl)
       | (apply fF; iterate 3 rfl))
     refine EM.nil ?_
     repeat (first | rw [List.cons_append] | rw [List.nil_append])
     refine CH.mut (os := [_]) (rest := []) rfl rfl (rO (lM rfl rfl rfl rfl rfl)) ?_
     rintro _ _ ⟨rfl, rfl⟩
     try simp only [St.put]
     repeat (first | rw [List.cons_append] | rw [List.nil_append])
     refine CH.nil ?_
     try simp only [List.drop_succ_cons, List.drop_zero]
     repeat
      (first
       | apply EL.nil | ((with_reducible apply EK.ah); apply EK.code) | (with_reducible apply EC.ret))
     refine EK.Dh 0 [] rfl rfl rfl rfl rfl rfl (ak.refl _ _) (ak.refl _ _) (ak.refl _ _) (List.nil_sublist _) ⟨⟨_, rfl⟩, rfl⟩
    ·
     rw [hp] at h2
     unfold nM at h2
     dsimp only at h2
     repeat
      (first
       | (apply aB (h2); rfl; exact ak.refl _ _; exact enA; iterate 2 rfl) | (apply au; iterate 3 rfl) | (apply aj; iterate 3 rfl)
       | (apply aG; iterate 4 rfl) | apply EL.nil | ((with_reducible apply EK.ah); apply EK.code) | (with_reducible first | apply EC.seq | apply EC.region))
     have hle := xG (aF 200 (l.map sp))
     refine jD (QL gb ns1 (pkB (aF 200 (l.map sp))) (by omega) (by exact hle)) [] [_] rfl rfl RL.a (by intro _ _; simp [go_sem]) rfl rfl ?_
     rintro _ _ ⟨rfl, rfl⟩
     simp only [List.cons_append, List.nil_append]
     repeat
      (first
       | (apply bf; rfl; rfl; rfl; intro _) | (apply aN; rfl; (focus (repeat first | exact .z | apply bC.s | apply aP.s)); iterate 4 rfl) | apply EL.nil
       | ((with_reducible apply EK.ah); apply EK.code) | (with_reducible apply EC.seq))
     refine EC.le (Le.pick [2, 0, 1] [_, _, _] rfl (by decide) rfl) ?_
     refine EC.jQ 8 [0, 1, 2, 3, 4, 6, 7] [5] [_] _ (by kernel_rfl) (by kernel_rfl) rfl ?_
     simp only [bQ, List.filterMap_cons, List.filterMap_nil, List.getElem?_cons_zero, List.getElem?_cons_succ]
     repeat
      (first
       | (apply aY; iterate 3 rfl) | (apply gy; iterate 3 rfl) | (apply dF; iterate 6 rfl) | (apply dJ; rfl; exact I.a; iterate 4 rfl)
       | (apply fF; iterate 3 rfl))
     refine EM.nil ?_
     repeat (first | rw [List.cons_append] | rw [List.nil_append])
     refine CH.mut (os := [_]) (rest := []) rfl rfl (rO (lM rfl rfl rfl rfl rfl)) ?_
     rintro _ _ ⟨rfl, rfl⟩
     try simp only [St.put]
     repeat (first | rw [List.cons_append] | rw [List.nil_append])
     refine CH.nil ?_
     try simp only [List.drop_succ_cons, List.drop_zero]
     repeat
      (first
       | apply EL.nil | ((with_reducible apply EK.ah); apply EK.code) | (with_reducible apply EC.ret))
     refine EK.Dh 0 [] rfl rfl rfl rfl rfl rfl (ak.refl _ _) (ak.refl _ _) (ak.refl _ _) (List.nil_sublist _) ⟨⟨_, rfl⟩, rfl⟩
 ·
  rw [if_pos he]
  have hne : (fQ l : Int) ≠ 0 := by omega
  repeat
   (first
    | (apply aB (hM); rfl; exact ak.refl _ _; exact enA; iterate 2 rfl) | (apply au; iterate 3 rfl) | (apply aj; iterate 3 rfl)
    | (apply aC (b := true); (iterate 2 rfl); exact aO; iterate 2 rfl) | (apply G8; iterate 5 rfl) | (apply bf; rfl; rfl; rfl; intro _)
    | (apply aN; rfl; (focus (repeat first | exact .z | apply bC.s | apply aP.s)); iterate 4 rfl) | apply EL.nil | ((with_reducible apply EK.ah); apply EK.code)
    | (apply EC.cond_true; rfl) | (with_reducible first | apply EC.seq | apply EC.region | apply EC.ret | apply EK.aH))
  refine EK.Dh 0 [] rfl rfl rfl rfl rfl rfl ?_ ?_ ?_ (List.nil_sublist _) ⟨⟨[], rfl⟩, rfl⟩
  · (exact RL.a)
  · exact RL.cons Rf.sl0 RL.nil
  · (exact RL.a)

theorem Hr (t : Tn) : (sumT t).length = 32 := by
 unfold sumT
 split
 · exact gq _
 · exact gq _
theorem CZ (l : List Pr) : (iJ l).length = 32 := by
 unfold iJ
 split
 · exact Hr _
 · exact Aj
structure Acc where
 a : List UInt8
 n : Int
 w : List UInt8
 cd : List UInt8
 sl : List Pr
structure Acc.ok (x : Acc) : Prop where
 a : x.a.length = 20
 n0 : -9223372036854775808 ≤ x.n
 n1 : x.n ≤ 9223372036854775807
 w : x.w.length = 32
 sl : ∀ s ∈ x.sl, s.1.length = 32 ∧ s.2.length = 32
 len : x.sl.length ≤ 1000000
theorem MZ (l : List Pr) (a b : List UInt8) : FnM 6 [.sl 2 (l.map dPr), .bs a, .bs b] [] (fun r os' => r = .val (.v (.bool true)) ∧ os' = []) := by
 have hL := Qo
 have hB := Vb l
 have hM := sV l
 refine FnM.walk 105 Tryz.func6 rfl Tryz.ntmps6 (by simp) fun X => ?_
 cases hbg : Vw l with
 | true =>
  rw [hbg] at hB
  repeat
   (first
    | (apply fG; iterate 2 rfl) | (apply aB (hL); rfl; exact ak.refl _ _; exact enA; iterate 2 rfl)
    | (apply aB (hB); rfl; exact ak.refl _ _; exact enA; iterate 2 rfl) | (apply au; iterate 3 rfl) | (apply aj; iterate 3 rfl)
    | (apply aU; iterate 4 rfl) | (apply dS; iterate 3 rfl) | apply EL.nil | ((with_reducible apply EK.ah); apply EK.code) | (apply EC.cond_true; rfl)
    | (with_reducible first | apply EC.seq | apply EC.region | apply EC.ret | apply EK.aH))
  exact EK.iG [] rfl rfl (List.nil_sublist _) ⟨rfl, rfl⟩
 | false =>
 rw [hbg] at hB
 by_cases ha : 64 < a.length
 ·
  skip
  repeat
   (first
    | (apply fG; iterate 2 rfl) | (apply aB (hL); rfl; exact ak.refl _ _; exact enA; iterate 2 rfl)
    | (apply aB (hB); rfl; exact ak.refl _ _; exact enA; iterate 2 rfl) | (apply au; iterate 3 rfl) | (apply aj; iterate 3 rfl)
    | (apply aU; iterate 4 rfl) | (apply dS; iterate 3 rfl) | (apply aC (b := true); (iterate 2 rfl); exact aO; iterate 2 rfl)
    | (apply aS; iterate 4 rfl) | apply EL.nil | ((with_reducible apply EK.ah); apply EK.code) | (apply EC.cond_true; rfl)
    | (with_reducible first | apply EC.seq | apply EC.region | apply EC.ret | apply EK.aH))
  exact EK.iG [] rfl rfl (List.nil_sublist _) ⟨rfl, rfl⟩
 by_cases hb : 64 < b.length
 ·
  skip
  repeat
   (first
    | (apply fG; iterate 2 rfl) | (apply aB (hL); rfl; exact ak.refl _ _; exact enA; iterate 2 rfl)
    | (apply aB (hB); rfl; exact ak.refl _ _; exact enA; iterate 2 rfl) | (apply au; iterate 3 rfl) | (apply aj; iterate 3 rfl)
    | (apply aU; iterate 4 rfl) | (apply dS; iterate 3 rfl) | (apply aC (b := true); (iterate 2 rfl); exact aO; iterate 2 rfl)
    | (apply aC (b := false); (iterate 2 rfl); exact aO; iterate 2 rfl) | (apply aS; iterate 4 rfl) | apply EL.nil | ((with_reducible apply EK.ah); apply EK.code)
    | (apply EC.cond_true; rfl) | (with_reducible first | apply EC.seq | apply EC.region | apply EC.ret | apply EK.aH))
  exact EK.iG [] rfl rfl (List.nil_sublist _) ⟨rfl, rfl⟩
 by_cases he : fQ l = 0
 ·
  have hC := clear_ [l] (by simp)
  have hlaw := fun h => MR he h (a := a) (b := b) (by omega) (by omega)
  have hT := SQ l
  rw [OQ] at hT
  have hP := Tc l a (by omega)
  have hK := Gt (iJ l) b (yO l a) (CZ l) (by omega)
  have hG := Je l b
  rw [he] at hM hT hP
  unfold RH at hK
  generalize vP (iJ l) b (yO l a) = r at *
  generalize yO l a = q at *
  generalize iJ l = rt at *
  generalize zx l b = w at *
  have n0 := Jf 0
  simp only [List.map_cons, List.map_nil, Qz] at hC
  clear hbg
  repeat
   (first
    | (apply aB (hL); rfl; exact ak.refl _ _; exact enA; iterate 2 rfl) | (apply aB (hB); rfl; exact ak.refl _ _; exact enA; iterate 2 rfl)
    | (apply aB (hM); rfl; exact ak.refl _ _; exact enA; iterate 2 rfl) | (apply jC; iterate 9 rfl) | (apply au; iterate 3 rfl)
    | (apply aj; iterate 3 rfl) | (apply aU; iterate 4 rfl) | (apply dS; iterate 3 rfl)
    | (apply aC (b := false); (iterate 2 rfl); exact aO; iterate 2 rfl) | (apply aS; iterate 4 rfl) | (apply jC; iterate 9 rfl) | apply EL.nil
    | ((with_reducible apply EK.ah); apply EK.code) | (apply EC.cond_false; rfl) | (with_reducible first | apply EC.seq | apply EC.region | apply EC.skip))
  refine D8 (os := []) hC rfl rfl (ak.refl _ _) (by intro _ _; simp [go_sem]) rfl rfl ?_
  rintro _ _ ⟨cb, hcb, rfl, rfl⟩
  simp only [List.nil_append]
  cases cb with
  | false =>
   repeat
    (first
     | (apply au; iterate 3 rfl) | (apply aj; iterate 3 rfl) | (apply dS; iterate 3 rfl) | apply EL.nil | ((with_reducible apply EK.ah); apply EK.code)
     | (apply EC.cond_true; rfl) | (with_reducible first | apply EC.seq | apply EC.region | apply EC.ret | apply EK.aH))
   exact EK.iG [] rfl rfl (List.nil_sublist _) ⟨rfl, rfl⟩
  | true =>
   have hl2 := hlaw (hcb rfl)
   clear hlaw hcb
   repeat
    (first
     | (apply au; iterate 3 rfl) | (apply aj; iterate 3 rfl) | (apply dS; iterate 3 rfl) | apply EL.nil | ((with_reducible apply EK.ah); apply EK.code)
     | (apply EC.cond_false; rfl) | (with_reducible first | apply EC.seq | apply EC.region | apply EC.skip))
   refine TJ hT rfl (ak.refl _ _) (by intro _ _; simp [go_sem]) rfl rfl ?_
   rintro _ ⟨ns, rfl⟩
   rcases hl2 with rfl | ⟨e, he0, rfl⟩
   ·
    dsimp only at hK
    have s1 := (jJ w w).1
    rw [beq_self_eq_true] at s1
    by_cases hv : 0 < w.length
    ·
     rw [show decide (0 < w.length) = true by simp [hv]] at hK
     have hc0 : dI .gtr (w.length : Int) 0 = some true := by
      simp only [dI, Option.some.injEq, decide_eq_true_eq]
      omega
     have b1 := (GY true true).1
     repeat
      (first
       | (apply fG; iterate 2 rfl) | (apply aB (hP); rfl; exact ak.refl _ _; exact enA; iterate 2 rfl)
       | (apply aB (hK); rfl; exact ak.refl _ _; exact enA; iterate 2 rfl) | (apply aB (hG); rfl; exact ak.refl _ _; exact enA; iterate 2 rfl)
       | (apply aB (n0); rfl; exact ak.refl _ _; exact enA; iterate 2 rfl) | (apply dP; (iterate 2 rfl); exact s1; iterate 2 rfl)
       | (apply dP; (iterate 2 rfl); exact b1; iterate 2 rfl) | (apply aC (b := true); (iterate 2 rfl); exact hc0; iterate 2 rfl) | (apply au; iterate 3 rfl)
       | (apply aj; iterate 3 rfl) | (apply aG; iterate 4 rfl) | (apply aU; iterate 4 rfl) | (apply dh; rfl; exact I.a; iterate 4 rfl)
       | (apply aC (b := true); (iterate 2 rfl); exact aO; iterate 2 rfl) | (apply aC (b := false); (iterate 2 rfl); exact aO; iterate 2 rfl)
       | (apply aS; iterate 4 rfl) | (apply KU; iterate 3 rfl) | (apply bf; rfl; rfl; rfl; intro _)
       | (apply aN; rfl; (focus (repeat first | exact .z | apply bC.s | apply aP.s)); iterate 4 rfl) | apply EL.nil | ((with_reducible apply EK.ah); apply EK.code)
       | (apply EC.cond_false; rfl) | (with_reducible first | apply EC.seq | apply EC.region | apply EC.skip | apply EC.ret))
     exact EK.iG [] rfl rfl (List.nil_sublist _) ⟨rfl, rfl⟩
    ·
     rw [show decide (0 < w.length) = false by simp [hv]] at hK
     have hc0 : dI .gtr (w.length : Int) 0 = some false := by
      simp only [dI, Option.some.injEq, decide_eq_false_iff_not]
      omega
     have b1 := (GY false false).1
     repeat
      (first
       | (apply fG; iterate 2 rfl) | (apply aB (hP); rfl; exact ak.refl _ _; exact enA; iterate 2 rfl)
       | (apply aB (hK); rfl; exact ak.refl _ _; exact enA; iterate 2 rfl) | (apply aB (hG); rfl; exact ak.refl _ _; exact enA; iterate 2 rfl)
       | (apply aB (n0); rfl; exact ak.refl _ _; exact enA; iterate 2 rfl) | (apply dP; (iterate 2 rfl); exact s1; iterate 2 rfl)
       | (apply dP; (iterate 2 rfl); exact b1; iterate 2 rfl) | (apply aC (b := false); (iterate 2 rfl); exact hc0; iterate 2 rfl) | (apply au; iterate 3 rfl)
       | (apply aj; iterate 3 rfl) | (apply aG; iterate 4 rfl) | (apply aU; iterate 4 rfl) | (apply dh; rfl; exact I.a; iterate 4 rfl)
       | (apply aC (b := true); (iterate 2 rfl); exact aO; iterate 2 rfl) | (apply aC (b := false); (iterate 2 rfl); exact aO; iterate 2 rfl)
       | (apply aS; iterate 4 rfl) | (apply KU; iterate 3 rfl) | (apply bf; rfl; rfl; rfl; intro _)
       | (apply aN; rfl; (focus (repeat first | exact .z | apply bC.s | apply aP.s)); iterate 4 rfl) | apply EL.nil | ((with_reducible apply EK.ah); apply EK.code)
       | (apply EC.cond_false; rfl) | (with_reducible first | apply EC.seq | apply EC.region | apply EC.skip | apply EC.ret))
     exact EK.iG [] rfl rfl (List.nil_sublist _) ⟨rfl, rfl⟩
   ·
    dsimp only at hK
    rw [show decide (0 < ([] : List UInt8).length) = false from rfl] at hK
    have n1 := Jf (e : Int)
    have hcn : dI .neq (e : Int) 0 = some true := by
     have : (e : Int) ≠ 0 := by omega
     simp only [dI, Option.some.injEq, bne_iff_ne]
     exact this
    repeat
     (first
      | (apply fG; iterate 2 rfl) | (apply aB (hP); rfl; exact ak.refl _ _; exact enA; iterate 2 rfl)
      | (apply aB (hK); rfl; exact ak.refl _ _; exact enA; iterate 2 rfl) | (apply aB (hG); rfl; exact ak.refl _ _; exact enA; iterate 2 rfl)
      | (apply aB (n0); rfl; exact ak.refl _ _; exact enA; iterate 2 rfl) | (apply aB (n1); rfl; exact ak.refl _ _; exact enA; iterate 2 rfl)
      | (apply aC (b := true); (iterate 2 rfl); exact hcn; iterate 2 rfl) | (apply au; iterate 3 rfl) | (apply aj; iterate 3 rfl)
      | (apply aG; iterate 4 rfl) | (apply aU; iterate 4 rfl) | (apply dS; iterate 3 rfl) | (apply dh; rfl; exact I.a; iterate 4 rfl)
      | (apply aC (b := true); (iterate 2 rfl); exact aO; iterate 2 rfl) | (apply aC (b := false); (iterate 2 rfl); exact aO; iterate 2 rfl)
      | (apply aS; iterate 4 rfl) | (apply bf; rfl; rfl; rfl; intro _)
      | (apply aN; rfl; (focus (repeat first | exact .z | apply bC.s | apply aP.s)); iterate 4 rfl) | apply EL.nil | ((with_reducible apply EK.ah); apply EK.code)
      | (apply EC.cond_false; rfl) | (with_reducible first | apply EC.seq | apply EC.region | apply EC.skip | apply EC.ret))
    exact EK.iG [] rfl rfl (List.nil_sublist _) ⟨rfl, rfl⟩
 ·
  have hne : (fQ l : Int) ≠ 0 := by omega
  repeat
   (first
    | (apply aB (hL); rfl; exact ak.refl _ _; exact enA; iterate 2 rfl) | (apply aB (hB); rfl; exact ak.refl _ _; exact enA; iterate 2 rfl)
    | (apply aB (hM); rfl; exact ak.refl _ _; exact enA; iterate 2 rfl) | (apply au; iterate 3 rfl) | (apply aj; iterate 3 rfl)
    | (apply aU; iterate 4 rfl) | (apply dS; iterate 3 rfl) | (apply aC (b := true); (iterate 2 rfl); exact aO; iterate 2 rfl)
    | (apply aC (b := false); (iterate 2 rfl); exact aO; iterate 2 rfl) | (apply aS; iterate 4 rfl) | apply EL.nil | ((with_reducible apply EK.ah); apply EK.code)
    | (apply EC.cond_true; rfl) | (with_reducible first | apply EC.seq | apply EC.region | apply EC.ret | apply EK.aH))
  exact EK.iG [] rfl rfl (List.nil_sublist _) ⟨rfl, rfl⟩
end E
end Go.Proofs.YtiledgojbpmoiaaGreat
namespace Go.Proofs.YtiledgojbpmoiaaGreat
open Go.RowKit Mono

end Go.Proofs.YtiledgojbpmoiaaGreat
namespace Go.Proofs.YtiledgojbpmoiaaGreat
set_option linter.unusedVariables false
set_option maxRecDepth 100000
open Go.RowKit Mono Go.ChangeShapes Go.WideShapes Go.Deep
theorem cell_spot {w : World} {p : Addr} {v : Value} (h : w.cell? p = some v) : p.block < w.heap.size ∧ ∃ b o, p = ⟨b, o, none⟩ := by
 obtain ⟨blk, off, spot⟩ := p
 have hspot : spot = none := by
  simp only [World.cell?] at h
  cases spot with
  | none => rfl
  | some s =>
   simp at h
   split at h <;> simp at h
 subst hspot
 refine ⟨?_, blk, off, rfl⟩
 rcases Nat.lt_or_ge blk w.heap.size with hlt | hge
 · exact hlt
 · simp [World.cell?, Array.getElem?_eq_none hge] at h
theorem flat_get {n : Nat} {u : Value} : ∀ (rows : List (List Value)) (j : Nat), (∀ r ∈ rows, r.length = n) → rows.flatten[j]? = some u → ∃ i r row, j = i * n + r ∧ r < n ∧ rows[i]? = some row ∧ row[r]? = some u
 | [], j, _, h => by simp at h
 | row :: rows, j, hn, h => by
  have hr : row.length = n := hn row (by simp)
  rw [List.flatten_cons] at h
  by_cases hj : j < n
  ·
   rw [List.getElem?_append_left (by omega)] at h
   exact ⟨0, j, row, by simp, hj, rfl, h⟩
  ·
   rw [List.getElem?_append_right (by omega), hr] at h
   obtain ⟨i, r, row', h1, h2, h3, h4⟩ := flat_get rows (j - n) (fun r hr => hn r (by simp [hr])) h
   exact ⟨i + 1, r, row', by rw [Nat.add_mul]; omega, h2, by simpa using h3, h4⟩
section
variable {H : Type} {enc : TypeId × Value → H} {w : World} {spare : Nat → Bool} {held : Bool}
theorem Hz {t e n : TypeId} {fuel : Nat} {v : Value} {x : DataW H × List MemPlace} (ht : Tryz.prog.underlying t = some (.slice e)) (hn : Tryz.prog.cellsOf e = n) (h : DataW.trod enc Tryz.prog w 0 spare held fuel t [v] = some x) :
  ∃ (A : Option Addr) (c f : Nat) (rows : List (List Value)), v = .slice A rows.length c ∧ rows.length ≤ c ∧ c ≤ maxLen ∧ Rd w w.heap.size A rows.flatten ∧ (∀ r ∈ rows, r.length = n) ∧ (A = none → rows = [] ∧ c = 0) ∧ ∀ r ∈ rows, ∃ y, DataW.trod enc Tryz.prog w 0 spare held f e r = some y := by
 rcases open_slice ht h with ⟨hcs, _⟩ | ⟨a, len, cap, m, f, D, Pl, hcs, _, hl, hm, hmm, _, hi⟩
 ·
  simp at hcs
  subst hcs
  exact ⟨none, 0, 0, [], rfl, Nat.le_refl _, by simp [maxLen], Rd.nil, by simp, fun _ => ⟨rfl, rfl⟩, by simp⟩
 ·
  simp at hcs
  subst hcs
  have hlm : len ≤ m := by rw [hmm]; split <;> omega
  rw [hn] at hi
  let row : Nat → List Value := fun i => (w.cells? 0 (a.add (i * n)) n).getD []
  have hrow : ∀ i, i < len → w.cells? 0 (a.add (i * n)) n = some (row i) ∧ ∃ y, DataW.trod enc Tryz.prog w 0 spare held f e (row i) = some y := fun i hil => by
   obtain ⟨cs', h1, h2⟩ := hi i (by omega)
   have : row i = cs' := by simp only [row]; rw [h1]; rfl
   rw [this]
   exact ⟨h1, _, h2⟩
  have hmem : ∀ r ∈ (List.range len).map row, ∃ i, i < len ∧ r = row i := fun r hr => by
   obtain ⟨i, h1, h2⟩ := List.mem_map.1 hr
   exact ⟨i, List.mem_range.1 h1, h2.symm⟩
  have hlen : ∀ r ∈ (List.range len).map row, r.length = n := fun r hr => by
   obtain ⟨i, h1, rfl⟩ := hmem r hr
   exact (World.cells?_some (hrow i h1).1).2.1
  refine ⟨some a, cap, f, (List.range len).map row, by simp, by simpa using hl, hm, ?_, hlen, (fun e => by cases e), fun r hr => ?_⟩
  ·
   have hcell : ∀ j u, ((List.range len).map row).flatten[j]? = some u → w.cell? (a.add j) = some u := fun j u hu => by
    obtain ⟨i, r, row', rfl, h2, h3, h4⟩ := flat_get _ j hlen hu
    have hil : i < len := by
     have := (List.getElem?_eq_some_iff.1 h3).1
     simpa using this
    have h5 : row' = row i := by
     rw [List.getElem?_map, List.getElem?_range hil] at h3
     exact (Option.some.inj h3).symm
    subst h5
    have h6 := (World.cells?_some (hrow i hil).1).2.2 r h2
    rw [h4, Go.Deep.add_add] at h6
    exact h6
   intro hne
   obtain ⟨u0, rest, he⟩ := List.exists_cons_of_ne_nil hne
   have h0 := hcell 0 u0 (by rw [he]; rfl)
   rw [show a.add 0 = a from if_pos rfl] at h0
   obtain ⟨h1, b, o, rfl⟩ := cell_spot h0
   refine ⟨b, o, rfl, h1, fun j u hu => ?_⟩
   have := hcell j u hu
   rw [eu] at this
   exact this
  ·
   obtain ⟨i, h1, rfl⟩ := hmem r hr
   exact (hrow i h1).2
theorem int_of_trod {t : TypeId} {k : IntKind} {fuel : Nat} {cs : List Value} {x : DataW H × List MemPlace} (ht : Tryz.prog.underlying t = some (.int k)) (h : DataW.trod enc Tryz.prog w 0 spare held fuel t cs = some x) : ∃ n, cs = [.int k n] ∧ (Lit.int k n).wf = true := by
 obtain ⟨n, h1, _, h2⟩ := DataW.trod_int ht h
 exact ⟨n, h1, h2⟩
theorem rW {fuel : Nat} {cs : List Value} {x : DataW H × List MemPlace} (h : DataW.trod enc Tryz.prog w 0 spare held fuel 5 cs = some x) : ∃ b : UInt8, cs = [bv b] := by
 obtain ⟨n, rfl, hw⟩ := int_of_trod Tryz.underlying5 h
 have hb := bounds_u8 hw
 refine ⟨UInt8.ofNat n.toNat, ?_⟩
 unfold bv
 rw [UInt8.toNat_ofNat']
 have : ((n.toNat % 2 ^ 8 : Nat) : Int) = n := by omega
 rw [this]
theorem rU {rows : List (List Value)} (h : ∀ r ∈ rows, ∃ b : UInt8, r = [bv b]) : ∃ l : List UInt8, l.length = rows.length ∧ rows.flatten = bvs l := by
 induction rows with
 | nil => exact ⟨[], rfl, rfl⟩
 | cons r rows ih =>
  obtain ⟨l, h1, h2⟩ := ih fun r hr => h r (by simp [hr])
  obtain ⟨b, rfl⟩ := h r (by simp)
  exact ⟨b :: l, by simp [h1], by simp [h2, bvs]⟩
theorem Aw {fuel : Nat} {v : Value} {x : DataW H × List MemPlace} (h : DataW.trod enc Tryz.prog w 0 spare held fuel 30 [v] = some x) : ∃ l, IsB w v l := by
 obtain ⟨A, c, f, rows, rfl, h1, h2, h3, _, _, h5⟩ := Hz Tryz.underlying30 (by kernel_rfl : Tryz.prog.cellsOf 5 = 1) h
 obtain ⟨l, h6, h7⟩ := rU fun r hr => by
  obtain ⟨y, hy⟩ := h5 r hr
  exact rW hy
 rw [h7] at h3
 exact ⟨l, A, c, by rw [h6], by rw [h6]; exact h1, h2, h3⟩
set_option maxRecDepth 100000
variable {r : Reach} {b0 : Nat} {v : Value} {d : DataW H} {ps : List MemPlace}
theorem JR (hv : Value.okWide Tryz.prog w r b0 30 v) (h : DataW.Trod enc Tryz.prog w 0 spare held 30 v d ps) : ∃ l, IsB w v l := by
 obtain ⟨a, n, c, rfl⟩ := okWide_slice Tryz.underlying30 hv
 obtain ⟨fuel, hf⟩ := h
 exact Aw hf
end
section
variable {H : Type} {enc : TypeId × Value → H} {w : World} {spare : Nat → Bool} {held : Bool}
theorem Vr (cs : List Value) (h : ∀ u ∈ cs, ∃ b : UInt8, u = bv b) : ∃ l : List UInt8, cs = bvs l := by
 induction cs with
 | nil => exact ⟨[], rfl⟩
 | cons u cs ih =>
  obtain ⟨l, hl⟩ := ih fun u hu => h u (by simp [hu])
  obtain ⟨b, rfl⟩ := h u (by simp)
  exact ⟨b :: l, by rw [hl]; rfl⟩
theorem GZ {t : TypeId} {n fuel : Nat} {cs : List Value} {x : DataW H × List MemPlace} (ht : Tryz.prog.underlying t = some (.array n 5)) (hc : Tryz.prog.cellsOf t = n) (h : DataW.trod enc Tryz.prog w 0 spare held fuel t cs = some x) :
  ∃ l : List UInt8, l.length = n ∧ cs = bvs l := by
 obtain ⟨xs, m, _, _, hl, hxl, hg⟩ := DataW.trod_array ht h
 rw [hc] at hl
 obtain ⟨l, rfl⟩ := Vr cs fun u hu => by
  obtain ⟨i, hi, rfl⟩ := List.getElem_of_mem hu
  have h1 := hg i (by omega)
  rw [(by kernel_rfl : Tryz.prog.cellsOf 5 = 1), Nat.mul_one, List.drop_eq_getElem_cons hi, List.take_succ_cons, List.take_zero, List.getElem?_eq_getElem (by omega)] at h1
  obtain ⟨b, hb⟩ := rW h1
  exact ⟨b, by simpa using hb⟩
 exact ⟨l, by rw [← hl, bn], rfl⟩
variable {r : Reach} {b0 : Nat} {v : Value} {d : DataW H} {ps : List MemPlace}
end
section
variable {H : Type} {enc : TypeId × Value → H} {w : World} {spare : Nat → Bool} {held : Bool}
theorem vZ {P : Program} {e : TypeId} {d : DataW H} {k : Nat} : ∀ {ds : List (DataW H)}, d ∈ ds → k ∈ d.weights P e → k ∈ DataW.weightsAll P e ds
 | [], h, _ => by cases h
 | x :: xs, h, hk => by
  rw [DataW.weightsAll]
  rcases List.mem_cons.1 h with rfl | h
  · exact List.mem_append_left _ hk
  · exact List.mem_append_right _ (vZ h hk)
theorem wz {t e n : TypeId} {fuel : Nat} {v : Value} {x : DataW H × List MemPlace} (ht : Tryz.prog.underlying t = some (.slice e)) (hn : Tryz.prog.cellsOf e = n) (h : DataW.trod enc Tryz.prog w 0 spare held fuel t [v] = some x) :
  ∃ (A : Option Addr) (c f : Nat) (rows : List (List Value)), v = .slice A rows.length c ∧ rows.length ≤ c ∧ c ≤ maxLen ∧ Rd w w.heap.size A rows.flatten ∧ (∀ r ∈ rows, r.length = n) ∧ (A = none → rows = [] ∧ c = 0) ∧ (rows ≠ [] → f < fuel) ∧ (∀ r ∈ rows, ∃ y, DataW.trod enc Tryz.prog w 0 spare held f e r = some y ∧ ∀ k ∈ y.1.weights Tryz.prog e, k ∈ x.1.weights Tryz.prog t) ∧ (rows ≠ [] → ∃ k ∈ x.1.weights Tryz.prog t, rows.length * Tryz.prog.bytesOf e ≤ k) := by
 rcases DataW.trod_slice ht h with ⟨hcs, hx⟩ | ⟨a, len, cap, elems, rest, f, hfu, hcs, hx, _, hl, hm, hel, hi, _⟩
 ·
  simp at hcs
  subst hcs
  exact ⟨none, 0, 0, [], rfl, Nat.le_refl _, by simp [maxLen], Rd.nil, by simp, fun _ => ⟨rfl, rfl⟩, fun hne => absurd rfl hne, by simp, fun hne => absurd rfl hne⟩
 ·
  simp at hcs
  subst hcs
  rw [hn] at hi
  let row : Nat → List Value := fun i => (w.cells? 0 (a.add (i * n)) n).getD []
  have hrow : ∀ i, i < len → w.cells? 0 (a.add (i * n)) n = some (row i) ∧ ∃ y, DataW.trod enc Tryz.prog w 0 spare held f e (row i) = some y ∧ ∀ k ∈ y.1.weights Tryz.prog e, k ∈ x.1.weights Tryz.prog t := fun i hil => by
   have h1 := hi i hil
   rw [List.getElem?_eq_getElem (by omega)] at h1
   cases hc : w.cells? 0 (a.add (i * n)) n with
   | none => rw [hc] at h1; cases h1
   | some cs' =>
    rw [hc] at h1
    have : row i = cs' := by simp only [row]; rw [hc]; rfl
    rw [this]
    refine ⟨rfl, _, h1, fun k hk => ?_⟩
    rw [hx, DataW.weights, ht]
    exact List.mem_cons_of_mem _ (List.mem_append_left _ (vZ (List.mem_map_of_mem (List.getElem_mem (by omega))) hk))
  have hmem : ∀ r ∈ (List.range len).map row, ∃ i, i < len ∧ r = row i := fun r hr => by
   obtain ⟨i, h1, h2⟩ := List.mem_map.1 hr
   exact ⟨i, List.mem_range.1 h1, h2.symm⟩
  have hlen : ∀ r ∈ (List.range len).map row, r.length = n := fun r hr => by
   obtain ⟨i, h1, rfl⟩ := hmem r hr
   exact (World.cells?_some (hrow i h1).1).2.1
  refine ⟨some a, cap, f, (List.range len).map row, by simp, by simpa using hl, hm, ?_, hlen, (fun e => by cases e), fun _ => by omega, fun r hr => ?_, fun _ => ⟨(elems.length + rest.length) * Tryz.prog.bytesOf e, ?_, ?_⟩⟩
  ·
   have hcell : ∀ j u, ((List.range len).map row).flatten[j]? = some u → w.cell? (a.add j) = some u := fun j u hu => by
    obtain ⟨i, r, row', rfl, h2, h3, h4⟩ := flat_get _ j hlen hu
    have hil : i < len := by
     have := (List.getElem?_eq_some_iff.1 h3).1
     simpa using this
    have h5 : row' = row i := by
     rw [List.getElem?_map, List.getElem?_range hil] at h3
     exact (Option.some.inj h3).symm
    subst h5
    have h6 := (World.cells?_some (hrow i hil).1).2.2 r h2
    rw [h4, Go.Deep.add_add] at h6
    exact h6
   intro hne
   obtain ⟨u0, rest, he⟩ := List.exists_cons_of_ne_nil hne
   have h0 := hcell 0 u0 (by rw [he]; rfl)
   rw [show a.add 0 = a from if_pos rfl] at h0
   obtain ⟨h1, b, o, rfl⟩ := cell_spot h0
   refine ⟨b, o, rfl, h1, fun j u hu => ?_⟩
   have := hcell j u hu
   rw [eu] at this
   exact this
  ·
   obtain ⟨i, h1, rfl⟩ := hmem r hr
   exact (hrow i h1).2
  ·
   rw [hx, DataW.weights, ht]
   simp
  ·
   rw [List.length_map, List.length_range]
   exact Nat.mul_le_mul_right _ (by omega)
end
end Go.Proofs.YtiledgojbpmoiaaGreat
namespace Go.Proofs.YtiledgojbpmoiaaGreat
set_option linter.unusedVariables false
set_option maxRecDepth 100000
open Go.RowKit Mono Go.ChangeShapes Go.WideShapes Go.Deep
namespace E
inductive Sh where
 | bool
 | int (k : IntKind)
 | arr (n : Nat)
 | bytes
 | slice (b : Nat) (s : Sh)
 | struct (ss : List Sh)
mutual
def Sh.size : Sh → Nat
 | .arr n => n
 | .struct ss => Sh.sizes ss
 | _ => 1
def Sh.sizes : List Sh → Nat
 | [] => 0
 | s :: ss => s.size + Sh.sizes ss
end
def Sh.agg : Sh → Bool
 | .arr _ => true
 | .struct _ => true
 | _ => false
mutual
def Sh.Is : Sh → TypeId → Prop
 | .bool, t => Tryz.prog.underlying t = some .bool ∧ Tryz.prog.cellsOf t = 1
 | .int k, t => Tryz.prog.underlying t = some (.int k) ∧ Tryz.prog.cellsOf t = 1
 | .arr n, t => Tryz.prog.underlying t = some (.array n 5) ∧ Tryz.prog.cellsOf t = n
 | .bytes, t => Tryz.prog.underlying t = some (.slice 5) ∧ Tryz.prog.cellsOf t = 1
 | .slice b s, t => Tryz.prog.cellsOf t = 1 ∧ ∃ e, Tryz.prog.underlying t = some (.slice e) ∧ Tryz.prog.bytesOf e = b ∧ s.Is e
 | .struct ss, t => ∃ fs : Array Field, Tryz.prog.underlying t = some (.struct fs) ∧ Tryz.prog.cellsOf t = Sh.sizes ss ∧ Sh.IsF ss 0 fs.toList
def Sh.IsF : List Sh → Nat → List Field → Prop
 | [], _, fs => fs = []
 | s :: ss, o, fs => ∃ f rest, fs = f :: rest ∧ f.offset = o ∧ s.Is f.type ∧ Sh.IsF ss (o + s.size) rest
end
mutual
def Sh.Of (N : Nat) : Sh → D → Prop
 | .bool, d => ∃ b, d = .v (.bool b)
 | .int k, d => ∃ n, d = .v (.int k n) ∧ (Lit.int k n).wf = true
 | .arr n, d => ∃ l : List UInt8, l.length = n ∧ d = .arr n l
 | .bytes, d => ∃ l : List UInt8, l.length ≤ N ∧ d = .bs l
 | .slice b s, d => ∃ ds : List D, ds.length * b ≤ N ∧ d = .sl s.size ds ∧ ∀ x ∈ ds, s.Of N x
 | .struct ss, d => ∃ ds, d = .tup ds ∧ Sh.OfL N ss ds
def Sh.OfL (N : Nat) : List Sh → List D → Prop
 | [], ds => ds = []
 | s :: ss, ds => ∃ d rest, ds = d :: rest ∧ s.Of N d ∧ Sh.OfL N ss rest
end
theorem Sh.Is.cells : ∀ {s : Sh} {t : TypeId}, s.Is t → Tryz.prog.cellsOf t = s.size
 | .bool, t, h => by rw [Sh.Is] at h; exact h.2
 | .int k, t, h => by rw [Sh.Is] at h; exact h.2
 | .arr n, t, h => by rw [Sh.Is] at h; exact h.2
 | .bytes, t, h => by rw [Sh.Is] at h; exact h.2
 | .slice b s, t, h => by rw [Sh.Is] at h; exact h.1
 | .struct ss, t, h => by
  rw [Sh.Is] at h
  obtain ⟨fs, _, h2, _⟩ := h
  exact h2
theorem JG {ok : Nat → Prop} {w : World} {z : Nat} {Q : D → Prop} : ∀ {rows : List (List Value)}, (∀ r ∈ rows, r.length = z ∧ ∃ d, Q d ∧ Reads ok w d r) → ∃ ds, ds.length = rows.length ∧ (∀ x ∈ ds, Q x) ∧ ay ok w z ds rows
 | [], _ => ⟨[], rfl, by simp, by rw [ay]⟩
 | r :: rows, h => by
  obtain ⟨ds, h1, h2, h3⟩ := JG (rows := rows) fun r hr => h r (by simp [hr])
  obtain ⟨hz, d, hd, hr⟩ := h r (by simp)
  refine ⟨d :: ds, by simp [h1], fun x hx => ?_, by rw [ay]; exact ⟨r, rows, rfl, hz, hr, h3⟩⟩
  rcases List.mem_cons.1 hx with rfl | hx
  · exact hd
  · exact h2 x hx
section
variable {H : Type} {enc : TypeId × Value → H} {w : World} {spare : Nat → Bool} {held : Bool} {N : Nat}
mutual
theorem CY : ∀ (s : Sh) (t : TypeId) (fuel : Nat) (cs : List Value) (x : DataW H × List MemPlace), s.Is t → DataW.trod enc Tryz.prog w 0 spare held fuel t cs = some x → (∀ k ∈ x.1.weights Tryz.prog t, k ≤ N) → ∃ d, s.Of N d ∧ Reads (fun b => b < w.heap.size) w d cs
 | .bool, t, fuel, cs, x, hs, h, hN => by
  rw [Sh.Is] at hs
  obtain ⟨b, rfl, _⟩ := DataW.trod_bool hs.1 h
  exact ⟨.v (.bool b), by rw [Sh.Of]; exact ⟨b, rfl⟩, by rw [Reads]; exact ⟨rfl, rfl⟩⟩
 | .int k, t, fuel, cs, x, hs, h, hN => by
  rw [Sh.Is] at hs
  obtain ⟨n, rfl, _, hw⟩ := DataW.trod_int hs.1 h
  exact ⟨.v (.int k n), by rw [Sh.Of]; exact ⟨n, rfl, hw⟩, by rw [Reads]; exact ⟨rfl, rfl⟩⟩
 | .arr n, t, fuel, cs, x, hs, h, hN => by
  rw [Sh.Is] at hs
  obtain ⟨l, hl, rfl⟩ := GZ hs.1 hs.2 h
  exact ⟨.arr n l, by rw [Sh.Of]; exact ⟨l, hl, rfl⟩, by rw [Reads]; exact ⟨hl, rfl⟩⟩
 | .bytes, t, fuel, cs, x, hs, h, hN => by
  rw [Sh.Is] at hs
  have hl : ∃ v, cs = [v] := by
   rcases DataW.trod_slice hs.1 h with ⟨hcs, _⟩ | ⟨a, len, cap, elems, rest, f, hfu, hcs, _⟩
   · exact ⟨_, hcs⟩
   · exact ⟨_, hcs⟩
  obtain ⟨v, rfl⟩ := hl
  obtain ⟨A, c, f, rows, rfl, h1, h2, h3, _, _, _, h5, h8⟩ := wz hs.1 (by kernel_rfl : Tryz.prog.cellsOf 5 = 1) h
  obtain ⟨l, h6, h7⟩ := rU fun r hr => by
   obtain ⟨y, hy, _⟩ := h5 r hr
   exact rW hy
  rw [h7] at h3
  have hl : l.length ≤ N := by
   rw [h6]
   by_cases hr : rows = []
   · rw [hr]; simp
   ·
    obtain ⟨k, hk, hk2⟩ := h8 hr
    rw [(by kernel_rfl : Tryz.prog.bytesOf 5 = 1), Nat.mul_one] at hk2
    exact Nat.le_trans hk2 (hN k hk)
  exact ⟨.bs l, by rw [Sh.Of]; exact ⟨l, hl, rfl⟩, by rw [Reads]; exact ⟨_, rfl, A, c, by rw [h6], by rw [h6]; exact h1, h2, h3⟩⟩
 | .slice b s, t, fuel, cs, x, hs, h, hN => by
  rw [Sh.Is] at hs
  obtain ⟨_, e, hu, hb, he⟩ := hs
  have hl : ∃ v, cs = [v] := by
   rcases DataW.trod_slice hu h with ⟨hcs, _⟩ | ⟨a, len, cap, elems, rest, f, hfu, hcs, _⟩
   · exact ⟨_, hcs⟩
   · exact ⟨_, hcs⟩
  obtain ⟨v, rfl⟩ := hl
  obtain ⟨A, c, f, rows, rfl, h1, h2, h3, h4, h5, _, h6, h8⟩ := wz hu he.cells h
  obtain ⟨ds, g1, g2, g3⟩ := JG (ok := fun b => b < w.heap.size) (w := w) (z := s.size) (Q := s.Of N) fun r hr => by
   obtain ⟨y, hy, hk⟩ := h6 r hr
   exact ⟨h4 r hr, CY s e f r y he hy fun k hk' => hN k (hk k hk')⟩
  have hl : ds.length * b ≤ N := by
   rw [g1, ← hb]
   by_cases hr : rows = []
   · rw [hr]; simp
   ·
    obtain ⟨k, hk, hk2⟩ := h8 hr
    exact Nat.le_trans hk2 (hN k hk)
  refine ⟨.sl s.size ds, by rw [Sh.Of]; exact ⟨ds, hl, rfl, g2⟩, ?_⟩
  rw [Reads]
  exact ⟨A, c, rows, by rw [g1], by rw [g1]; exact h1, h2, fun e => by rw [g1, (h5 e).1]; exact ⟨rfl, (h5 e).2⟩, h3, g3⟩
 | .struct ss, t, fuel, cs, x, hs, h, hN => by
  rw [Sh.Is] at hs
  obtain ⟨fs, hu, hc, hf⟩ := hs
  obtain ⟨xs, n, _, hx, hl, hxl, hg⟩ := DataW.trod_struct hu h
  obtain ⟨ds, h1, h2⟩ := Ej ss 0 n cs fs.toList hf (by rw [hl, hc, Nat.zero_add]) fun f hm => by
   obtain ⟨i, hi, rfl⟩ := List.getElem_of_mem hm
   have hi' : i < fs.size := by simpa using hi
   have := hg i fs[i] (by rw [Array.getElem?_eq_getElem hi'])
   rw [List.getElem?_eq_getElem (by omega)] at this
   refine ⟨_, this, fun k hk => hN k ?_⟩
   rw [hx]
   simp only [DataW.weights, hu]
   exact DataW.weights_mem_each (j := i) (t := fs[i].type) (d := xs[i].1) (by simp [Array.getElem?_eq_getElem hi']) (by rw [List.getElem?_map, List.getElem?_eq_getElem (by omega)]; rfl) k hk
  exact ⟨.tup ds, by rw [Sh.Of]; exact ⟨ds, rfl, h1⟩, by rw [Reads]; simpa using h2⟩
theorem Ej : ∀ (ss : List Sh) (o n : Nat) (cs : List Value) (fs : List Field), Sh.IsF ss o fs → cs.length = o + Sh.sizes ss → (∀ f ∈ fs, ∃ y, DataW.trod enc Tryz.prog w 0 spare held n f.type ((cs.drop f.offset).take (Tryz.prog.cellsOf f.type)) = some y ∧ ∀ k ∈ y.1.weights Tryz.prog f.type, k ≤ N) →
  ∃ ds, Sh.OfL N ss ds ∧ bM (fun b => b < w.heap.size) w ds (cs.drop o)
 | [], o, n, cs, fs, hf, hl, h => ⟨[], by rw [Sh.OfL], by
  rw [bM]
  rw [Sh.sizes] at hl
  exact List.drop_eq_nil_of_le (by omega)⟩
 | s :: ss, o, n, cs, fs, hf, hl, h => by
  rw [Sh.IsF] at hf
  obtain ⟨f, rest, rfl, rfl, hs, hf⟩ := hf
  rw [Sh.sizes] at hl
  obtain ⟨y, hy, hk⟩ := h f (by simp)
  rw [hs.cells] at hy
  obtain ⟨d, h1, h2⟩ := CY s f.type n _ y hs hy hk
  obtain ⟨ds, h3, h4⟩ := Ej ss (f.offset + s.size) n cs rest hf (by omega) fun g hg => h g (by simp [hg])
  refine ⟨d :: ds, by rw [Sh.OfL]; exact ⟨d, ds, rfl, h1, h3⟩, ?_⟩
  rw [bM]
  refine ⟨_, _, ?_, h2, h4⟩
  rw [← List.drop_drop, List.take_append_drop]
end
theorem Uy {s : Sh} {d : D} (h : s.Of N d) : d.agg = s.agg := by
 cases s <;> rw [Sh.Of] at h
 ·
  obtain ⟨_, rfl⟩ := h
  rfl
 ·
  obtain ⟨_, rfl, _⟩ := h
  rfl
 ·
  obtain ⟨_, _, rfl⟩ := h
  rfl
 ·
  obtain ⟨_, _, rfl⟩ := h
  rfl
 ·
  obtain ⟨_, _, rfl, _⟩ := h
  rfl
 ·
  obtain ⟨_, rfl, _⟩ := h
  rfl
variable {r : Reach} {b0 : Nat} {v : Value} {d : DataW H} {ps : List MemPlace}
theorem OL {s : Sh} {t : TypeId} (hs : s.Is t) (hv : Value.okWide Tryz.prog w r b0 t v) (h : DataW.Trod enc Tryz.prog w 0 spare held t v d ps) : v = if s.agg then .agg v.cells else v.cells.toList.headD undef := by
 cases s <;> rw [Sh.Is] at hs
 ·
  obtain ⟨b, rfl, _⟩ := open_bool hs.1 hv h
  rfl
 ·
  obtain ⟨n, rfl, _⟩ := open_int hs.1 hv h
  rfl
 ·
  simp only [Value.okWide, hs.1] at hv
  obtain ⟨cs, rfl, _⟩ := hv
  rfl
 ·
  obtain ⟨a, n, c, rfl⟩ := okWide_slice hs.1 hv
  rfl
 ·
  obtain ⟨_, e, hu, _, _⟩ := hs
  obtain ⟨a, n, c, rfl⟩ := okWide_slice hu hv
  rfl
 ·
  obtain ⟨fs, hu, _⟩ := hs
  simp only [Value.okWide, hu] at hv
  obtain ⟨cs, rfl, _⟩ := hv
  rfl
theorem WY {s : Sh} {t : TypeId} (hs : s.Is t) (hv : Value.okWide Tryz.prog w r b0 t v) (h : DataW.Trod enc Tryz.prog w 0 spare held t v d ps) (hN : ∀ k ∈ d.weights Tryz.prog t, k ≤ N) : ∃ D, s.Of N D ∧ bW (fun b => b < w.heap.size) w D v := by
 have h3 := OL hs hv h
 obtain ⟨fuel, hf⟩ := h
 obtain ⟨D, h1, h2⟩ := CY s t fuel _ _ hs hf hN
 refine ⟨D, h1, _, h2, ?_⟩
 unfold form
 rw [Uy h1]
 simpa using h3
end
end E
end Go.Proofs.YtiledgojbpmoiaaGreat
namespace Go.Proofs.YtiledgojbpmoiaaGreat
set_option linter.unusedVariables false
set_option maxRecDepth 100000
open Go.RowKit Mono Go.ChangeShapes Go.WideShapes Go.Deep
namespace E
def OM : Sh := .struct [.bytes, .bytes]
theorem PO : OM.Is 69 := by
 unfold OM
 rw [Sh.Is]
 refine ⟨_, Tryz.underlying69, by kernel_rfl, ?_⟩
 simp only [Sh.IsF, Sh.Is]
 exact ⟨_, _, rfl, rfl, ⟨Tryz.underlying30, by kernel_rfl⟩, _, _, rfl, rfl, ⟨Tryz.underlying30, by kernel_rfl⟩, rfl⟩
theorem Nk : (Sh.slice 48 OM).Is 46 := by
 rw [Sh.Is]
 exact ⟨by kernel_rfl, _, Tryz.underlying46, by kernel_rfl, PO⟩
theorem FM {α : Type} {Q : D → Prop} {f : α → D} (h : ∀ d, Q d → ∃ a, d = f a) : ∀ {ds : List D}, (∀ x ∈ ds, Q x) → ∃ rs : List α, ds = rs.map f
 | [], _ => ⟨[], rfl⟩
 | d :: ds, hd => by
  obtain ⟨a, rfl⟩ := h d (hd d (by simp))
  obtain ⟨rs, rfl⟩ := FM h fun x hx => hd x (List.mem_cons_of_mem _ hx)
  exact ⟨a :: rs, rfl⟩
variable {N : Nat}
theorem Pv {d : D} (h : OM.Of N d) : ∃ s : Pr, d = dPr s := by
 unfold OM at h
 simp only [Sh.Of, Sh.OfL] at h
 obtain ⟨_, rfl, _, _, rfl, ⟨k, h1, rfl⟩, _, _, rfl, ⟨v, h2, rfl⟩, rfl⟩ := h
 exact ⟨(k, v), rfl⟩
theorem RX (l : List Nat) : ∀ k ∈ l, k ≤ l.sum := by
 induction l with
 | nil => intro k hk; cases hk
 | cons a l ih =>
  intro k hk
  rw [List.sum_cons]
  rcases List.mem_cons.1 hk with rfl | hk
  · omega
  ·
   have := ih k hk
   omega
end E
def yT (w : World) (v : Value) : Prop := ∃ l : List E.Pr, E.bW (fun b => b < w.heap.size) w (.sl 2 (l.map E.dPr)) v
section
variable {H : Type} {enc : TypeId × Value → H} {w : World} {spare : Nat → Bool} {held : Bool} {r : Reach} {b0 : Nat} {v : Value} {d : DataW H} {ps : List MemPlace}
theorem V7 (hv : Value.okWide Tryz.prog w r b0 46 v) (h : DataW.Trod enc Tryz.prog w 0 spare held 46 v d ps) : yT w v := by
 obtain ⟨D, h1, h2⟩ := E.WY E.Nk hv h (E.RX _)
 rw [E.Sh.Of] at h1
 obtain ⟨ds, _, rfl, h3⟩ := h1
 obtain ⟨l, rfl⟩ := E.FM (fun _ => E.Pv) h3
 exact ⟨l, h2⟩
end
end Go.Proofs.YtiledgojbpmoiaaGreat
namespace Go.Proofs.YtiledgojbpmoiaaGreat
set_option linter.unusedVariables false
open Go.RowKit Mono
namespace E
theorem Na {f : FuncId} {ds : List D} {xs : List Value} {w : World} (h : FnM f ds [] (fun r os' => r = .val (.v (.bool true)) ∧ os' = [])) (hr : fM (fun b => b < w.heap.size) w ds xs) : Calls Tryz.prog f xs.toArray w fun e w' => e = .returned (.bool true) ∧ Below w.heap.size w w' :=
 (h.go _ w xs (fun b hb => hb) ⟨fun o ho => by simp at ho, .nil, fun b ⟨o, ho, _⟩ => by simp at ho⟩ hr).mono fun e w' ⟨v, r, os', he, ⟨h1, h2⟩, ht, hv⟩ => by
  subst he h1
  have hg := ht.gr.gr fun b ⟨o, ho, _⟩ => by simp at ho
  exact ⟨by rw [(bF.1 hv).2], hg⟩
end E
end Go.Proofs.YtiledgojbpmoiaaGreat
