/-
 Merged (wip/tools/merge.py): BR6, TA1, TA2, EBX, RHa.
 Conditions: none.
-/
import Derived.Test.YtiledgojbpmoiaaGreatZQ23
import Derived.Test.YtiledgojbpmoiaaGreatZQ21
import Derived.Test.YtiledgojbpmoiaaGreatZQ11
import Derived.Test.YtiledgojbpmoiaaGreatZQ17
import Derived.Test.YtiledgojbpmoiaaGreatZQ14
namespace Go.Proofs.YtiledgojbpmoiaaGreat
set_option linter.unusedVariables false
set_option maxRecDepth 20000
set_option maxHeartbeats 16000000
open Go.RowKit Mono Rlp
namespace E
theorem EK.Di {N : Nat} {X : Cx N} {S : St} {fn : Func} {Φ : R → List Obj → Prop} {p u q : Tmp} {g ty : Nat} {t : TypeId} {d d' e e' k k' : D} (i : Nat) (os' : List Obj) (hres : fn.results = #[.cell p ty, .tmp u, .tmp q]) (hl : look S.regs p = some (.val (.v (.pointer (some ⟨g, 0, none⟩))))) (hi : S.objs[i]? = some (.var g t d)) (hT : assoc tyL ty = some (d.size, d.agg)) (hu : look S.regs u = some (.val e)) (hq : look S.regs q = some (.val k)) (hR : ak S.facts [d] [d']) (hR2 : ak S.facts [e] [e']) (hR3 : ak S.facts [k] [k']) (ho : os'.Sublist S.objs) (hΦ : Φ (.tpl [d', e', k']) os') : EK X (bodyPost Tryz.prog fn (Eb X Φ) .ret) S := by
 constructor
 intro a w ha
 obtain ⟨x, h1, h2⟩ := tN ha.mem hi (tyI hT)
 have hp := (bf.1 (ha.regs p _ hl)).2
 have hp' : a.tmps[p]?.getD undef = .pointer (some ⟨g, 0, none⟩) := by simpa using hp
 have h3 : bW (X.ok S.objs w) w (.tpl [d', e', k']) (.tuple #[x, a.tmps.getD u undef, a.tmps.getD q undef]) := ⟨[x, a.tmps.getD u undef, a.tmps.getD q undef], rfl, _, _, rfl, Refine1.kG ha.mem.fact hR h2, _, _, rfl, Refine1.kG ha.mem.fact hR2 (ha.regs u _ hu), _, _, rfl, Refine1.kG ha.mem.fact hR3 (ha.regs q _ hq), rfl⟩
 refine bodyPost_ret (v := .tuple #[x, a.tmps.getD u undef, a.tmps.getD q undef]) ?_ ha.defers ⟨_, _, os', rfl, hΦ, ha.mem.less ho (fun f hf => by cases hf), h3.mono (fun b hb => uh ho hb) fun _ _ => rfl⟩
 simp [results, hres, hp', asAddr, h1]
theorem Sr (l : List Pr) : Fn 37 [.sl 2 (l.map dPr)] (fun r => ∃ ns : List Pr, r = .tpl [.arr 32 (Fb l), .sl 33 (ns.map dNd), .v (.int .i64 (ig l : Int))]) := by
 have hml : (l.map dPr).length = l.length := List.length_map _
 have hM := Jq l
 have hE := GR
 unfold Fb
 refine FnM.toFn ?_
 refine FnM.walk 60 Tryz.func37 rfl Tryz.ntmps37 (by simp) fun X => ?_
 by_cases he : ig l = 0
 ·
  rw [he] at hM ⊢
  rw [if_neg (by decide)]
  have hlen := (show l.length ≤ 100000 from by
   unfold ig at he
   split at he
   · cases he
   ·
    rename_i h1
    have : ¬ 100000 < l.length := fun e => h1 (.inl e)
    omega)
  have hlg : l.any lg = false := (ku he).2.1
  by_cases hnil : l = []
  ·
   subst hnil
   rw [if_pos (show ([] : List Pr).isEmpty = true from rfl)]
   repeat
    (first
     | (apply aJ (hM); rfl; exact ak.refl _ _; exact enA; iterate 2 rfl) | (apply aJ (hE); rfl; exact ak.refl _ _; exact enA; iterate 2 rfl)
     | (apply au; iterate 3 rfl) | (apply aj; iterate 3 rfl) | (apply aA (b := true); (iterate 2 rfl); exact aG; iterate 2 rfl)
     | (apply aA (b := false); (iterate 2 rfl); exact aG; iterate 2 rfl) | (apply aB; iterate 4 rfl) | (apply aV; rfl; rfl; rfl; intro _)
     | (apply aO; rfl; (focus (repeat first | exact .z | apply aY.s | apply aN.s)); iterate 4 rfl) | apply EL.nil | ((with_reducible apply EK.ah); apply EK.code)
     | (apply EC.cond_true; rfl) | (apply EC.cond_false; rfl) | (with_reducible first | apply EC.seq | apply EC.region | apply EC.skip | apply EC.ret | apply EK.aI))
   refine EK.Di 0 [] rfl rfl rfl rfl rfl rfl ?_ ?_ ?_ (List.nil_sublist _) ⟨⟨[], rfl⟩, rfl⟩
   · (exact RL.a)
   · exact RL.cons Rf.sl0 RL.nil
   · (exact RL.a)
  ·
   obtain ⟨y, l', rfl⟩ : ∃ y l', l = y :: l' := by
    cases l with
    | nil => exact absurd rfl hnil
    | cons y l' => exact ⟨y, l', rfl⟩
   rw [if_neg (show ¬ ((y :: l').isEmpty = true) from Bool.false_ne_true)]
   have hne : ((y :: l').map sp).isEmpty = false := rfl
   have hlen2 : ((y :: l').map dPr).length = l'.length + 1 := by simp
   have hL2 : (y :: l').length = l'.length + 1 := rfl
   repeat
    (first
     | (apply aJ (hM); rfl; exact ak.refl _ _; exact enA; iterate 2 rfl) | (apply au; iterate 3 rfl) | (apply aj; iterate 3 rfl)
     | (apply aA (b := false); (iterate 2 rfl); exact aG; iterate 2 rfl) | (apply aB; iterate 4 rfl) | (apply aV; rfl; rfl; rfl; intro _) | apply EL.nil
     | ((with_reducible apply EK.ah); apply EK.code) | (apply EC.cond_false; rfl) | (with_reducible first | apply EC.seq | apply EC.region | apply EC.skip | apply EC.block))
   rename_i g2
   generalize hL : y :: l' = l at *
   clear hnil
   refine EC.le (Le.row 149 2) ?_
   refine EC.loop (ι := {x : Nat × Value // x.1 ≤ l.length})
    (fun x => ⟨[(7, .val (.v (.int .i64 (x.1.1 : Int)))), (6, .val (.v x.1.2)), (0, .val (.sl 2 (l.map dPr))), (2, .val (.v (.pointer (some ⟨g2, 0, none⟩))))], [.row x.1.2 149 2 (((l.take x.1.1).map sp).map dPr), .var g2 29 (.arr 32 zero32)], []⟩)
    (fun x => l.length - x.1.1) ⟨(0, .slice none 0 0), Nat.zero_le _⟩ ?_ ?_
   · exact Le.kp
   rintro ⟨⟨i, v⟩, hi⟩
   dsimp only at hi ⊢
   by_cases hlt : i < l.length
   ·
    have hd : (l.map dPr)[i]? = some (.tup [.bs l[i].1, .bs l[i].2]) := by rw [List.getElem?_map, List.getElem?_eq_getElem hlt]; rfl
    have hsz := iM hlg (List.getElem_mem hlt)
    have hS := GK l[i].1 (by omega)
    have hl3 : (((l.take i).map sp).map dPr).length = i := by rw [List.length_map, List.length_map, List.length_take]; omega
    have htk : ((l.take (i + 1)).map sp).map dPr = ((l.take i).map sp).map dPr ++ [.tup [.bs (split l[i].1), .bs l[i].2]] := by
     rw [List.take_succ_eq_append_getElem hlt, List.map_append, List.map_append]
     rfl
    repeat
     (first
      | (apply au; iterate 3 rfl) | (apply aA (b := true); (iterate 2 rfl); exact aG; iterate 2 rfl) | (apply aB; iterate 4 rfl) | apply EL.nil
      | ((with_reducible apply EK.ah); apply EK.code) | (apply EC.cond_true; rfl) | (with_reducible first | apply EC.seq | apply EC.region | apply EC.skip | apply EC.block))
    refine EC.jm 15 [0, 1, 2, 3, 4, 5, 6, 7, 8, 9, 10, 11, 12, 13] [14] [_] _ (by kernel_rfl) (by kernel_rfl) rfl ?_
    simp only [aQ, List.filterMap_cons, List.filterMap_nil, List.getElem?_cons_zero, List.getElem?_cons_succ]
    repeat
     (first
      | (apply bP (hS); rfl; exact ak.refl _ _; exact enA; iterate 2 rfl) | (apply aU; iterate 3 rfl) | (apply aW; iterate 7 rfl)
      | (apply bG; iterate 5 rfl)
      | (apply bD; (iterate 4 rfl); (focus (first | exact ⟨by decide, rfl⟩ | (refine ⟨by omega, ?_⟩; rw [Int.toNat_natCast]; assumption))); iterate 2 rfl)
      | (apply iL; iterate 7 rfl) | (apply kP; iterate 9 rfl))
    refine EM.nil ?_
    repeat (first | rw [List.cons_append] | rw [List.nil_append])
    refine CH.mut (os := [_]) (rest := []) rfl rfl (fZ rfl rfl rfl rfl rfl ?_) ?_
    ·
     rw [hl3]
     constructor <;> (simp; omega)
    rintro _ _ ⟨v', rfl, rfl⟩
    try simp only [St.put]
    repeat (first | rw [List.cons_append] | rw [List.nil_append])
    refine CH.nil ?_
    try simp only [List.drop_succ_cons, List.drop_zero]
    repeat
     (first
      | (apply au; iterate 3 rfl) | (apply aj; iterate 3 rfl) | (apply eU; (iterate 3 rfl); (focus omega); (focus omega); iterate 2 rfl) | apply EL.nil
      | ((with_reducible apply EK.ah); apply EK.code) | (with_reducible first | apply EC.region | apply EK.aF))
    refine EK.again ⟨(i + 1, v'), hlt⟩ (by dsimp only; omega) ?_
    dsimp only
    rw [htk]
    simp only [Int.natCast_add]
    exact Le.kp
   ·
    have hie : i = l.length := by omega
    rw [show l.take i = l by rw [hie, List.take_length]]
    refine EC.le (Le.freeze (pre := []) rfl) ?_
    refine EC.le (Le.refine (t := 6) (d' := .sl 2 ((l.map sp).map dPr)) rfl (Rf.fact List.mem_cons_self rfl)) ?_
    simp only [List.nil_append]
    have hNd : ∀ gb, FnM 78 [.v (ptr gb), .sl 2 ((l.map sp).map dPr)] [bO gb []] (fun r os' => ∃ t : List Pr, t.length ≤ 0 + 200 * (l.map sp).length ∧ r = .val (bJ (bF 200 (l.map sp))) ∧ os' = [bO gb t]) := fun gb => JC (WE gb) 200 (l.map sp) ([] : List Pr) hne (fun z hz => by
     obtain ⟨w, hw, rfl⟩ := List.mem_map.1 hz
     have := iM hlg hw
     show (split w.1).length < 200
     rw [fA]
     omega) (fun z hz => by
     obtain ⟨w, hw, rfl⟩ := List.mem_map.1 hz
     have := iM hlg hw
     show (split w.1).length ≤ _
     rw [fA]
     omega) (by rw [List.length_map]; omega) (by rw [List.length_map]; show 0 + _ ≤ _; omega)
    have h2 := uK (bF 200 (l.map sp))
    repeat
     (first
      | (apply jD; rfl; rfl; rfl; intro gb; refine EL.le (Le.QG (d' := .tup [.sl 33 (([] : List Pr).map dNd), .v (.pointer none), .v (.bool false)]) (by apply Rf.tup; exact RL.cons Rf.sl0 (RL.cons Rf.same (RL.cons Rf.same RL.nil)))) ?_)
      | (apply au; iterate 3 rfl) | (apply aj; iterate 3 rfl) | (apply aA (b := false); (iterate 2 rfl); exact aG; iterate 2 rfl)
      | (apply aB; iterate 4 rfl) | (apply fE; iterate 7 rfl) | apply EL.nil | ((with_reducible apply EK.ah); apply EK.code) | (apply EC.cond_false; rfl)
      | (with_reducible first | apply EC.seq | apply EC.region | apply EC.exit | apply EK.aZ | apply EK.aH))
    refine fH (hNd gb) [] [_] rfl rfl (ak.refl _ _) (by intro _ _; simp [go_sem]) rfl rfl ?_
    rintro _ _ ⟨ns1, hn1, rfl, rfl⟩
    simp only [List.cons_append, List.nil_append]
    rw [List.length_map] at hn1
    have hpb : packed (bF 200 (l.map sp)) = none ∨ packed (bF 200 (l.map sp)) = some (pkB (bF 200 (l.map sp))) := by
     unfold pkB
     cases h : packed (bF 200 (l.map sp)) with
     | none => exact .inl rfl
     | some b => exact .inr rfl
    rcases hpb with hp | hp
    ·
     have h0 : pkB (bF 200 (l.map sp)) = [] := by unfold pkB; rw [hp]; rfl
     rw [hp] at h2
     rw [h0]
     unfold oW at h2
     dsimp only at h2
     repeat
      (first
       | (apply aJ (h2); rfl; exact ak.refl _ _; exact enA; iterate 2 rfl) | (apply au; iterate 3 rfl) | (apply aj; iterate 3 rfl)
       | (apply aS; iterate 4 rfl) | apply EL.nil | ((with_reducible apply EK.ah); apply EK.code) | (with_reducible first | apply EC.seq | apply EC.region))
     have hle := xK (bF 200 (l.map sp))
     refine fH (Qq gb ns1 [] (by omega) (by simp)) [] [_] rfl rfl RL.a (by intro _ _; simp [go_sem]) rfl rfl ?_
     rintro _ _ ⟨rfl, rfl⟩
     simp only [List.cons_append, List.nil_append]
     repeat
      (first
       | (apply aV; rfl; rfl; rfl; intro _) | (apply aO; rfl; (focus (repeat first | exact .z | apply aY.s | apply aN.s)); iterate 4 rfl) | apply EL.nil
       | ((with_reducible apply EK.ah); apply EK.code) | (with_reducible apply EC.seq))
     refine EC.le (Le.pick [2, 0, 1] [_, _, _] rfl (by decide) rfl) ?_
     refine EC.jm 8 [0, 1, 2, 3, 4, 6, 7] [5] [_] _ (by kernel_rfl) (by kernel_rfl) rfl ?_
     simp only [aQ, List.filterMap_cons, List.filterMap_nil, List.getElem?_cons_zero, List.getElem?_cons_succ]
     repeat
      (first
       | (apply aU; iterate 3 rfl) | (apply iE; iterate 3 rfl) | (apply bH; iterate 6 rfl) | (apply bT; rfl; exact I.a; iterate 4 rfl)
       | (apply eP; iterate 3 rfl))
     refine EM.nil ?_
     repeat (first | rw [List.cons_append] | rw [List.nil_append])
     refine CH.mut (os := [_]) (rest := []) rfl rfl (jl (lD rfl rfl rfl rfl rfl)) ?_
     rintro _ _ ⟨rfl, rfl⟩
     try simp only [St.put]
     repeat (first | rw [List.cons_append] | rw [List.nil_append])
     refine CH.nil ?_
     try simp only [List.drop_succ_cons, List.drop_zero]
     repeat
      (first
       | apply EL.nil | ((with_reducible apply EK.ah); apply EK.code) | (with_reducible apply EC.ret))
     refine EK.Di 0 [] rfl rfl rfl rfl rfl rfl (ak.refl _ _) (ak.refl _ _) (ak.refl _ _) (List.nil_sublist _) ⟨⟨_, rfl⟩, rfl⟩
    ·
     rw [hp] at h2
     unfold oW at h2
     dsimp only at h2
     repeat
      (first
       | (apply aJ (h2); rfl; exact ak.refl _ _; exact enA; iterate 2 rfl) | (apply au; iterate 3 rfl) | (apply aj; iterate 3 rfl)
       | (apply aS; iterate 4 rfl) | apply EL.nil | ((with_reducible apply EK.ah); apply EK.code) | (with_reducible first | apply EC.seq | apply EC.region))
     have hle := xK (bF 200 (l.map sp))
     refine fH (Qq gb ns1 (pkB (bF 200 (l.map sp))) (by omega) (by exact hle)) [] [_] rfl rfl RL.a (by intro _ _; simp [go_sem]) rfl rfl ?_
     rintro _ _ ⟨rfl, rfl⟩
     simp only [List.cons_append, List.nil_append]
     repeat
      (first
       | (apply aV; rfl; rfl; rfl; intro _) | (apply aO; rfl; (focus (repeat first | exact .z | apply aY.s | apply aN.s)); iterate 4 rfl) | apply EL.nil
       | ((with_reducible apply EK.ah); apply EK.code) | (with_reducible apply EC.seq))
     refine EC.le (Le.pick [2, 0, 1] [_, _, _] rfl (by decide) rfl) ?_
     refine EC.jm 8 [0, 1, 2, 3, 4, 6, 7] [5] [_] _ (by kernel_rfl) (by kernel_rfl) rfl ?_
     simp only [aQ, List.filterMap_cons, List.filterMap_nil, List.getElem?_cons_zero, List.getElem?_cons_succ]
     repeat
      (first
       | (apply aU; iterate 3 rfl) | (apply iE; iterate 3 rfl) | (apply bH; iterate 6 rfl) | (apply bT; rfl; exact I.a; iterate 4 rfl)
       | (apply eP; iterate 3 rfl))
     refine EM.nil ?_
     repeat (first | rw [List.cons_append] | rw [List.nil_append])
     refine CH.mut (os := [_]) (rest := []) rfl rfl (jl (lD rfl rfl rfl rfl rfl)) ?_
     rintro _ _ ⟨rfl, rfl⟩
     try simp only [St.put]
     repeat (first | rw [List.cons_append] | rw [List.nil_append])
     refine CH.nil ?_
     try simp only [List.drop_succ_cons, List.drop_zero]
     repeat
      (first
       | apply EL.nil | ((with_reducible apply EK.ah); apply EK.code) | (with_reducible apply EC.ret))
     refine EK.Di 0 [] rfl rfl rfl rfl rfl rfl (ak.refl _ _) (ak.refl _ _) (ak.refl _ _) (List.nil_sublist _) ⟨⟨_, rfl⟩, rfl⟩
 ·
  rw [if_pos he]
  have hne : (ig l : Int) ≠ 0 := by omega
  repeat
   (first
    | (apply aJ (hM); rfl; exact ak.refl _ _; exact enA; iterate 2 rfl) | (apply au; iterate 3 rfl) | (apply aj; iterate 3 rfl)
    | (apply aA (b := true); (iterate 2 rfl); exact aG; iterate 2 rfl) | (apply iD; iterate 5 rfl) | (apply aV; rfl; rfl; rfl; intro _)
    | (apply aO; rfl; (focus (repeat first | exact .z | apply aY.s | apply aN.s)); iterate 4 rfl) | apply EL.nil | ((with_reducible apply EK.ah); apply EK.code)
    | (apply EC.cond_true; rfl) | (with_reducible first | apply EC.seq | apply EC.region | apply EC.ret | apply EK.aI))
  refine EK.Di 0 [] rfl rfl rfl rfl rfl rfl ?_ ?_ ?_ (List.nil_sublist _) ⟨⟨[], rfl⟩, rfl⟩
  · (exact RL.a)
  · exact RL.cons Rf.sl0 RL.nil
  · (exact RL.a)
def gq (x : Pr) : D := .tup [.arr 32 x.1, .arr 32 x.2]
def slP (s : Pr) : Option Pr := if s.2 = zero32 then none else some (hash s.1, pkB (.mk false (strip s.2) []))
def spR (l : List Pr) : R := if (l.map (·.1)).Nodup then .tpl [.sl 2 ((l.filterMap slP).map dPr), .v (.int .i64 0)] else .tpl [.v (.slice none 0 0), .v (.int .i64 1)]
theorem yL {v : List UInt8} (h : v.length = 32) : packed (.mk false (strip v) []) = some (pkB (.mk false (strip v) [])) := by
 have := qR (x := .mk false (strip v) []) (by rw [dW]; omega) (by
  rw [Rlp.E]
  have := nS (strip v) (by have := iI v; omega)
  simp only [most]
  omega)
 unfold pkB
 rw [this]
 rfl
theorem GI (l : List Pr) (hs : ∀ s ∈ l, s.1.length = 32 ∧ s.2.length = 32) (hlen : l.length ≤ 1000000) : Fn 157 [.sl 64 (l.map gq)] (· = spR l) := by
 unfold spR
 have hl : (l.map gq).length = l.length := by rw [List.length_map]
 refine Fn.walk 48 Tryz.func157 rfl Tryz.ntmps157 (by simp) fun X => ?_
 repeat
  (first
   | (apply au; iterate 3 rfl) | (apply aj; iterate 3 rfl) | (apply aB; iterate 4 rfl) | (apply wz; rfl; rfl; rfl; intro _) | apply EL.nil
   | ((with_reducible apply EK.ah); apply EK.code) | (with_reducible first | apply EC.seq | apply EC.region | apply EC.block))
 rename_i gm
 refine EC.le (Le.row 69 2) ?_
 refine EC.loop (ι := {p : Value × Nat × Nat × List Ent // p.2.1 ≤ l.length ∧ ((l.take p.2.1).map (·.1)).Nodup ∧ ∀ k, iF p.2.2.2 k = if k ∈ (l.take p.2.1).map (·.1) then some (.v (.bool true)) else none})
  (fun p => ⟨[(14, .val (.v (.int .i64 (p.1.2.1 : Int)))), (13, .val (.v (.int .i64 ((l.map gq).length : Int)))), (12, .val (.sl 64 (l.map gq))), (5, .val (.v p.1.1)), (4, .val (.v (.map (some gm))))],
   [.row p.1.1 69 2 (((l.take p.1.2.1).filterMap slP).map dPr), .map gm 32 p.1.2.2.1 p.1.2.2.2], []⟩)
  (fun p => l.length - p.1.2.1) ⟨(.slice none 0 0, 0, 0, []), Nat.zero_le _, by simp, fun k => by simp [iF]⟩ ?_ ?_
 · exact Le.kp
 rintro ⟨⟨rv, n, c, es⟩, hn, hnd, hes⟩
 dsimp only at hn hnd hes ⊢
 by_cases hlt : n < l.length
 ·
  have hat : (l.map gq)[n]? = some (.tup [.arr 32 l[n].1, .arr 32 l[n].2]) := by rw [List.getElem?_map, List.getElem?_eq_getElem hlt]; rfl
  obtain ⟨hk, hv⟩ := hs _ (List.getElem_mem hlt)
  have hget := hes l[n].1
  by_cases hin : l[n].1 ∈ (l.take n).map (·.1)
  ·
   rw [if_pos hin] at hget
   have hg2 : (iF es l[n].1).getD (.v (.bool false)) = .v (.bool true) := by rw [hget]; rfl
   repeat
    (first
     | (apply l9; exact hg2; rfl; (first | exact I0 | exact I1 | exact I2 | exact I3); iterate 5 rfl) | (apply au; iterate 3 rfl) | (apply aj; iterate 3 rfl)
     | (apply dF; iterate 6 rfl) | (apply aK; iterate 5 rfl) | (apply dA; rfl; exact I.a; iterate 4 rfl)
     | (apply aA (b := true); (iterate 2 rfl); exact aG; iterate 2 rfl)
     | (apply aX; (iterate 4 rfl); (focus (first | exact ⟨by decide, rfl⟩ | (refine ⟨by omega, ?_⟩; rw [Int.toNat_natCast]; assumption))); iterate 2 rfl)
     | (apply aV; rfl; rfl; rfl; intro _) | (apply aO; rfl; (focus (repeat first | exact .z | apply aY.s | apply aN.s)); iterate 4 rfl) | apply EL.nil
     | ((with_reducible apply EK.ah); apply EK.code) | (apply EC.cond_true; rfl)
     | (with_reducible first | apply EC.seq | apply EC.region | apply EC.skip | apply EC.block | apply EC.ret | apply EK.dS | apply EK.aI))
   refine EK.rF rfl rfl rfl ?_
   rw [if_neg]
   intro h
   obtain ⟨j, hj, e⟩ := List.getElem_of_mem hin
   rw [List.length_map, List.length_take] at hj
   rw [List.getElem_map, List.getElem_take] at e
   have := (List.getElem_inj (h₀ := by rw [List.length_map]; omega) (h₁ := by rw [List.length_map]; exact hlt) h (i := j) (j := n)).1 (by simpa using e)
   omega
  ·
   rw [if_neg hin] at hget
   have hg2 : (iF es l[n].1).getD (.v (.bool false)) = .v (.bool false) := by rw [hget]; rfl
   have hnd2 : ((l.take (n + 1)).map (·.1)).Nodup := by
    rw [List.take_succ_eq_append_getElem hlt, List.map_append]
    refine List.nodup_append.2 ⟨hnd, by simp, fun a ha b hb e => ?_⟩
    obtain rfl : b = l[n].1 := by simpa using hb
    exact hin (e ▸ ha)
   have hes2 : ∀ k, iF (uf c es l[n].1 (.v (.bool true))) k = if k ∈ (l.take (n + 1)).map (·.1) then some (.v (.bool true)) else none := fun k => by
    rw [BI, hes k, List.take_succ_eq_append_getElem hlt, List.map_append]
    by_cases hk2 : l[n].1 = k
    · rw [if_pos hk2, if_pos (by rw [← hk2]; simp)]
    ·
     rw [if_neg hk2]
     by_cases hm : k ∈ (l.take n).map (·.1)
     · rw [if_pos hm, if_pos (List.mem_append_left _ hm)]
     ·
      rw [if_neg hm, if_neg fun h => ?_]
      rcases List.mem_append.1 h with h | h
      · exact hm h
      · exact hk2 (by simpa using h : k = l[n].1).symm
   have hb := (jd l[n].2 zero32).1
   by_cases hz : l[n].2 = zero32
   ·
    rw [show (l[n].2 == zero32) = true by simpa using hz] at hb
    repeat
     (first
      | (apply l9; exact hg2; rfl; (first | exact I0 | exact I1 | exact I2 | exact I3); (iterate 5 rfl); refine EL.le (Le.pin (p := 7) (pre := []) rfl rfl) ?_; simp only [List.nil_append])
      | (apply iU; (iterate 2 rfl); exact hb; iterate 2 rfl) | (apply au; iterate 3 rfl) | (apply dF; iterate 6 rfl) | (apply aP; iterate 7 rfl)
      | (apply aK; iterate 5 rfl) | (apply dA; rfl; exact I.a; iterate 4 rfl) | (apply aA (b := true); (iterate 2 rfl); exact aG; iterate 2 rfl)
      | (apply eU; (iterate 3 rfl); (focus omega); (focus omega); iterate 2 rfl)
      | (apply aX; (iterate 4 rfl); (focus (first | exact ⟨by decide, rfl⟩ | (refine ⟨by omega, ?_⟩; rw [Int.toNat_natCast]; assumption))); iterate 2 rfl)
      | (apply iD; iterate 5 rfl) | (apply qJ; rfl; (focus (repeat first | exact .z | apply aY.s | apply aN.s)); iterate 4 rfl)
      | (apply aV; rfl; rfl; rfl; intro _) | (apply aO; rfl; (focus (repeat first | exact .z | apply aY.s | apply aN.s)); iterate 4 rfl) | apply EL.nil
      | ((with_reducible apply EK.ah); apply EK.code) | (apply EC.cond_true; rfl) | (apply EC.cond_false; rfl)
      | (with_reducible first | apply EC.seq | apply EC.region | apply EC.skip | apply EC.block | apply EC.exit | apply EK.aZ | apply EK.aH))
    refine EK.again ⟨(rv, n + 1, rJ c es l[n].1, uf c es l[n].1 (.v (.bool true))), hlt, hnd2, hes2⟩ (by dsimp only; omega) ?_
    dsimp only
    rw [List.take_succ_eq_append_getElem hlt, List.filterMap_append, show [l[n]].filterMap slP = [] by simp [slP, hz], List.append_nil]
    simp only [Int.natCast_add]
    exact Le.kp
   ·
    rw [show (l[n].2 == zero32) = false by simpa using hz] at hb
    have h1 := qV l[n].1
    have h2 := TG l[n].2 hv
    have h3 := Jp (.mk false (strip l[n].2) [])
    rw [yL hv] at h3
    repeat
     (first
      | (apply l9; exact hg2; rfl; (first | exact I0 | exact I1 | exact I2 | exact I3); (iterate 5 rfl); refine EL.le (Le.pin (p := 7) (pre := []) rfl rfl) ?_; simp only [List.nil_append])
      | (apply iU; (iterate 2 rfl); exact hb; iterate 2 rfl) | (apply aJ (h1); rfl; exact ak.refl _ _; exact enA; iterate 2 rfl)
      | (apply aJ (h2); rfl; exact ak.refl _ _; exact enA; iterate 2 rfl) | (apply aJ (h3); rfl; exact ak.refl _ _; exact enA; iterate 2 rfl)
      | (apply lY jQ; iterate 6 rfl) | (apply au; iterate 3 rfl) | (apply aj; iterate 3 rfl) | (apply dF; iterate 6 rfl)
      | (apply aP; iterate 7 rfl) | (apply aS; iterate 4 rfl) | (apply aK; iterate 5 rfl) | (apply dA; rfl; exact I.a; iterate 4 rfl)
      | (apply aA (b := true); (iterate 2 rfl); exact aG; iterate 2 rfl)
      | (apply aX; (iterate 4 rfl); (focus (first | exact ⟨by decide, rfl⟩ | (refine ⟨by omega, ?_⟩; rw [Int.toNat_natCast]; assumption))); iterate 2 rfl)
      | (apply iD; iterate 5 rfl) | (apply jo; iterate 9 rfl) | (apply qJ; rfl; (focus (repeat first | exact .z | apply aY.s | apply aN.s)); iterate 4 rfl)
      | (apply aV; rfl; rfl; rfl; intro _) | (apply aO; rfl; (focus (repeat first | exact .z | apply aY.s | apply aN.s)); iterate 4 rfl) | apply EL.nil
      | ((with_reducible apply EK.ah); apply EK.code) | (apply EC.cond_true; rfl) | (apply EC.cond_false; rfl)
      | (with_reducible first | apply EC.seq | apply EC.region | apply EC.skip | apply EC.block))
    refine EL.le (Le.pin (p := 8) (pre := []) rfl rfl) ?_
    simp only [List.nil_append]
    have hfl : ((l.take n).filterMap slP).length ≤ 1000000 := Nat.le_trans (List.length_filterMap_le _ _) (by rw [List.length_take]; omega)
    repeat
     (first
      | (apply lY jQ; iterate 6 rfl) | (apply au; iterate 3 rfl) | (apply aj; iterate 3 rfl)
      | (apply eU; (iterate 3 rfl); (focus omega); (focus omega); iterate 2 rfl) | (apply fE; iterate 7 rfl) | (apply jo; iterate 9 rfl)
      | ((apply fJ; rfl; (focus (repeat first | exact .z | apply aY.s | apply aN.s)); (iterate 5 rfl); (focus (constructor <;> (first | (simp; done) | (simp; omega))))); intro _)
      | apply EL.nil | ((with_reducible apply EK.ah); apply EK.code) | (with_reducible first | apply EC.region | apply EK.aF))
    rename_i v'
    refine EK.again ⟨(v', n + 1, rJ c es l[n].1, uf c es l[n].1 (.v (.bool true))), hlt, hnd2, hes2⟩ (by dsimp only; omega) ?_
    dsimp only
    rw [List.take_succ_eq_append_getElem hlt, List.filterMap_append, show [l[n]].filterMap slP = [(hash l[n].1, pkB (.mk false (strip l[n].2) []))] by simp [slP, hz], List.map_append]
    simp only [Int.natCast_add]
    exact Le.kp
 ·
  obtain rfl : n = l.length := by omega
  rw [List.take_length] at hnd
  have htl : (l.take l.length).filterMap slP = l.filterMap slP := by rw [List.take_length]
  rw [htl]
  refine EC.le (Le.freeze (pre := []) rfl) ?_
  simp only [List.nil_append]
  repeat
   (first
    | (apply au; iterate 3 rfl) | (apply aj; iterate 3 rfl) | (apply aA (b := false); (iterate 2 rfl); exact aG; iterate 2 rfl) | apply EL.nil
    | ((with_reducible apply EK.ah); apply EK.code) | (apply EC.cond_false; rfl)
    | (with_reducible first | apply EC.seq | apply EC.region | apply EC.exit | apply EC.ret | apply EK.aZ | apply EK.aH))
  refine EK.JV rfl rfl rfl ?_ (by rw [if_pos hnd])
  (exact RL.a)
def pK (l : List Pr) : Nat := if (l.map (·.1)).Nodup then ig (l.filterMap slP) else 1
def iR (l : List Pr) : List UInt8 := if (l.map (·.1)).Nodup then kW (l.filterMap slP) else zero32
theorem Ig (t : Tn) : (sumT t).length = 32 := by
 unfold sumT
 split
 · exact dV _
 · exact dV _
theorem Dc (l : List Pr) : (kW l).length = 32 := by
 unfold kW
 split
 · exact Ig _
 · exact rG
theorem jw (l : List Pr) : (iR l).length = 32 := by
 unfold iR
 split
 · exact Dc _
 · exact rG
theorem SB (l : List Pr) (hs : ∀ s ∈ l, s.1.length = 32 ∧ s.2.length = 32) (hlen : l.length ≤ 1000000) : Fn 108 [.sl 64 (l.map gq)] (· = .tpl [.arr 32 (iR l), .v (.int .i64 (pK l : Int))]) := by
 have h1 := GI l hs hlen
 have h2 := PS (l.filterMap slP)
 unfold spR at h1
 unfold iR pK
 refine Fn.walk 19 Tryz.func108 rfl Tryz.ntmps108 (by simp) fun X => ?_
 by_cases hn : (l.map (·.1)).Nodup
 ·
  rw [if_pos hn] at h1
  rw [if_pos hn, if_pos hn]
  repeat
   (first
    | (apply aJ (h1); rfl; exact ak.refl _ _; exact enA; iterate 2 rfl) | (apply aJ (h2); rfl; exact ak.refl _ _; exact enA; iterate 2 rfl)
    | (apply au; iterate 3 rfl) | (apply aj; iterate 3 rfl) | (apply aS; iterate 4 rfl)
    | (apply aA (b := false); (iterate 2 rfl); exact aG; iterate 2 rfl) | (apply aV; rfl; rfl; rfl; intro _)
    | (apply aO; rfl; (focus (repeat first | exact .z | apply aY.s | apply aN.s)); iterate 4 rfl) | apply EL.nil | ((with_reducible apply EK.ah); apply EK.code)
    | (apply EC.cond_false; rfl) | (with_reducible first | apply EC.seq | apply EC.region | apply EC.skip | apply EC.ret))
  refine EK.ni 0 rfl rfl rfl rfl rfl ?_ rfl
  (exact RL.a)
 ·
  rw [if_neg hn] at h1
  rw [if_neg hn, if_neg hn]
  repeat
   (first
    | (apply aJ (h1); rfl; exact ak.refl _ _; exact enA; iterate 2 rfl) | (apply au; iterate 3 rfl) | (apply aj; iterate 3 rfl)
    | (apply aS; iterate 4 rfl) | (apply aA (b := true); (iterate 2 rfl); exact aG; iterate 2 rfl) | (apply iD; iterate 5 rfl)
    | (apply aV; rfl; rfl; rfl; intro _) | (apply aO; rfl; (focus (repeat first | exact .z | apply aY.s | apply aN.s)); iterate 4 rfl) | apply EL.nil
    | ((with_reducible apply EK.ah); apply EK.code) | (apply EC.cond_true; rfl) | (with_reducible first | apply EC.seq | apply EC.region | apply EC.ret | apply EK.aI))
  refine EK.ni 0 rfl rfl rfl rfl rfl ?_ rfl
  (exact RL.a)
theorem yu : qG 27 20 := ⟨fun w g o => by
 have hn : Tryz.prog.arrayLen 27 = 20 := by kernel_rfl
 have hs : (sizeOf (Tryz.prog.elem 27)).run Tryz.prog w = .ok 1 w := by kernel_rfl
 rw [run_sliceAt_array_all (P := Tryz.prog) w 27 ⟨g, o, none⟩ (by kernel_rfl), hs]
 simp [slicedAt, hn, dN, Result.andThen]⟩
structure Acc where
 a : List UInt8
 n : Int
 w : List UInt8
 cd : List UInt8
 sl : List Pr
structure Acc.ok (x : Acc) : Prop where
 a : x.a.length = 20
 n0 : -9223372036854775808 ≤ x.n
 n1 : x.n ≤ 9223372036854775807
 w : x.w.length = 32
 sl : ∀ s ∈ x.sl, s.1.length = 32 ∧ s.2.length = 32
 len : x.sl.length ≤ 1000000
def bM (x : Acc) : D := .tup [.arr 20 x.a, .v (.int .i64 x.n), .arr 32 x.w, .bs x.cd, .sl 64 (x.sl.map gq)]
def acP (x : Acc) : Pr := (hash x.a, Rlp.E (jL x.n x.w (iR x.sl) (hash x.cd)))
def acE (x : Acc) : Nat := if pK x.sl ≠ 0 then pK x.sl else if x.n < 0 then 1 else 0
def prE : List Acc → List (List UInt8) → Nat
 | [], _ => 0
 | x :: l, seen => if x.a ∈ seen then 1 else if acE x ≠ 0 then acE x else prE l (seen ++ [x.a])
def prR (l : List Acc) : R := if prE l [] = 0 then .tpl [.sl 2 ((l.map acP).map dPr), .v (.int .i64 0)] else .tpl [.v (.slice none 0 0), .v (.int .i64 (prE l [] : Int))]
theorem GZ (l : List Acc) (hok : ∀ x ∈ l, x.ok) (hlen : l.length ≤ 1000000) : Fn 66 [.sl 55 (l.map bM)] (· = prR l) := by
 unfold prR
 have hl : (l.map bM).length = l.length := by rw [List.length_map]
 refine Fn.walk 64 Tryz.func66 rfl Tryz.ntmps66 (by simp) fun X => ?_
 repeat
  (first
   | (apply au; iterate 3 rfl) | (apply aj; iterate 3 rfl) | (apply aB; iterate 4 rfl) | (apply wz; rfl; rfl; rfl; intro _) | apply EL.nil
   | ((with_reducible apply EK.ah); apply EK.code) | (with_reducible first | apply EC.seq | apply EC.region | apply EC.block))
 rename_i gm
 refine EC.le (Le.row 69 2) ?_
 refine EC.loop (ι := {p : Value × Nat × Nat × List Ent // p.2.1 ≤ l.length ∧ prE l [] = prE (l.drop p.2.1) ((l.take p.2.1).map (·.a)) ∧ ∀ k, iF p.2.2.2 k = if k ∈ (l.take p.2.1).map (·.a) then some (.v (.bool true)) else none})
  (fun p => ⟨[(15, .val (.v (.int .i64 (p.1.2.1 : Int)))), (14, .val (.v (.int .i64 ((l.map bM).length : Int)))), (13, .val (.sl 55 (l.map bM))), (5, .val (.v p.1.1)), (4, .val (.v (.map (some gm))))],
   [.row p.1.1 69 2 (((l.take p.1.2.1).map acP).map dPr), .map gm 20 p.1.2.2.1 p.1.2.2.2], []⟩)
  (fun p => l.length - p.1.2.1) ⟨(.slice none 0 0, 0, 0, []), Nat.zero_le _, by simp, fun k => by simp [iF]⟩ ?_ ?_
 · exact Le.kp
 rintro ⟨⟨rv, n, c, es⟩, hn, hI, hes⟩
 dsimp only at hn hI hes ⊢
 by_cases hlt : n < l.length
 ·
  have hat : (l.map bM)[n]? = some (.tup [.arr 20 l[n].a, .v (.int .i64 l[n].n), .arr 32 l[n].w, .bs l[n].cd, .sl 64 (l[n].sl.map gq)]) := by rw [List.getElem?_map, List.getElem?_eq_getElem hlt]; rfl
  have hx := hok _ (List.getElem_mem hlt)
  have hget := hes l[n].a
  rw [List.drop_eq_getElem_cons hlt, prE] at hI
  by_cases hin : l[n].a ∈ (l.take n).map (·.a)
  ·
   rw [if_pos hin] at hget hI
   have hg2 : (iF es l[n].a).getD (.v (.bool false)) = .v (.bool true) := by rw [hget]; rfl
   repeat
    (first
     | (apply l9; exact hg2; rfl; (first | exact I0 | exact I1 | exact I2 | exact I3); iterate 5 rfl) | (apply au; iterate 3 rfl) | (apply aj; iterate 3 rfl)
     | (apply dF; iterate 6 rfl) | (apply aK; iterate 5 rfl) | (apply dA; rfl; exact I.a; iterate 4 rfl)
     | (apply aA (b := true); (iterate 2 rfl); exact aG; iterate 2 rfl)
     | (apply aX; (iterate 4 rfl); (focus (first | exact ⟨by decide, rfl⟩ | (refine ⟨by omega, ?_⟩; rw [Int.toNat_natCast]; assumption))); iterate 2 rfl)
     | (apply aV; rfl; rfl; rfl; intro _) | (apply aO; rfl; (focus (repeat first | exact .z | apply aY.s | apply aN.s)); iterate 4 rfl) | apply EL.nil
     | ((with_reducible apply EK.ah); apply EK.code) | (apply EC.cond_true; rfl)
     | (with_reducible first | apply EC.seq | apply EC.region | apply EC.skip | apply EC.block | apply EC.ret | apply EK.dS | apply EK.aI))
   refine EK.rF rfl rfl rfl ?_
   rw [hI]
   rfl
  ·
   rw [if_neg hin] at hget hI
   have hg2 : (iF es l[n].a).getD (.v (.bool false)) = .v (.bool false) := by rw [hget]; rfl
   have hS := SB l[n].sl hx.sl hx.len
   by_cases hse : pK l[n].sl = 0
   ·
    rw [hse] at hS
    have hK := qV l[n].cd
    have hP := Jo l[n].n l[n].w (iR l[n].sl) (hash l[n].cd) hx.n0 hx.n1 hx.w (jw _) (dV _)
    unfold dBd Ce at hP
    by_cases hneg : l[n].n < 0
    ·
     have hae : acE l[n] = 1 := by unfold acE; rw [if_neg (by simp [hse]), if_pos hneg]
     rw [hae, if_pos (by decide)] at hI
     rw [if_pos hneg] at hP
     repeat
      (first
       | (apply l9; exact hg2; rfl; (first | exact I0 | exact I1 | exact I2 | exact I3); (iterate 5 rfl); refine EL.le (Le.pin (p := 7) (pre := []) rfl rfl) ?_; simp only [List.nil_append])
       | (apply aJ (hS); rfl; exact ak.refl _ _; exact enA; iterate 2 rfl) | (apply au; iterate 3 rfl) | (apply aj; iterate 3 rfl)
       | (apply dF; iterate 6 rfl) | (apply aP; iterate 7 rfl) | (apply aS; iterate 4 rfl) | (apply aK; iterate 5 rfl)
       | (apply dA; rfl; exact I.a; iterate 4 rfl) | (apply aA (b := true); (iterate 2 rfl); exact aG; iterate 2 rfl)
       | (apply aA (b := false); (iterate 2 rfl); exact aG; iterate 2 rfl)
       | (apply aX; (iterate 4 rfl); (focus (first | exact ⟨by decide, rfl⟩ | (refine ⟨by omega, ?_⟩; rw [Int.toNat_natCast]; assumption))); iterate 2 rfl)
       | (apply qJ; rfl; (focus (repeat first | exact .z | apply aY.s | apply aN.s)); iterate 4 rfl) | (apply aV; rfl; rfl; rfl; intro _)
       | (apply aO; rfl; (focus (repeat first | exact .z | apply aY.s | apply aN.s)); iterate 4 rfl) | apply EL.nil | ((with_reducible apply EK.ah); apply EK.code)
       | (apply EC.cond_true; rfl) | (apply EC.cond_false; rfl) | (with_reducible first | apply EC.seq | apply EC.region | apply EC.skip | apply EC.block))
     refine EC.draw 15 (by kernel_rfl) ?_
     simp only [List.take_succ_cons, List.take_zero, List.drop_succ_cons, List.drop_zero]
     repeat
      (first
       | (apply bP (hK); rfl; exact ak.refl _ _; exact enA; iterate 2 rfl) | (apply bP (hP); rfl; exact ak.refl _ _; exact enA; iterate 2 rfl)
       | (apply aU; iterate 3 rfl) | (apply iE; iterate 3 rfl) | (apply aW; iterate 7 rfl) | (apply rC; iterate 4 rfl)
       | (apply bG; iterate 5 rfl) | (apply bT; rfl; exact I.a; iterate 4 rfl) | (apply iL; iterate 7 rfl) | (apply kP; iterate 9 rfl)
       | ((with_reducible apply EH.nil); rfl))
     repeat
      (first
       | (apply au; iterate 3 rfl) | (apply aj; iterate 3 rfl) | (apply aA (b := true); (iterate 2 rfl); exact aG; iterate 2 rfl) | apply EL.nil
       | ((with_reducible apply EK.ah); apply EK.code) | (apply EC.cond_true; rfl) | (with_reducible first | apply EC.seq | apply EC.region | apply EC.ret | apply EK.dS | apply EK.aI))
     refine EK.rF rfl rfl rfl ?_
     rw [hI]
     rfl
    ·
     have hae : acE l[n] = 0 := by unfold acE; rw [if_neg (by simp [hse]), if_neg hneg]
     rw [hae, if_neg (by simp)] at hI
     rw [if_neg hneg] at hP
     have hA := qV l[n].a
     repeat
      (first
       | (apply l9; exact hg2; rfl; (first | exact I0 | exact I1 | exact I2 | exact I3); (iterate 5 rfl); refine EL.le (Le.pin (p := 7) (pre := []) rfl rfl) ?_; simp only [List.nil_append])
       | (apply aJ (hS); rfl; exact ak.refl _ _; exact enA; iterate 2 rfl) | (apply au; iterate 3 rfl) | (apply aj; iterate 3 rfl)
       | (apply dF; iterate 6 rfl) | (apply aP; iterate 7 rfl) | (apply aS; iterate 4 rfl) | (apply aK; iterate 5 rfl)
       | (apply dA; rfl; exact I.a; iterate 4 rfl) | (apply aA (b := true); (iterate 2 rfl); exact aG; iterate 2 rfl)
       | (apply aA (b := false); (iterate 2 rfl); exact aG; iterate 2 rfl)
       | (apply aX; (iterate 4 rfl); (focus (first | exact ⟨by decide, rfl⟩ | (refine ⟨by omega, ?_⟩; rw [Int.toNat_natCast]; assumption))); iterate 2 rfl)
       | (apply qJ; rfl; (focus (repeat first | exact .z | apply aY.s | apply aN.s)); iterate 4 rfl) | (apply aV; rfl; rfl; rfl; intro _)
       | (apply aO; rfl; (focus (repeat first | exact .z | apply aY.s | apply aN.s)); iterate 4 rfl) | apply EL.nil | ((with_reducible apply EK.ah); apply EK.code)
       | (apply EC.cond_true; rfl) | (apply EC.cond_false; rfl) | (with_reducible first | apply EC.seq | apply EC.region | apply EC.skip | apply EC.block))
     refine EC.draw 15 (by kernel_rfl) ?_
     simp only [List.take_succ_cons, List.take_zero, List.drop_succ_cons, List.drop_zero]
     repeat
      (first
       | (apply bP (hK); rfl; exact ak.refl _ _; exact enA; iterate 2 rfl) | (apply bP (hP); rfl; exact ak.refl _ _; exact enA; iterate 2 rfl)
       | (apply aU; iterate 3 rfl) | (apply iE; iterate 3 rfl) | (apply aW; iterate 7 rfl) | (apply rC; iterate 4 rfl)
       | (apply bG; iterate 5 rfl) | (apply bT; rfl; exact I.a; iterate 4 rfl) | (apply iL; iterate 7 rfl) | (apply kP; iterate 9 rfl)
       | ((with_reducible apply EH.nil); rfl))
     have hfl : ((l.take n).map acP).length ≤ 1000000 := by rw [List.length_map, List.length_take]; omega
     have hes2 : ∀ k, iF (uf c es l[n].a (.v (.bool true))) k = if k ∈ (l.take (n + 1)).map (·.a) then some (.v (.bool true)) else none := fun k => by
      rw [BI, hes k, List.take_succ_eq_append_getElem hlt, List.map_append]
      by_cases hk2 : l[n].a = k
      · rw [if_pos hk2, if_pos (by rw [← hk2]; simp)]
      ·
       rw [if_neg hk2]
       by_cases hm : k ∈ (l.take n).map (·.a)
       · rw [if_pos hm, if_pos (List.mem_append_left _ hm)]
       ·
        rw [if_neg hm, if_neg fun h => ?_]
        rcases List.mem_append.1 h with h | h
        · exact hm h
        · exact hk2 (by simpa using h : k = l[n].a).symm
     have hI2 : prE l [] = prE (l.drop (n + 1)) ((l.take (n + 1)).map (·.a)) := by
      rw [hI, List.take_succ_eq_append_getElem hlt, List.map_append]
      rfl
     repeat
      (first
       | (apply aJ (hA); rfl; exact ak.refl _ _; exact enA; iterate 2 rfl) | (apply lY yu; iterate 6 rfl) | (apply au; iterate 3 rfl)
       | (apply aj; iterate 3 rfl) | (apply aP; iterate 7 rfl) | (apply aA (b := false); (iterate 2 rfl); exact aG; iterate 2 rfl)
       | (apply jo; iterate 9 rfl) | (apply aV; rfl; rfl; rfl; intro _)
       | (apply aO; rfl; (focus (repeat first | exact .z | apply aY.s | apply aN.s)); iterate 4 rfl) | apply EL.nil | ((with_reducible apply EK.ah); apply EK.code)
       | (apply EC.cond_false; rfl) | (with_reducible first | apply EC.seq | apply EC.region | apply EC.skip))
     refine EL.le (Le.pin (p := 11) (pre := []) rfl rfl) ?_
     simp only [List.nil_append]
     repeat
      (first
       | (apply lY jQ; iterate 6 rfl) | (apply au; iterate 3 rfl) | (apply aj; iterate 3 rfl)
       | (apply eU; (iterate 3 rfl); (focus omega); (focus omega); iterate 2 rfl) | (apply fE; iterate 7 rfl) | (apply jo; iterate 9 rfl)
       | ((apply fJ; rfl; (focus (repeat first | exact .z | apply aY.s | apply aN.s)); (iterate 5 rfl); (focus (constructor <;> (first | (simp; done) | (simp; omega))))); intro _)
       | apply EL.nil | ((with_reducible apply EK.ah); apply EK.code) | (with_reducible first | apply EC.region | apply EK.aF))
     rename_i v'
     refine EK.again ⟨(v', n + 1, rJ c es l[n].a, uf c es l[n].a (.v (.bool true))), hlt, hI2, hes2⟩ (by dsimp only; omega) ?_
     dsimp only
     rw [List.take_succ_eq_append_getElem hlt, List.map_append, List.map_append]
     simp only [Int.natCast_add]
     exact Le.kp
   ·
    have hsi : (pK l[n].sl : Int) ≠ 0 := by omega
    have hae : acE l[n] = pK l[n].sl := by unfold acE; rw [if_pos hse]
    rw [hae, if_pos hse] at hI
    repeat
     (first
      | (apply l9; exact hg2; rfl; (first | exact I0 | exact I1 | exact I2 | exact I3); (iterate 5 rfl); refine EL.le (Le.pin (p := 7) (pre := []) rfl rfl) ?_; simp only [List.nil_append])
      | (apply aJ (hS); rfl; exact ak.refl _ _; exact enA; iterate 2 rfl) | (apply au; iterate 3 rfl) | (apply aj; iterate 3 rfl)
      | (apply dF; iterate 6 rfl) | (apply aP; iterate 7 rfl) | (apply aS; iterate 4 rfl) | (apply aK; iterate 5 rfl)
      | (apply dA; rfl; exact I.a; iterate 4 rfl) | (apply aA (b := true); (iterate 2 rfl); exact aG; iterate 2 rfl)
      | (apply aX; (iterate 4 rfl); (focus (first | exact ⟨by decide, rfl⟩ | (refine ⟨by omega, ?_⟩; rw [Int.toNat_natCast]; assumption))); iterate 2 rfl)
      | (apply qJ; rfl; (focus (repeat first | exact .z | apply aY.s | apply aN.s)); iterate 4 rfl) | (apply aV; rfl; rfl; rfl; intro _)
      | (apply aO; rfl; (focus (repeat first | exact .z | apply aY.s | apply aN.s)); iterate 4 rfl) | apply EL.nil | ((with_reducible apply EK.ah); apply EK.code)
      | (apply EC.cond_true; rfl) | (apply EC.cond_false; rfl)
      | (with_reducible first | apply EC.seq | apply EC.region | apply EC.skip | apply EC.block | apply EC.ret | apply EK.dS | apply EK.aI))
    refine EK.rF rfl rfl rfl ?_
    rw [hI, if_neg hse]
 ·
  obtain rfl : n = l.length := by omega
  rw [List.drop_eq_nil_of_le (Nat.le_refl _), prE] at hI
  have htl : (l.take l.length).map acP = l.map acP := by rw [List.take_length]
  rw [htl]
  refine EC.le (Le.freeze (pre := []) rfl) ?_
  simp only [List.nil_append]
  repeat
   (first
    | (apply au; iterate 3 rfl) | (apply aj; iterate 3 rfl) | (apply aA (b := false); (iterate 2 rfl); exact aG; iterate 2 rfl) | apply EL.nil
    | ((with_reducible apply EK.ah); apply EK.code) | (apply EC.cond_false; rfl)
    | (with_reducible first | apply EC.seq | apply EC.region | apply EC.exit | apply EC.ret | apply EK.aZ | apply EK.aH))
  refine EK.JV rfl rfl rfl ?_ (by rw [if_pos hI])
  (exact RL.a)
def jB (l : List Acc) : List UInt8 := if prE l [] = 0 then kW (l.map acP) else zero32
def Nk (l : List Acc) : Nat := if prE l [] = 0 then ig (l.map acP) else prE l []
theorem zA (l : List Acc) (hok : ∀ x ∈ l, x.ok) (hlen : l.length ≤ 1000000) : Fn 20 [.sl 55 (l.map bM)] (· = .tpl [.arr 32 (jB l), .v (.int .i64 (Nk l : Int))]) := by
 have h1 := GZ l hok hlen
 have h2 := PS (l.map acP)
 unfold prR at h1
 unfold jB Nk
 refine Fn.walk 19 Tryz.func20 rfl Tryz.ntmps20 (by simp) fun X => ?_
 by_cases hn : prE l [] = 0
 ·
  rw [if_pos hn] at h1
  rw [if_pos hn, if_pos hn]
  repeat
   (first
    | (apply aJ (h1); rfl; exact ak.refl _ _; exact enA; iterate 2 rfl) | (apply aJ (h2); rfl; exact ak.refl _ _; exact enA; iterate 2 rfl)
    | (apply au; iterate 3 rfl) | (apply aj; iterate 3 rfl) | (apply aS; iterate 4 rfl)
    | (apply aA (b := false); (iterate 2 rfl); exact aG; iterate 2 rfl) | (apply aV; rfl; rfl; rfl; intro _)
    | (apply aO; rfl; (focus (repeat first | exact .z | apply aY.s | apply aN.s)); iterate 4 rfl) | apply EL.nil | ((with_reducible apply EK.ah); apply EK.code)
    | (apply EC.cond_false; rfl) | (with_reducible first | apply EC.seq | apply EC.region | apply EC.skip | apply EC.ret))
  refine EK.ni 0 rfl rfl rfl rfl rfl ?_ rfl
  (exact RL.a)
 ·
  rw [if_neg hn] at h1
  rw [if_neg hn, if_neg hn]
  have hni : (prE l [] : Int) ≠ 0 := by omega
  repeat
   (first
    | (apply aJ (h1); rfl; exact ak.refl _ _; exact enA; iterate 2 rfl) | (apply au; iterate 3 rfl) | (apply aj; iterate 3 rfl)
    | (apply aS; iterate 4 rfl) | (apply aA (b := true); (iterate 2 rfl); exact aG; iterate 2 rfl) | (apply iD; iterate 5 rfl)
    | (apply aV; rfl; rfl; rfl; intro _) | (apply aO; rfl; (focus (repeat first | exact .z | apply aY.s | apply aN.s)); iterate 4 rfl) | apply EL.nil
    | ((with_reducible apply EK.ah); apply EK.code) | (apply EC.cond_true; rfl) | (with_reducible first | apply EC.seq | apply EC.region | apply EC.ret | apply EK.aI))
  refine EK.ni 0 rfl rfl rfl rfl rfl ?_ rfl
  (exact RL.a)
theorem EK.qN {N : Nat} {X : Cx N} {fn : Func} {Φ : R → List Obj → Prop} {S : St} {t u : Tmp} {d e d' e' : D} (os' : List Obj) (hres : fn.results = #[.tmp t, .tmp u]) (hl : look S.regs t = some (.val d)) (hk : look S.regs u = some (.val e)) (hR : ak S.facts [d, e] [d', e']) (ho : os'.Sublist S.objs) (hΦ : Φ (.tpl [d', e']) os') : EK X (bodyPost Tryz.prog fn (Eb X Φ) .ret) S := by
 refine EK.le (S' := ⟨S.regs, os', S.facts⟩) ?_ (EK.Uf hres hl hk hR hΦ)
 exact fun a w h => ⟨h.mem.less ho (fun f hf => hf), fun t r ht => bW.mono (fun b hb => uh ho hb) (fun _ _ => rfl) (h.regs t r ht), h.size, h.defers⟩
theorem Kw (l : List UInt8) (hl : l.length ≤ 1099511627776) : Fn 101 [.bs l] (· = .val (.bs (hash l))) := by
 have hK := nP l hl
 refine Fn.walk 7 Tryz.func101 rfl Tryz.ntmps101 (by simp) fun X => ?_
 repeat
  (first
   | (apply aJ (hK); rfl; exact ak.refl _ _; exact enA; iterate 2 rfl) | (apply au; iterate 3 rfl) | (apply aj; iterate 3 rfl)
   | (apply aV; rfl; rfl; rfl; intro _) | (apply aO; rfl; (focus (repeat first | exact .z | apply aY.s | apply aN.s)); iterate 4 rfl) | apply EL.nil
   | ((with_reducible apply EK.ah); apply EK.code) | (with_reducible first | apply EC.seq | apply EC.region))
 refine EL.le (Le.pin (p := 3) (pre := []) rfl rfl) ?_
 simp only [List.nil_append]
 repeat
  (first
   | (apply lY jQ; iterate 6 rfl) | (apply aj; iterate 3 rfl) | apply EL.nil | ((with_reducible apply EK.ah); apply EK.code) | (with_reducible apply EC.ret))
 exact EK.fV rfl rfl rfl
end E
end Go.Proofs.YtiledgojbpmoiaaGreat
