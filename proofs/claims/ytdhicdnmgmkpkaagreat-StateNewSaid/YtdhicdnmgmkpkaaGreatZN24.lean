/-
  Merged (wip/tools/merge.py): SU8, SU9, SE2, ST4, ST6, RT8.
  Conditions: none.
-/
import Derived.Test.YtdhicdnmgmkpkaaGreatZN23
import Derived.Test.YtdhicdnmgmkpkaaGreatZN20
import Derived.Test.YtdhicdnmgmkpkaaGreatZN21
import Derived.Test.YtdhicdnmgmkpkaaGreatZN12
/-
  The program's state: made of accounts.
  Conditions: none.
-/
namespace Go.Proofs.YtdhicdnmgmkpkaaGreat
set_option linter.unusedVariables false
open Go.RowKit Mono Rlp Wd Go.Sort
namespace E
def slF (sl : List (List UInt8 × List UInt8)) : List UInt8 → List UInt8 := sl.foldl (fun f p => fun k => if p.1 = k then p.2 else f k) fun _ => zero32
def AcL.take (x : AcL) : Ac := ⟨if x.n > 0 then x.n else 0, x.w, x.cd, slF x.sl⟩
def newA (l : List AcL) : As := l.foldl (fun A x => A.upd x.a x.take) fun _ => Ac.zero
theorem newA_snoc (l : List AcL) (x : AcL) : newA (l ++ [x]) = (newA l).upd x.a x.take := by unfold newA; rw [List.foldl_append]; rfl
theorem slF_snoc (l : List (List UInt8 × List UInt8)) (p : List UInt8 × List UInt8) : slF (l ++ [p]) = fun k => if p.1 = k then p.2 else slF l k := by unfold slF; rw [List.foldl_append]; rfl
structure SlIs (ss : List Ent) (f : List UInt8 → List UInt8) (N : Nat) : Prop where
  sl : ∀ k, slE ss k = .arr 32 (f k)
  ent : ∀ e ∈ ss, ∃ v, e.2.2 = .arr 32 v ∧ v ≠ zero32
  nod : (ss.map (·.2.1)).Nodup
  len : ss.length ≤ N
theorem SlIs.nil : SlIs [] (slF []) 0 := ⟨fun k => rfl, fun e he => by simp at he, List.nodup_nil, Nat.le_refl _⟩
theorem set_any {ga gs sc N : Nat} {b : Int} {w cd : List UInt8} {ss : List Ent} {f : List UInt8 → List UInt8} (h : SlIs ss f N) (q v : List UInt8) : FnM 60 [.v (ptr ga), .arr 32 q, .arr 32 v] [acO ga b w cd (.map (some gs)), .map gs 32 sc ss] (fun r os' => r = .tpl [] ∧ ∃ sc' ss', SlIs ss' (fun k => if q = k then v else f k) (N + 1) ∧ os' = [acO ga b w cd (.map (some gs)), .map gs 32 sc' ss']) := by
  by_cases hv : v = zero32
  · subst hv
    refine FnM.mono set_del ?_
    rintro r _ ⟨rfl, rfl⟩
    refine ⟨rfl, sc, _, ⟨fun k => ?_, fun e he => h.ent e ((delE_sub _ _).subset he), h.nod.sublist ((delE_sub _ _).map _), Nat.le_trans (delE_length _ _) (Nat.le_succ_of_le h.len)⟩, rfl⟩
    rw [slE_del _ _ _ h.nod, h.sl k]
    split <;> rfl
  · refine FnM.mono (set_put (by simpa using hv)) ?_
    rintro r _ ⟨rfl, rfl⟩
    refine ⟨rfl, _, _, ⟨fun k => ?_, fun e he => ?_, putE_nodup _ _ _ _ h.nod, Nat.le_trans (putE_length _ _ _ _) (Nat.succ_le_succ h.len)⟩, rfl⟩
    · rw [slE_put, h.sl k]
      split <;> rfl
    · rcases mem_putE _ _ _ _ _ he with he | he
      · exact h.ent e he
      · exact ⟨v, he, hv⟩
theorem EK.apart {N : Nat} {X : Cx N} {K : Act → World → Prop} {S : St} (h : Apart S.objs → EK X K S) : EK X K S := ⟨fun a w ha => (h ha.mem.apart).go a w ha⟩
set_option maxRecDepth 20000 in
set_option maxHeartbeats 16000000 in
theorem new0 (l : List AcL) (B : Nat) (hll : l.length ≤ 1000000) (hB : ∀ x ∈ l, x.sl.length ≤ B ∧ x.cd.length ≤ 140737488355328) (hB2 : B ≤ 1000000) : FnM 13 [.sl 55 (l.map dAcL)] [] (fun r os' => ∃ g, r = .val (.v (ptr g)) ∧ PSt g (newA l) (B + l.length) os') := by
  have hml : (l.map dAcL).length = l.length := List.length_map _
  refine FnM.walk 52 Tryz.func13 rfl Tryz.ntmps13 (by simp) fun X => ?_
  repeat
    (first
     | (apply P_move; (iterate 3 exact rfl)) | (apply P_assign; (iterate 3 exact rfl)) | (apply P_lensl; (iterate 4 exact rfl)) | (apply P_build; (iterate 7 exact rfl))
     | (apply P_makeMap; exact rfl; exact rfl; exact rfl; intro _) | (apply P_box; exact rfl; exact rfl; exact rfl; intro _) | apply EL.nil | ((with_reducible apply EK.then_normal); apply EK.code)
     | (with_reducible first | apply EC.seq | apply EC.region | apply EC.skip | apply EC.label | apply EC.block | apply EC.exit | apply EC.ret | apply EK.in_normal | apply EK.in_same | apply EK.in_ret | apply EK.then_ret | apply EK.then_exit))
  rename_i m g
  refine EC.loop (ι := {x : Nat × Nat × List Ent × List PA // x.1 ≤ l.length ∧ PInv x.2.2.1 x.2.2.2 (newA (l.take x.1)) (B + x.1)})
    (fun x => ⟨[(14, .val (.v (.int .i64 (x.1.1 : Int)))), (13, .val (.v (.int .i64 (l.map dAcL).length))), (12, .val (.sl 55 (l.map dAcL))), (3, .val (.v (ptr g)))], stO g m nilS nilS 0 :: smO m x.1.2.1 x.1.2.2.1 :: x.1.2.2.2.flatMap PA.os, []⟩)
    (fun x => l.length - x.1.1) ⟨(0, 0, [], []), Nat.zero_le _, ⟨fun a h => rfl, fun a d h => by simp [getE] at h, fun a b d h => by simp [getE] at h, List.nodup_nil, Nat.zero_le _⟩⟩ ?_ ?_
  · exact (Le.keep (by repeat first | exact trivial | refine ⟨rfl, ?_⟩) (by repeat first | exact List.Sublist.refl _ | apply List.Sublist.cons_cons | apply List.Sublist.cons) (by simp))
  rintro ⟨⟨i, c, es, ps⟩, hil, hi⟩
  dsimp only at hil hi ⊢
  by_cases hlt : i < l.length
  · have hd : (l.map dAcL)[i]? = some (dAcL l[i]) := by rw [List.getElem?_map, List.getElem?_eq_getElem hlt]; rfl
    have hBi := hB l[i] (List.getElem_mem hlt)
    have htk : l.take (i + 1) = l.take i ++ [l[i]] := List.take_succ_eq_append_getElem hlt
    generalize l[i] = x at hd hBi htk
    obtain ⟨xa, xn, xw, xc, xs⟩ := x
    unfold dAcL at hd
    dsimp only at hd hBi
    have hcl := f_Clone xc hBi.2
    repeat
      (first
       | (apply P_loadpd; (iterate 5 exact rfl)) | (apply P_cmp (b := true); (iterate 2 exact rfl); (focus (first | (simp [cmpI]; done) | (simp [cmpI]; omega))); (iterate 2 exact rfl))
       | (apply P_index; (iterate 4 exact rfl); (focus (first | exact ⟨by decide, rfl⟩ | (refine ⟨by omega, ?_⟩; rw [Int.toNat_natCast]; assumption))); (iterate 2 exact rfl))
       | (apply P_alloc; exact rfl; exact rfl; exact rfl; intro _) | (apply P_store; exact rfl; (focus (repeat first | exact .z | apply SetAt.s | apply SetAtF.s)); (iterate 4 exact rfl)) | apply EL.nil
       | ((with_reducible apply EK.then_normal); apply EK.code) | (apply EC.cond_true; exact rfl)
       | (with_reducible first | apply EC.seq | apply EC.region | apply EC.skip | apply EC.label | apply EC.block | apply EC.exit | apply EC.ret | apply EK.in_normal | apply EK.in_same | apply EK.in_ret | apply EK.then_ret | apply EK.then_exit))
    rename_i g5
    refine EC.drawC 11 [0, 1, 2, 3, 4, 5, 6, 7] [8, 9, 10] [] _ (by kernel_rfl) (by kernel_rfl) rfl ?_
    simp only [pickL, List.filterMap_cons, List.filterMap_nil, List.getElem?_cons_zero, List.getElem?_cons_succ]
    repeat
      (first
       | (apply H_call (hcl); exact rfl; (focus (repeat first | exact RefineL.refl _ _ | exact RL.nil | exact Rf.same | exact Rf.bs0 | exact Rf.sl0 | (apply Rf.fact; (focus (simp; done)); exact rfl) | apply Rf.tup | apply RL.cons)); (focus (intro _ _; simp [go_sem]; done)); (iterate 2 exact rfl))
       | (apply H_field; (iterate 6 exact rfl)) | (apply H_load; exact rfl; (first | exact I0 | exact I1 | exact I2 | exact I3 | exact I4 | exact I5 | exact I6); (iterate 4 exact rfl))
       | (apply H_max; (iterate 4 exact rfl)))
    refine EM.nil ?_
    repeat (first | rw [List.cons_append] | rw [List.nil_append])
    refine CH.mut (os := []) (rest := []) rfl rfl (m_makeMap rfl rfl) ?_
    rintro _ _ ⟨gs, rfl, rfl⟩
    try simp only [St.put]
    repeat (first | rw [List.cons_append] | rw [List.nil_append])
    refine CH.cut 1 ?_
    simp only [List.take_succ_cons, List.take_zero, List.drop_succ_cons, List.drop_zero]
    repeat
      (first
       | (apply H_build; (iterate 7 exact rfl)))
    refine EM.nil ?_
    repeat (first | rw [List.cons_append] | rw [List.nil_append])
    refine CH.mut (os := []) (rest := [_]) rfl rfl (m_box rfl rfl) ?_
    rintro _ _ ⟨gx, rfl, rfl⟩
    try simp only [St.put]
    repeat (first | rw [List.cons_append] | rw [List.nil_append])
    refine CH.nil ?_
    try simp only [List.drop_succ_cons, List.drop_zero]
    repeat
      (first
       | (apply P_move; (iterate 3 exact rfl)) | (apply P_assign; (iterate 3 exact rfl)) | (apply P_field; (iterate 6 exact rfl))
       | (apply P_load; exact rfl; (first | exact I0 | exact I1 | exact I2 | exact I3 | exact I4 | exact I5 | exact I6); (iterate 4 exact rfl)) | (apply P_lensl; (iterate 4 exact rfl)) | apply EL.nil
       | ((with_reducible apply EK.then_normal); apply EK.code)
       | (with_reducible first | apply EC.seq | apply EC.region | apply EC.skip | apply EC.label | apply EC.block | apply EC.exit | apply EC.ret | apply EK.in_normal | apply EK.in_same | apply EK.in_ret | apply EK.then_ret | apply EK.then_exit))
    have hmx : (xs.map dSlL).length = xs.length := List.length_map _
    refine EC.loop (ι := {x : Nat × Nat × List Ent // x.1 ≤ xs.length ∧ SlIs x.2.2 (slF (xs.take x.1)) x.1})
      (fun x => ⟨[(32, .val (.v (.int .i64 (x.1.1 : Int)))), (31, .val (.v (.int .i64 (xs.map dSlL).length))), (30, .val (.sl 64 (xs.map dSlL))), (14, .val (.v (.int .i64 (i : Int)))), (13, .val (.v (.int .i64 (l.map dAcL).length))), (12, .val (.sl 55 (l.map dAcL))), (6, .val (.v (ptr gx))), (5, .val (.v (ptr g5))), (3, .val (.v (ptr g)))], acO gx (if xn > 0 then xn else 0) xw xc (.map (some gs)) :: .map gs 32 x.1.2.1 x.1.2.2 :: .var g5 74 (.tup [.arr 20 xa, .v (.int .i64 xn), .arr 32 xw, .bs xc, .sl 64 (xs.map dSlL)]) :: stO g m nilS nilS 0 :: smO m c es :: ps.flatMap PA.os, []⟩)
      (fun x => xs.length - x.1.1) ⟨(0, 0, []), Nat.zero_le _, SlIs.nil⟩ ?_ ?_
    · exact (Le.keep (by repeat first | exact trivial | refine ⟨rfl, ?_⟩) (by repeat first | exact List.Sublist.refl _ | apply List.Sublist.cons_cons | apply List.Sublist.cons) (by simp))
    rintro ⟨⟨j, sc, ss⟩, hjl, hss⟩
    dsimp only at hjl hss ⊢
    by_cases hlj : j < xs.length
    · have hd2 : (xs.map dSlL)[j]? = some (dSlL xs[j]) := by rw [List.getElem?_map, List.getElem?_eq_getElem hlj]; rfl
      have htk2 : xs.take (j + 1) = xs.take j ++ [xs[j]] := List.take_succ_eq_append_getElem hlj
      generalize xs[j] = y at hd2 htk2
      obtain ⟨q, v⟩ := y
      unfold dSlL at hd2
      dsimp only at hd2
      have hset := set_any (ga := gx) (gs := gs) (sc := sc) (b := if xn > 0 then xn else 0) (w := xw) (cd := xc) hss q v
      repeat
        (first
         | (apply P_callAt hset [_] _ rfl rfl (RefineL.refl _ _) (by intro _ _; simp [go_sem]) rfl rfl; rintro _ _ ⟨rfl, sc', ss', hss', rfl⟩; simp only [List.cons_append, List.nil_append])
         | (apply P_move; (iterate 3 exact rfl)) | (apply P_field; (iterate 6 exact rfl)) | (apply P_loadpd; (iterate 5 exact rfl))
         | (apply P_load; exact rfl; (first | exact I0 | exact I1 | exact I2 | exact I3 | exact I4 | exact I5 | exact I6); (iterate 4 exact rfl))
         | (apply P_cmp (b := true); (iterate 2 exact rfl); (focus (first | (simp [cmpI]; done) | (simp [cmpI]; omega))); (iterate 2 exact rfl))
         | (apply P_ar; (iterate 3 exact rfl); (focus omega); (focus omega); (iterate 2 exact rfl))
         | (apply P_index; (iterate 4 exact rfl); (focus (first | exact ⟨by decide, rfl⟩ | (refine ⟨by omega, ?_⟩; rw [Int.toNat_natCast]; assumption))); (iterate 2 exact rfl))
         | (apply P_alloc; exact rfl; exact rfl; exact rfl; intro _) | (apply P_store; exact rfl; (focus (repeat first | exact .z | apply SetAt.s | apply SetAtF.s)); (iterate 4 exact rfl)) | apply EL.nil
         | ((with_reducible apply EK.then_normal); apply EK.code) | (apply EC.cond_true; exact rfl)
         | (with_reducible first | apply EC.seq | apply EC.region | apply EC.skip | apply EC.label | apply EC.block | apply EC.exit | apply EC.ret | apply EK.in_normal | apply EK.in_same | apply EK.in_ret | apply EK.then_ret | apply EK.then_exit))
      refine EK.again ⟨(j + 1, sc', ss'), hlj, by rw [htk2, slF_snoc]; exact hss'⟩ (by dsimp only; omega) ?_
      simp only [Int.natCast_add]
      exact (Le.keep (by repeat first | exact trivial | refine ⟨rfl, ?_⟩) (by repeat first | exact List.Sublist.refl _ | apply List.Sublist.cons_cons | apply List.Sublist.cons) (by simp))
    · have hjE : j = xs.length := by omega
      subst hjE
      rw [List.take_length] at hss
      repeat
        (first
         | (apply P_cmp (b := false); (iterate 2 exact rfl); (focus (first | (simp [cmpI]; done) | (simp [cmpI]; omega))); (iterate 2 exact rfl)) | apply EL.nil
         | ((with_reducible apply EK.then_normal); apply EK.code) | (apply EC.cond_false; exact rfl)
         | (with_reducible first | apply EC.seq | apply EC.region | apply EC.skip | apply EC.label | apply EC.block | apply EC.exit | apply EC.ret | apply EK.in_normal | apply EK.in_same | apply EK.in_ret | apply EK.then_ret | apply EK.then_exit))
      refine EC.draw 7 (by kernel_rfl) ?_
      simp only [List.take_succ_cons, List.take_zero, List.drop_succ_cons, List.drop_zero]
      repeat
        (first
         | (apply H_move; (iterate 3 exact rfl)) | (apply H_field; (iterate 6 exact rfl))
         | (apply H_load; exact rfl; (first | exact I0 | exact I1 | exact I2 | exact I3 | exact I4 | exact I5 | exact I6); (iterate 4 exact rfl)) | (apply H_nilck; (iterate 3 exact rfl))
         | ((with_reducible apply EH.nil); exact rfl))
      repeat
        (first
         | (apply P_move; (iterate 3 exact rfl)) | (apply P_ar; (iterate 3 exact rfl); (focus omega); (focus omega); (iterate 2 exact rfl))
         | (apply P_mapUpd; exact rfl; (focus (repeat first | exact .z | apply SetAt.s | apply SetAtF.s)); (iterate 4 exact rfl)) | apply EL.nil | ((with_reducible apply EK.then_normal); apply EK.code)
         | (with_reducible first | apply EC.seq | apply EC.region | apply EC.skip | apply EC.label | apply EC.block | apply EC.exit | apply EC.ret | apply EK.in_normal | apply EK.in_same | apply EK.in_ret | apply EK.then_ret | apply EK.then_exit))
      refine EK.le (Le.pickT [3, 4, 0, 1, 2] [_, _, _, _, _] [_, _, _, _, _] (_) rfl rfl (by decide) rfl) ?_
      try simp only [List.cons_append, List.nil_append]
      refine EK.apart fun hap => ?_
      have hnew : ∀ q ∈ ps, q.g ≠ gx := fun q hq e => by
        have hap' : Apart (stO g m nilS nilS 0 :: smO m (tickE c es xa) (putE c es xa (.v (ptr gx))) :: acO gx (if xn > 0 then xn else 0) xw xc (.map (some gs)) :: .map gs 32 sc ss :: .var g5 74 (.tup [.arr 20 xa, .v (.int .i64 xn), .arr 32 xw, .bs xc, .sl 64 (xs.map dSlL)]) :: ps.flatMap PA.os) := hap
        have h1 := (List.pairwise_cons.1 (List.pairwise_cons.1 (List.pairwise_cons.1 hap').2).2).1 (acO q.g q.n q.w q.cd (.map (some q.gs))) (List.mem_cons_of_mem _ (List.mem_cons_of_mem _ (List.mem_flatMap.2 ⟨q, hq, by simp [PA.os]⟩))) gx rfl
        exact h1 (by simp [Obj.blk, e])
      refine EK.again ⟨(i + 1, tickE c es xa, putE c es xa (.v (ptr gx)), ⟨gx, if xn > 0 then xn else 0, xw, xc, gs, sc, ss⟩ :: ps), hlt, ?_⟩ (by dsimp only; omega) ?_
      · rw [htk, newA_snoc]
        exact hi.fresh (a := xa) (p' := ⟨gx, if xn > 0 then xn else 0, xw, xc, gs, sc, ss⟩) (x := AcL.take ⟨xa, xn, xw, xc, xs⟩) (fun b => getE_putE c es xa b _) (putE_nodup _ _ _ _ hi.nod) (Nat.le_trans (putE_length _ _ _ _) (Nat.succ_le_succ hi.len)) ⟨rfl, rfl, rfl, hss.sl, hss.ent, hss.nod, by have := hss.len; dsimp only; omega, hBi.2⟩ hnew
      · simp only [Int.natCast_add, List.flatMap_cons, PA.os, List.cons_append, List.nil_append]
        exact (Le.keep (by repeat first | exact trivial | refine ⟨rfl, ?_⟩) (by repeat first | exact List.Sublist.refl _ | apply List.Sublist.cons_cons | apply List.Sublist.cons) (by simp))
  · have hiE : i = l.length := by omega
    subst hiE
    rw [List.take_length] at hi
    repeat
      (first
       | (apply P_move; (iterate 3 exact rfl)) | (apply P_assign; (iterate 3 exact rfl))
       | (apply P_cmp (b := false); (iterate 2 exact rfl); (focus (first | (simp [cmpI]; done) | (simp [cmpI]; omega))); (iterate 2 exact rfl)) | apply EL.nil
       | ((with_reducible apply EK.then_normal); apply EK.code) | (apply EC.cond_false; exact rfl)
       | (with_reducible first | apply EC.seq | apply EC.region | apply EC.skip | apply EC.label | apply EC.block | apply EC.exit | apply EC.ret | apply EK.in_normal | apply EK.in_same | apply EK.in_ret | apply EK.then_ret | apply EK.then_exit))
    refine EK.le (Le.row 128 1) ?_
    refine EK.le (Le.row 121 2) ?_
    refine EK.le (Le.pickT [2, 3, 1, 0] [_, _, _, _] [_, _, _, _] (_) rfl rfl (by decide) rfl) ?_
    try simp only [List.cons_append, List.nil_append]
    exact EK.retM1s (psO g m c es nilS nilS 0 [] ps) rfl rfl (List.Sublist.refl _) ⟨g, rfl, m, c, es, nilS, nilS, 0, [], ps, rfl, hi, by decide⟩
end E
end Go.Proofs.YtdhicdnmgmkpkaaGreat
/-
  The program's snap.Apply: changes of accounts.
  Conditions: none.
-/
namespace Go.Proofs.YtdhicdnmgmkpkaaGreat
set_option linter.unusedVariables false
open Go.RowKit Mono Rlp Wd Go.Sort
namespace E
section
variable {N : Nat} {X : Cx N} {ops : Array Oper} {Q : Exit → Act → World → Prop}
theorem P_callT {l' : List Oper} {t ty f : Nat} {pos : String} {af : Array Edge} {gd : Option (Nat × Bool)} {args : Array Operand} {tys : Array TypeId} {ds ds' : List D} {Φ : R → List Obj → Prop} {rs : List (Tmp × R)} {os os0 : List Obj} {fs : List (Value × D)} (hF : FnM f ds' os Φ) (l1 : List Obj) (hos : os0 = l1 ++ os)
    (hx : evs (⟨rs, l1, fs⟩ : St) args.toList = some ds) (hR : RefineL fs ds ds') (hf : Enters f) (hg : guardOf ops ⟨rs, os ++ l1, fs⟩ ⟨some t, .call { callee := .value (.func f), args := args, argTypes := tys }, ty, pos, af, gd⟩ = some true) (hN : Nat.blt t N = true) (k : ∀ r os', Φ r os' → EL X ops Q l' ⟨(t, r) :: rs, l1 ++ os', fs⟩) : EL X ops Q (⟨some t, .call { callee := .value (.func f), args := args, argTypes := tys }, ty, pos, af, gd⟩ :: l') ⟨rs, os0, fs⟩ := by
  subst hos
  exact EL.le (Le.perm List.perm_append_comm) (P_callM hF rfl hx hR hf hg hN fun r os' h => EL.le (Le.perm List.perm_append_comm) (k r os' h))
end
theorem PA.Is.mono {p : PA} {x : Ac} {N M : Nat} (h : p.Is x N) (hm : N ≤ M) : p.Is x M := ⟨h.n, h.w, h.cd, h.sl, h.ent, h.nod, Nat.le_trans h.len hm, h.cl⟩
theorem PSt.mono {g N M : Nat} {A : As} {os : List Obj} (h : PSt g A N os) (hm : N ≤ M) : PSt g A M os := by
  obtain ⟨m, c, es, u, k, n, us, ps, h1, hi, hu⟩ := h
  exact ⟨m, c, es, u, k, n, us, ps, h1, ⟨hi.out, fun a d h => by obtain ⟨p, h1, h2, h3⟩ := hi.inn a d h; exact ⟨p, h1, h2, h3.mono hm⟩, hi.inj, hi.nod, Nat.le_trans hi.len hm⟩, hu⟩
structure ChL where
  a : List UInt8
  gone : Bool
  n : Int
  w : List UInt8
  cd : List UInt8
  sl : List (List UInt8 × List UInt8)
def ChL.base (c : ChL) (A : As) : As :=
  let A1 := if c.gone = true then A.upd c.a Ac.zero else A
  let A2 := A1.upd c.a {A1 c.a with n := if c.n > 0 then c.n else 0}
  let A3 := A2.upd c.a {A2 c.a with w := c.w}
  A3.upd c.a {A3 c.a with cd := c.cd}
def slots1 (a : List UInt8) (sl : List (List UInt8 × List UInt8)) (A : As) : As := sl.foldl (fun A p => A.upd a ((A a).slot p.1 p.2)) A
def ChL.of (c : ChL) (A : As) : As := slots1 c.a c.sl (c.base A)
theorem slots1_snoc (a : List UInt8) (sl : List (List UInt8 × List UInt8)) (p : List UInt8 × List UInt8) (A : As) : slots1 a (sl ++ [p]) A = (slots1 a sl A).upd a ((slots1 a sl A a).slot p.1 p.2) := by unfold slots1; rw [List.foldl_append]; rfl
end E
end Go.Proofs.YtdhicdnmgmkpkaaGreat
/-
  The state: Exists, and the root of one without accounts.
  Conditions: none.
-/
namespace Go.Proofs.YtdhicdnmgmkpkaaGreat
set_option linter.unusedVariables false
open Go.RowKit Mono Rlp Wd
namespace E
end E
end Go.Proofs.YtdhicdnmgmkpkaaGreat
/-
  The state: Mark, Back$1, slices.IndexFunc of marks, back and Back of one nonce.
  Conditions: none.
-/
namespace Go.Proofs.YtdhicdnmgmkpkaaGreat
set_option linter.unusedVariables false
open Go.RowKit Mono Rlp Wd
namespace E
section
variable {g m c ga gs T g3 : Nat} {u k : Value} {n : Int} {es : List Ent} {a w cd : List UInt8} {us ks : List D} {d : D} {b : Int} {sv : Value}
abbrev mkD (x : Int × Int) : D := .tup [.v (.int .i64 x.1), .v (.int .i64 x.2)]
set_option maxRecDepth 20000 in
set_option maxHeartbeats 4000000 in
theorem mark_ (h0 : 0 ≤ n) (h1 : n < 4611686018427387904) (hk : ks.length < 1099511627776) : FnM 15 [.v (ptr g)] [stO g m u k n, unO u us, mkO k ks] (fun r os' => r = .val (.v (.int .i64 (n + 1))) ∧ ∃ k', os' = [stO g m u k' (n + 1), unO u us, mkO k' (ks ++ [mkD (n + 1, us.length)])]) := by
  refine FnM.walk 33 Tryz.func15 rfl Tryz.ntmps15 (by simp) fun X => ?_
  repeat
    (first
     | (apply P_move; (iterate 3 exact rfl)) | (apply P_assign; (iterate 3 exact rfl)) | (apply P_field; (iterate 6 exact rfl))
     | (apply P_load; exact rfl; (first | exact I0 | exact I1 | exact I2 | exact I3 | exact I4 | exact I5 | exact I6); (iterate 4 exact rfl))
     | (apply P_ar; (iterate 3 exact rfl); (focus omega); (focus omega); (iterate 2 exact rfl)) | (apply P_nilck; (iterate 3 exact rfl))
     | (apply P_store; exact rfl; (focus (repeat first | exact .z | apply SetAt.s | apply SetAtF.s)); (iterate 4 exact rfl)) | apply EL.nil | ((with_reducible apply EK.then_normal); apply EK.code)
     | (with_reducible first | apply EC.seq | apply EC.region | apply EC.skip | apply EC.label | apply EC.block | apply EC.exit | apply EC.ret | apply EK.in_normal | apply EK.in_same | apply EK.in_ret | apply EK.then_ret | apply EK.then_exit))
  refine EC.le (Le.pick [2, 0, 1] [_, _, _] rfl (by decide) rfl) ?_
  refine EC.drawC 17 [0, 1, 2, 3, 4, 5, 6, 7, 8, 9, 10, 11, 12, 13, 14, 15] [16] [_] _ (by kernel_rfl) (by kernel_rfl) rfl ?_
  simp only [pickL, List.filterMap_cons, List.filterMap_nil, List.getElem?_cons_zero, List.getElem?_cons_succ]
  repeat
    (first
     | (apply H_move; (iterate 3 exact rfl)) | (apply H_field; (iterate 6 exact rfl))
     | (apply H_load; exact rfl; (first | exact I0 | exact I1 | exact I2 | exact I3 | exact I4 | exact I5 | exact I6); (iterate 4 exact rfl))
     | (apply H_lenrow; exact rfl; (first | exact I0 | exact I1 | exact I2 | exact I3 | exact I4 | exact I5 | exact I6); (iterate 3 exact rfl)) | (apply H_build; (iterate 7 exact rfl))
     | (apply H_lit; (iterate 9 exact rfl)) | (apply H_nilck; (iterate 3 exact rfl)))
  refine EM.nil ?_
  repeat (first | rw [List.cons_append] | rw [List.nil_append])
  refine CH.mut (os := [_]) (rest := []) rfl rfl (m_append rfl rfl rfl rfl rfl ⟨by simp; omega, by simp; omega⟩) ?_
  rintro _ _ ⟨k', rfl, rfl⟩
  try simp only [St.put]
  repeat (first | rw [List.cons_append] | rw [List.nil_append])
  refine CH.nil ?_
  try simp only [List.drop_succ_cons, List.drop_zero]
  repeat
    (first
     | (apply P_move; (iterate 3 exact rfl)) | (apply P_assign; (iterate 3 exact rfl)) | (apply P_field; (iterate 6 exact rfl))
     | (apply P_load; exact rfl; (first | exact I0 | exact I1 | exact I2 | exact I3 | exact I4 | exact I5 | exact I6); (iterate 4 exact rfl)) | (apply P_nilck; (iterate 3 exact rfl))
     | (apply P_store; exact rfl; (focus (repeat first | exact .z | apply SetAt.s | apply SetAtF.s)); (iterate 4 exact rfl)) | apply EL.nil | ((with_reducible apply EK.then_normal); apply EK.code)
     | (with_reducible first | apply EC.seq | apply EC.region | apply EC.skip | apply EC.label | apply EC.block | apply EC.exit | apply EC.ret | apply EK.in_normal | apply EK.in_same | apply EK.in_ret | apply EK.then_ret | apply EK.then_exit))
  refine EK.le (Le.pick [1, 2, 0] [_, _, _] rfl (by decide) rfl) ?_
  exact EK.retM1s [stO g m u k' (n + 1), unO u us, mkO k' (ks ++ [mkD (n + 1, us.length)])] rfl rfl (by (repeat first | exact List.nil_sublist _ | apply List.Sublist.cons_cons | apply List.Sublist.cons)) ⟨rfl, k', rfl⟩
set_option maxRecDepth 20000 in
set_option maxHeartbeats 4000000 in
theorem back1 (x : Int × Int) (n0 : Int) : FnM 72 ([mkD x] ++ [.v (ptr g3)]) [.var g3 3 (.v (.int .i64 n0))] (fun r os' => r = .val (.v (.bool (decide (x.1 = n0)))) ∧ os' = [.var g3 3 (.v (.int .i64 n0))]) := by
  refine FnM.walk 8 Tryz.func72 rfl Tryz.ntmps72 (by simp) fun X => ?_
  repeat
    (first
     | (apply P_assign; (iterate 3 exact rfl)) | (apply P_field; (iterate 6 exact rfl))
     | (apply P_load; exact rfl; (first | exact I0 | exact I1 | exact I2 | exact I3 | exact I4 | exact I5 | exact I6); (iterate 4 exact rfl)) | (apply P_cmp; (iterate 5 exact rfl))
     | (apply P_box; exact rfl; exact rfl; exact rfl; intro _) | apply EL.nil | ((with_reducible apply EK.then_normal); apply EK.code)
     | (with_reducible first | apply EC.seq | apply EC.region | apply EC.skip | apply EC.label | apply EC.block | apply EC.exit | apply EC.ret | apply EK.in_normal | apply EK.in_same | apply EK.in_ret | apply EK.then_ret | apply EK.then_exit))
  exact EK.retM1s [.var g3 3 (.v (.int .i64 n0))] rfl rfl (by (repeat first | exact List.nil_sublist _ | apply List.Sublist.cons_cons | apply List.Sublist.cons)) ⟨rfl, rfl⟩
set_option maxRecDepth 20000 in
set_option maxHeartbeats 4000000 in
theorem index_one (x : Int × Int) : FnM 71 [.v k, .v (.func (.func 72) #[] #[ptr g3])] [.var g3 3 (.v (.int .i64 x.1)), mkO k [mkD x]] (fun r os' => r = .val (.v (.int .i64 0)) ∧ os' = [.var g3 3 (.v (.int .i64 x.1)), mkO k [mkD x]]) := by
  have h1 := back1 (g3 := g3) x x.1
  rw [show decide (x.1 = x.1) = true by simp] at h1
  refine FnM.walk 19 Tryz.func71 rfl Tryz.ntmps71 (by simp) fun X => ?_
  repeat
    (first
     | (apply P_move; (iterate 3 exact rfl)) | (apply P_assign; (iterate 3 exact rfl))
     | (apply P_lenrow; exact rfl; (first | exact I0 | exact I1 | exact I2 | exact I3 | exact I4 | exact I5 | exact I6); (iterate 3 exact rfl)) | apply EL.nil
     | ((with_reducible apply EK.then_normal); apply EK.code)
     | (with_reducible first | apply EC.seq | apply EC.region | apply EC.skip | apply EC.label | apply EC.block | apply EC.exit | apply EC.ret | apply EK.in_normal | apply EK.in_same | apply EK.in_ret | apply EK.then_ret | apply EK.then_exit))
  refine EC.loopN 2 (EK.round ?_)
  repeat
    (first
     | (apply P_rowload (k := 0) (off := 0) (d := mkD x); exact rfl; exact I1; exact ⟨rfl, rfl⟩; (iterate 4 exact rfl))
     | (apply P_callMV (caps := [ptr g3]) h1; (exact fun base ok L a w _ => caps_v (caps := [ptr g3]) (by simp [Value.oneCell'])); (iterate 3 exact rfl); exact RefineL.refl _ _; (focus (intro _ _; simp [go_sem]; done)); (iterate 2 exact rfl); rintro _ _ ⟨rfl, rfl⟩)
     | (apply P_move; (iterate 3 exact rfl)) | (apply P_assign; (iterate 3 exact rfl))
     | (apply P_cmp (b := true); (iterate 2 exact rfl); (focus (first | (simp [cmpI]; done) | (simp [cmpI]; omega))); (iterate 2 exact rfl))
     | (apply P_rowidx; exact rfl; (first | exact I0 | exact I1 | exact I2 | exact I3 | exact I4 | exact I5 | exact I6); (iterate 2 exact rfl); (focus (first | assumption | omega | (constructor <;> (first | (simp; done) | (simp; omega))))); (iterate 2 exact rfl))
     | apply EL.nil | ((with_reducible apply EK.then_normal); apply EK.code) | (apply EC.cond_true; exact rfl)
     | (with_reducible first | apply EC.seq | apply EC.region | apply EC.skip | apply EC.label | apply EC.block | apply EC.exit | apply EC.ret | apply EK.in_normal | apply EK.in_same | apply EK.in_ret | apply EK.then_ret | apply EK.then_exit))
  exact EK.retM1s [.var g3 3 (.v (.int .i64 x.1)), mkO k [mkD x]] rfl rfl (by (repeat first | exact List.nil_sublist _ | apply List.Sublist.cons_cons | apply List.Sublist.cons)) ⟨rfl, rfl⟩
set_option maxRecDepth 20000 in
set_option maxHeartbeats 4000000 in
theorem back_N {b0 : Int} (h : getE es a = some (.v (ptr ga))) : FnM 73 [.v (ptr g), wasN a b0] [stO g m u k n, smO m c es, acO ga b w cd sv] (fun r os' => r = .tpl [] ∧ os' = [stO g m u k n, smO m c es, acO ga b0 w cd sv]) := by
  have hg : (getE es a).getD (.v (.pointer none)) = .v (ptr ga) := by rw [h]; rfl
  refine FnM.walk 87 Tryz.func73 rfl Tryz.ntmps73 (by simp) fun X => ?_
  repeat
    (first
     | (apply P_move; (iterate 3 exact rfl)) | (apply P_extract; (iterate 4 exact rfl)) | (apply P_asYes; (iterate 4 exact rfl)) | (apply P_alloc; exact rfl; exact rfl; exact rfl; intro _)
     | (apply P_store; exact rfl; (focus (repeat first | exact .z | apply SetAt.s | apply SetAtF.s)); (iterate 4 exact rfl)) | apply EL.nil | ((with_reducible apply EK.then_normal); apply EK.code)
     | (apply EC.cond_true; exact rfl)
     | (with_reducible first | apply EC.seq | apply EC.region | apply EC.skip | apply EC.label | apply EC.block | apply EC.exit | apply EC.ret | apply EK.in_normal | apply EK.in_same | apply EK.in_ret | apply EK.then_ret | apply EK.then_exit))
  refine EC.draw 9 (by kernel_rfl) ?_
  simp only [List.take_succ_cons, List.take_zero, List.drop_succ_cons, List.drop_zero]
  repeat
    (first
     | (apply H_lookup; exact hg; exact rfl; (first | exact I0 | exact I1 | exact I2); (iterate 5 exact rfl)) | (apply H_move; (iterate 3 exact rfl)) | (apply H_field; (iterate 6 exact rfl))
     | (apply H_load; exact rfl; (first | exact I0 | exact I1 | exact I2 | exact I3 | exact I4 | exact I5 | exact I6); (iterate 4 exact rfl)) | (apply H_nilck; (iterate 3 exact rfl))
     | ((with_reducible apply EH.nil); exact rfl))
  repeat
    (first
     | (apply P_field; (iterate 6 exact rfl)) | (apply P_nilck; (iterate 3 exact rfl)) | (apply P_store; exact rfl; (focus (repeat first | exact .z | apply SetAt.s | apply SetAtF.s)); (iterate 4 exact rfl))
     | apply EL.nil
     | (with_reducible first | apply EC.seq | apply EC.region | apply EC.skip | apply EC.label | apply EC.block | apply EC.exit | apply EC.ret | apply EK.in_normal | apply EK.in_same | apply EK.in_ret | apply EK.then_ret | apply EK.then_exit))
  exact EK.retM0n [stO g m u k n, smO m c es, acO ga b0 w cd sv] rfl (by (repeat first | exact List.nil_sublist _ | apply List.Sublist.cons_cons | apply List.Sublist.cons)) ⟨rfl, rfl⟩
set_option maxRecDepth 20000 in
set_option maxHeartbeats 4000000 in
theorem back_one {b0 n0 : Int} (h : getE es a = some (.v (ptr ga))) : FnM 19 [.v (ptr g), .v (.int .i64 n0)] [stO g m u k n, smO m c es, unO u [wasN a b0], mkO k [mkD (n0, 0)], acO ga b w cd sv] (fun r os' => r = .val (.v (.bool true)) ∧ ∃ u' k', os' = [stO g m u' k' n, smO m c es, unO u' [], mkO k' [], acO ga b0 w cd sv]) := by
  have h1 := fun g3 => index_one (k := k) (g3 := g3) (n0, 0)
  have h2 := back_N (g := g) (m := m) (c := c) (u := u) (k := k) (n := n) (b := b) (b0 := b0) (w := w) (cd := cd) (sv := sv) h
  have hl1 : ([wasN a b0] : List D).length = 1 := rfl
  refine FnM.walk 64 Tryz.func19 rfl Tryz.ntmps19 (by simp) fun X => ?_
  repeat
    (first
     | (apply P_move; (iterate 3 exact rfl)) | (apply P_assign; (iterate 3 exact rfl)) | (apply P_field; (iterate 6 exact rfl))
     | (apply P_load; exact rfl; (first | exact I0 | exact I1 | exact I2 | exact I3 | exact I4 | exact I5 | exact I6); (iterate 4 exact rfl)) | (apply P_nilck; (iterate 3 exact rfl))
     | (apply P_mkfunc; (iterate 3 exact rfl)) | (apply P_box; exact rfl; exact rfl; exact rfl; intro _) | apply EL.nil | ((with_reducible apply EK.then_normal); apply EK.code)
     | (with_reducible first | apply EC.seq | apply EC.region | apply EC.skip | apply EC.label | apply EC.block | apply EC.exit | apply EC.ret | apply EK.in_normal | apply EK.in_same | apply EK.in_ret | apply EK.then_ret | apply EK.then_exit))
  rename_i g3
  refine EL.le (Le.pick [0, 4, 1, 2, 3, 5] [_, _, _, _, _, _] rfl (by decide) rfl) ?_
  repeat
    (first
     | ((apply P_callMD (h1 g3); (iterate 2 exact rfl); (focus (repeat first | exact RefineL.refl _ _ | exact RL.nil | exact Rf.same | exact Rf.bs0 | exact Rf.sl0 | (apply Rf.fact; (focus (simp; done)); exact rfl) | apply Rf.tup | apply RL.cons)); (focus (intro _ _; simp [go_sem]; done)); (iterate 2 exact rfl)))
     | (apply P_rowload (k := 0) (off := 1) (d := mkD (n0, 0)); exact rfl; (first | exact I1 | exact I2 | exact I3); exact ⟨rfl, rfl⟩; (iterate 4 exact rfl)) | (apply P_move; (iterate 3 exact rfl))
     | (apply P_assign; (iterate 3 exact rfl)) | (apply P_field; (iterate 6 exact rfl))
     | (apply P_load; exact rfl; (first | exact I0 | exact I1 | exact I2 | exact I3 | exact I4 | exact I5 | exact I6); (iterate 4 exact rfl))
     | (apply P_cmp (b := false); (iterate 2 exact rfl); (focus (first | (simp [cmpI]; done) | (simp [cmpI]; omega))); (iterate 2 exact rfl)) | (apply P_nilck; (iterate 3 exact rfl))
     | (apply P_rowfield; exact rfl; (first | exact I0 | exact I1 | exact I2 | exact I3 | exact I4 | exact I5 | exact I6); (focus (first | omega | (simp; done) | (simp; omega))); (iterate 5 exact rfl))
     | (apply P_rowidx; exact rfl; (first | exact I0 | exact I1 | exact I2 | exact I3 | exact I4 | exact I5 | exact I6); (iterate 2 exact rfl); (focus (first | assumption | omega | (constructor <;> (first | (simp; done) | (simp; omega))))); (iterate 2 exact rfl))
     | apply EL.nil | ((with_reducible apply EK.then_normal); apply EK.code) | (apply EC.cond_false; exact rfl)
     | (with_reducible first | apply EC.seq | apply EC.region | apply EC.skip | apply EC.label | apply EC.block | apply EC.exit | apply EC.ret | apply EK.in_normal | apply EK.in_same | apply EK.in_ret | apply EK.then_ret | apply EK.then_exit))
  refine EC.le (Le.pick [2, 3, 5, 4, 1, 0] [_, _, _, _, _, _] rfl (by decide) rfl) ?_
  refine EC.loopN 2 (EK.round ?_)
  repeat
    (first
     | ((apply P_callMD (h2); (iterate 2 exact rfl); (focus (repeat first | exact RefineL.refl _ _ | exact RL.nil | exact Rf.same | exact Rf.bs0 | exact Rf.sl0 | (apply Rf.fact; (focus (simp; done)); exact rfl) | apply Rf.tup | apply RL.cons)); (focus (intro _ _; simp [go_sem]; done)); (iterate 2 exact rfl)))
     | (apply P_rowidx; exact rfl; (first | exact I3 | exact I4); (iterate 2 exact rfl); exact ⟨by simp, by simp⟩; (iterate 2 exact rfl))
     | (apply P_rowload (k := 0) (off := 0) (d := wasN a b0); exact rfl; (first | exact I3 | exact I4); exact ⟨rfl, rfl⟩; (iterate 4 exact rfl))
     | (apply P_rowcut; exact rfl; (first | exact I3 | exact I4); (iterate 2 exact rfl); exact ⟨by simp, by simp⟩; (iterate 2 exact rfl)) | (apply P_move; (iterate 3 exact rfl))
     | (apply P_assign; (iterate 3 exact rfl)) | (apply P_field; (iterate 6 exact rfl))
     | (apply P_load; exact rfl; (first | exact I0 | exact I1 | exact I2 | exact I3 | exact I4 | exact I5 | exact I6); (iterate 4 exact rfl))
     | (apply P_cmp (b := true); (iterate 2 exact rfl); (focus (first | (simp [cmpI]; done) | (simp [cmpI]; omega))); (iterate 2 exact rfl))
     | (apply P_ar; (iterate 3 exact rfl); (focus omega); (focus omega); (iterate 2 exact rfl))
     | (apply P_lenrow; exact rfl; (first | exact I0 | exact I1 | exact I2 | exact I3 | exact I4 | exact I5 | exact I6); (iterate 3 exact rfl)) | (apply P_nilck; (iterate 3 exact rfl))
     | (apply P_store; exact rfl; (focus (repeat first | exact .z | apply SetAt.s | apply SetAtF.s)); (iterate 4 exact rfl)) | ((with_reducible apply EK.then_normal); apply EK.round) | apply EL.nil
     | ((with_reducible apply EK.then_normal); apply EK.code) | (apply EC.cond_true; exact rfl)
     | (with_reducible first | apply EC.seq | apply EC.region | apply EC.skip | apply EC.label | apply EC.block | apply EC.exit | apply EC.ret | apply EK.in_normal | apply EK.in_same | apply EK.in_ret | apply EK.then_ret | apply EK.then_exit))
  refine EL.le (Le.cutRow (k := 0) (v := u) (ds := [wasN a b0]) (Nat.zero_le _) (.s (.s (.s .z)))) ?_
  repeat
    (first
     | (apply P_rowcut; exact rfl; (first | exact I3 | exact I4); (iterate 2 exact rfl); exact ⟨by simp, by simp⟩; (iterate 2 exact rfl)) | (apply P_move; (iterate 3 exact rfl))
     | (apply P_assign; (iterate 3 exact rfl)) | (apply P_field; (iterate 6 exact rfl))
     | (apply P_load; exact rfl; (first | exact I0 | exact I1 | exact I2 | exact I3 | exact I4 | exact I5 | exact I6); (iterate 4 exact rfl))
     | (apply P_cmp (b := false); (iterate 2 exact rfl); (focus (first | (simp [cmpI]; done) | (simp [cmpI]; omega))); (iterate 2 exact rfl))
     | (apply P_lenrow; exact rfl; (first | exact I0 | exact I1 | exact I2 | exact I3 | exact I4 | exact I5 | exact I6); (iterate 3 exact rfl)) | (apply P_nilck; (iterate 3 exact rfl))
     | (apply P_store; exact rfl; (focus (repeat first | exact .z | apply SetAt.s | apply SetAtF.s)); (iterate 4 exact rfl)) | apply EL.nil | ((with_reducible apply EK.then_normal); apply EK.code)
     | (apply EC.cond_false; exact rfl)
     | (with_reducible first | apply EC.seq | apply EC.region | apply EC.skip | apply EC.label | apply EC.block | apply EC.exit | apply EC.ret | apply EK.in_normal | apply EK.in_same | apply EK.in_ret | apply EK.then_ret | apply EK.then_exit))
  trace_state
  refine EK.le (Le.cutRow (k := 0) (v := k) (ds := [mkD (n0, 0)]) (Nat.zero_le _) (.s (.s (.s (.s .z))))) ?_
  refine EK.le (Le.pick [0, 1, 3, 4, 2, 5] [_, _, _, _, _, _] rfl (by decide) rfl) ?_
  exact EK.retM1s [stO g m (cutV u 0) (cutV k 0) n, smO m c es, unO (cutV u 0) [], mkO (cutV k 0) [], acO ga b0 w cd sv] rfl rfl (by (repeat first | exact List.nil_sublist _ | apply List.Sublist.cons_cons | apply List.Sublist.cons)) ⟨rfl, _, _, rfl⟩
end
end E
end Go.Proofs.YtdhicdnmgmkpkaaGreat
/-
  The state: New of nothing; the law's 'alive'.
  Conditions: none.
-/
namespace Go.Proofs.YtdhicdnmgmkpkaaGreat
set_option linter.unusedVariables false
open Go.RowKit Mono Rlp Wd
namespace E
set_option maxRecDepth 20000 in
set_option maxHeartbeats 4000000 in
theorem new_nil : FnM 13 [.v nilS] [] (fun r os' => ∃ g m, r = .val (.v (ptr g)) ∧ os' = [stO g m nilS nilS 0, smO m 0 [], unO nilS [], mkO nilS []]) := by
  refine FnM.walk 52 Tryz.func13 rfl Tryz.ntmps13 (by simp) fun X => ?_
  repeat
    (first
     | (apply P_move; (iterate 3 exact rfl)) | (apply P_assign; (iterate 3 exact rfl)) | (apply P_lenv; (iterate 4 exact rfl)) | (apply P_build; (iterate 7 exact rfl))
     | (apply P_makeMap; exact rfl; exact rfl; exact rfl; intro _) | (apply P_box; exact rfl; exact rfl; exact rfl; intro _) | apply EL.nil | ((with_reducible apply EK.then_normal); apply EK.code)
     | (with_reducible first | apply EC.seq | apply EC.region | apply EC.skip | apply EC.label | apply EC.block | apply EC.exit | apply EC.ret | apply EK.in_normal | apply EK.in_same | apply EK.in_ret | apply EK.then_ret | apply EK.then_exit))
  refine EC.loopN 1 (EK.round ?_)
  repeat
    (first
     | (apply P_move; (iterate 3 exact rfl)) | (apply P_assign; (iterate 3 exact rfl))
     | (apply P_cmp (b := false); (iterate 2 exact rfl); (focus (first | (simp [cmpI]; done) | (simp [cmpI]; omega))); (iterate 2 exact rfl)) | apply EL.nil
     | ((with_reducible apply EK.then_normal); apply EK.code) | (apply EC.cond_false; exact rfl)
     | (with_reducible first | apply EC.seq | apply EC.region | apply EC.skip | apply EC.label | apply EC.block | apply EC.exit | apply EC.ret | apply EK.in_normal | apply EK.in_same | apply EK.in_ret | apply EK.then_ret | apply EK.then_exit))
  rename_i m g
  refine EK.le (Le.row 121 2) ?_
  refine EK.le (Le.row 128 1) ?_
  refine EK.le (Le.pick [2, 3, 0, 1] [_, _, _, _] rfl (by decide) rfl) ?_
  exact EK.retM1s [stO g m nilS nilS 0, smO m 0 [], unO nilS [], mkO nilS []] rfl rfl (by (repeat first | exact List.nil_sublist _ | apply List.Sublist.cons_cons | apply List.Sublist.cons)) ⟨g, m, rfl, rfl⟩
set_option maxRecDepth 20000 in
set_option maxHeartbeats 4000000 in
theorem alive_ : FnM 11 [] [] (fun r os' => r = .val (.v (.bool true)) ∧ os' = []) := by
  have h1 := new_nil
  refine FnM.walk 30 Tryz.func11 rfl Tryz.ntmps11 (by simp) fun X => ?_
  repeat
    (first
     | (apply P_callM (os := []) h1; (iterate 2 exact rfl); exact RefineL.refl _ _; (focus (intro _ _; simp [go_sem]; done)); (iterate 2 exact rfl); rintro _ _ ⟨g, m, rfl, rfl⟩)
     | (apply P_move; (iterate 3 exact rfl)) | (apply P_assign; (iterate 3 exact rfl)) | apply EL.nil | ((with_reducible apply EK.then_normal); apply EK.code)
     | (with_reducible first | apply EC.seq | apply EC.region | apply EC.skip | apply EC.label | apply EC.block | apply EC.exit | apply EC.ret | apply EK.in_normal | apply EK.in_same | apply EK.in_ret | apply EK.then_ret | apply EK.then_exit))
  repeat
    (first
     | (apply P_bin; (iterate 2 exact rfl); exact (bin_nil (T := 26) rfl (some ⟨g, 0, none⟩)).1; (iterate 2 exact rfl)) | (apply P_move; (iterate 3 exact rfl)) | apply EL.nil
     | ((with_reducible apply EK.then_normal); apply EK.code) | (apply EC.cond_false; exact rfl)
     | (with_reducible first | apply EC.seq | apply EC.region | apply EC.skip | apply EC.label | apply EC.block | apply EC.exit | apply EC.ret | apply EK.in_normal | apply EK.in_same | apply EK.in_ret | apply EK.then_ret | apply EK.then_exit))
  refine EL.le (Le.pick [0, 2, 3, 1] [_, _, _, _] rfl (by decide) rfl) ?_
  repeat
    (first
     | (apply P_callM (mark_ (g := g) (m := m) (u := nilS) (k := nilS) (n := 0) (us := []) (ks := []) (by decide) (by decide) (by decide)); (iterate 2 exact rfl); exact RefineL.refl _ _; (focus (intro _ _; simp [go_sem]; done)); (iterate 2 exact rfl); rintro _ _ ⟨rfl, k1, rfl⟩)
     | (apply P_move; (iterate 3 exact rfl)) | (apply P_assign; (iterate 3 exact rfl)) | (apply P_build0; (iterate 5 exact rfl)) | apply EL.nil | ((with_reducible apply EK.then_normal); apply EK.code)
     | (with_reducible first | apply EC.seq | apply EC.region | apply EC.skip | apply EC.label | apply EC.block | apply EC.exit | apply EC.ret | apply EK.in_normal | apply EK.in_same | apply EK.in_ret | apply EK.then_ret | apply EK.then_exit))
  refine EL.le (Le.pick [0, 3, 1, 2] [_, _, _, _] rfl (by decide) rfl) ?_
  repeat
    (first
     | (apply P_callM (setNonce_out (g := g) (m := m) (c := 0) (u := nilS) (k := k1) (n := 0 + 1) (es := []) (a := List.replicate 20 0) (us := []) (ks := [mkD (0 + 1, 0)]) (n' := 5) rfl (by decide)); (iterate 2 exact rfl); exact RefineL.refl _ _; (focus (intro _ _; simp [go_sem]; done)); (iterate 2 exact rfl); rintro _ _ ⟨rfl, u1, ga, gs, rfl⟩)
     | (apply P_move; (iterate 3 exact rfl)) | (apply P_build0; (iterate 5 exact rfl)) | apply EL.nil | ((with_reducible apply EK.then_normal); apply EK.code)
     | (with_reducible first | apply EC.seq | apply EC.region | apply EC.skip | apply EC.label | apply EC.block | apply EC.exit | apply EC.ret | apply EK.in_normal | apply EK.in_same | apply EK.in_ret | apply EK.then_ret | apply EK.then_exit))
  have hin : getE (putE 0 [] (List.replicate 20 0) (.v (ptr ga))) (List.replicate 20 0) = some (.v (ptr ga)) := by rw [getE_putE, if_pos rfl]
  refine EL.le (Le.pick [0, 1, 4, 2, 3, 5] [_, _, _, _, _, _] rfl (by decide) rfl) ?_
  repeat
    (first
     | (apply P_callM (nonce_in (g := g) (m := m) (u := u1) (k := k1) (n := 0 + 1) (b := 5) (w := zero32) (cd := []) (sv := .map (some gs)) hin); (iterate 2 exact rfl); exact RefineL.refl _ _; (focus (intro _ _; simp [go_sem]; done)); (iterate 2 exact rfl); rintro _ _ ⟨rfl, rfl⟩)
     | (apply P_move; (iterate 3 exact rfl)) | (apply P_assign; (iterate 3 exact rfl)) | apply EL.nil | ((with_reducible apply EK.then_normal); apply EK.code)
     | (with_reducible first | apply EC.seq | apply EC.region | apply EC.skip | apply EC.label | apply EC.block | apply EC.exit | apply EC.ret | apply EK.in_normal | apply EK.in_same | apply EK.in_ret | apply EK.then_ret | apply EK.then_exit))
  refine EL.le (Le.pick [0, 1, 3, 4, 2, 5] [_, _, _, _, _, _] rfl (by decide) rfl) ?_
  repeat
    (first
     | (apply P_callM (back_one (g := g) (m := m) (u := u1) (k := k1) (n := 0 + 1) (b := 5) (b0 := 0) (n0 := 0 + 1) (w := zero32) (cd := []) (sv := .map (some gs)) hin); (iterate 2 exact rfl); exact RefineL.refl _ _; (focus (intro _ _; simp [go_sem]; done)); (iterate 2 exact rfl); rintro _ _ ⟨rfl, u2, k2, rfl⟩)
     | (apply P_move; (iterate 3 exact rfl)) | (apply P_assign; (iterate 3 exact rfl)) | (apply P_pick; (iterate 4 exact rfl))
     | (apply P_cmp (b := true); (iterate 2 exact rfl); (focus (first | (simp [cmpI]; done) | (simp [cmpI]; omega))); (iterate 2 exact rfl)) | (apply P_build0; (iterate 5 exact rfl)) | apply EL.nil
     | ((with_reducible apply EK.then_normal); apply EK.code)
     | (with_reducible first | apply EC.seq | apply EC.region | apply EC.skip | apply EC.label | apply EC.block | apply EC.exit | apply EC.ret | apply EK.in_normal | apply EK.in_same | apply EK.in_ret | apply EK.then_ret | apply EK.then_exit))
  refine EL.le (Le.pick [0, 1, 4, 2, 3, 5] [_, _, _, _, _, _] rfl (by decide) rfl) ?_
  repeat
    (first
     | (apply P_callM (nonce_in (g := g) (m := m) (u := u2) (k := k2) (n := 0 + 1) (b := 0) (w := zero32) (cd := []) (sv := .map (some gs)) hin); (iterate 2 exact rfl); exact RefineL.refl _ _; (focus (intro _ _; simp [go_sem]; done)); (iterate 2 exact rfl); rintro _ _ ⟨rfl, rfl⟩)
     | (apply P_assign; (iterate 3 exact rfl)) | (apply P_pick; (iterate 4 exact rfl))
     | (apply P_cmp (b := true); (iterate 2 exact rfl); (focus (first | (simp [cmpI]; done) | (simp [cmpI]; omega))); (iterate 2 exact rfl)) | apply EL.nil
     | ((with_reducible apply EK.then_normal); apply EK.code)
     | (with_reducible first | apply EC.seq | apply EC.region | apply EC.skip | apply EC.label | apply EC.block | apply EC.exit | apply EC.ret | apply EK.in_normal | apply EK.in_same | apply EK.in_ret | apply EK.then_ret | apply EK.then_exit))
  exact EK.retM1s [] rfl rfl (List.nil_sublist _) ⟨rfl, rfl⟩
end E
end Go.Proofs.YtdhicdnmgmkpkaaGreat
/-
  The reference's SameAccount, SameAccounts: of one account, of one list.
  Conditions: none.
-/
namespace Go.Proofs.YtdhicdnmgmkpkaaGreat
set_option linter.unusedVariables false
open Go.RowKit Mono Rlp Wd
namespace E
def slC1 (p : List UInt8 × List UInt8) : List Value := bvs p.1 ++ bvs p.2
def slOk1 (p : List UInt8 × List UInt8) : Prop := p.1.length = 32 ∧ p.2.length = 32
theorem slot1_of {ok : Nat → Prop} {w : World} {s : List UInt8 × List UInt8} {v : Value} (h : ReadV ok w (dSlL s) v) : v = .agg (slC1 s).toArray ∧ slOk1 s := by
  obtain ⟨cs, h', rfl⟩ := (readV_agg rfl).1 h
  unfold dSlL at h'
  rw [Reads, ReadsL] at h'
  obtain ⟨c1, c2, rfl, h1, h2⟩ := h'
  rw [ReadsL] at h2
  obtain ⟨c3, c4, rfl, h3, h4⟩ := h2
  rw [ReadsL] at h4
  rw [Reads] at h1 h3
  rw [h1.2, h3.2, h4, List.append_nil]
  exact ⟨rfl, h1.1, h3.1⟩
theorem eq_slot1 (w : World) (s : List UInt8 × List UInt8) (hs : slOk1 s) : (Op.equalIn 10000 103 (.agg (slC1 s).toArray) (.agg (slC1 s).toArray)).run Tryz.prog w = .ok true w := by
  rw [show (10000 : Nat) = 9999 + 1 from rfl, run_equalIn_struct w 9999 103 _ _ (by kernel_rfl) (by kernel_rfl)]
  simp only [Program.fieldsOf, Tryz.underlying103]
  have hp : ∀ (x : List UInt8 × List UInt8) (o : Nat) (l : List UInt8), slOk1 x → (o = 0 ∧ l = x.1 ∨ o = 32 ∧ l = x.2) → ∀ w, (part 34 (slC1 x).toArray o).run Tryz.prog w = .ok (arrV l) w := by
    intro x o l hx ho w
    have h1 : (part 34 (slC1 x).toArray o).run Tryz.prog w = .ok (.agg ((slC1 x).toArray.extract o (o + 32))) w := by
      kernel_rfl
    rw [h1]
    have hk : (slC1 x).toArray.extract o (o + 32) = (bvs l).toArray := by
      apply Array.ext'
      rw [Array.toList_extract]
      unfold slC1
      rcases ho with ⟨rfl, rfl⟩ | ⟨rfl, rfl⟩
      · rw [List.extract_eq_take_drop, List.drop_zero, List.take_left' (by rw [bvs_length, hx.1])]
      · rw [List.extract_eq_take_drop, List.drop_left' (by rw [bvs_length, hx.1]), List.take_of_length_le (by rw [bvs_length, hx.2]; decide)]
    rw [hk]
    rfl
  have hW := fun w l hl => eq_arr' (T := 34) (n := 32) 9997 Tryz.underlying34 Tryz.underlying5 (fun w => by kernel_rfl) w l l hl hl
  simp only [Op.eqFields, ne_eq, String.reduceEq, not_false_eq_true, if_true, Sem.run_bind, hp s 0 s.1 hs (.inl ⟨rfl, rfl⟩), Result.andThen_ok, hW _ _ hs.1, beq_self_eq_true]
  simp [hW _ _ hs.2, Sem.run_bind, hp s 32 s.2 hs (.inr ⟨rfl, rfl⟩)]
theorem bin_slot1 (s : List UInt8 × List UInt8) : Bin .neq 103 (dSlL s) (dSlL s) (.bool false) := by
  refine ⟨rfl, fun ok w p q hp hq => ?_⟩
  obtain ⟨rfl, h1⟩ := slot1_of hp
  obtain ⟨rfl, h2⟩ := slot1_of hq
  refine ⟨fun x y => run_eqGuard_agg w _ _ _ _ _ _ (by kernel_rfl), ?_⟩
  rw [run_neq_struct, eq_slot1 w s h1]
  rfl
set_option maxRecDepth 20000 in
set_option maxHeartbeats 8000000 in
theorem f_sameAccount (x : AcL) (hx : x.sl.length ≤ 1099511627776) : Fn 38 [dAcL x, dAcL x] (· = .val (.v (.bool true))) := by
  obtain ⟨a1, a2, a3, a4, a5⟩ := x
  unfold dAcL
  dsimp only at hx ⊢
  have h1 := (bin_addr a1 a1).2
  have h3 := (bin_word a3 a3).2
  have h4 := (bin_string a4 a4).2
  rw [bne_self_eq_false] at h1 h3 h4
  have hl : (a5.map dSlL).length = a5.length := List.length_map _
  refine Fn.walk 61 Tryz.func38 rfl Tryz.ntmps38 (by simp) fun X => ?_
  repeat
    (first
     | (apply P_bin; (iterate 2 exact rfl); exact h1; (iterate 2 exact rfl)) | (apply P_bin; (iterate 2 exact rfl); exact h3; (iterate 2 exact rfl))
     | (apply P_bin; (iterate 2 exact rfl); exact h4; (iterate 2 exact rfl)) | (apply P_move; (iterate 3 exact rfl)) | (apply P_assign; (iterate 3 exact rfl)) | (apply P_field; (iterate 6 exact rfl))
     | (apply P_pick; (iterate 4 exact rfl)) | (apply P_load; exact rfl; (first | exact I0 | exact I1 | exact I2 | exact I3 | exact I4 | exact I5 | exact I6); (iterate 4 exact rfl))
     | (apply P_cmp (b := false); (iterate 2 exact rfl); (focus (first | (simp [cmpI]; done) | (simp [cmpI]; omega))); (iterate 2 exact rfl)) | (apply P_lensl; (iterate 4 exact rfl))
     | (apply P_str; (iterate 3 exact rfl)) | (apply P_box; exact rfl; exact rfl; exact rfl; intro _) | apply EL.nil | ((with_reducible apply EK.then_normal); apply EK.code)
     | (apply EC.cond_false; exact rfl)
     | (with_reducible first | apply EC.seq | apply EC.region | apply EC.skip | apply EC.label | apply EC.block | apply EC.exit | apply EC.ret | apply EK.in_normal | apply EK.in_same | apply EK.in_ret | apply EK.then_ret | apply EK.then_exit))
  rename_i g2 g3
  refine EC.loop (ι := {k : Nat // k ≤ a5.length})
    (fun k => ⟨[(5, .val (.v (.int .i64 (k.1 : Int)))), (2, .val (.v (.pointer (some ⟨g2, 0, none⟩)))), (3, .val (.v (.pointer (some ⟨g3, 0, none⟩))))],
      [.var g3 74 (.tup [.arr 20 a1, .v (.int .i64 a2), .arr 32 a3, .bs a4, .sl 64 (a5.map dSlL)]), .var g2 74 (.tup [.arr 20 a1, .v (.int .i64 a2), .arr 32 a3, .bs a4, .sl 64 (a5.map dSlL)])], []⟩)
    (fun k => a5.length - k.1) ⟨0, by omega⟩ ?_ ?_
  · exact (Le.keep (by repeat first | exact trivial | refine ⟨rfl, ?_⟩) (by repeat first | exact List.nil_sublist _ | apply List.Sublist.cons_cons | apply List.Sublist.cons) (by simp))
  rintro ⟨k, hk⟩
  dsimp only at hk ⊢
  by_cases hlt : k < a5.length
  · have hy : (a5.map dSlL)[k]? = some (dSlL a5[k]) := by rw [List.getElem?_map, List.getElem?_eq_getElem hlt]; rfl
    generalize a5[k] = s at hy
    have hb := bin_slot1 s
    repeat
      (first
       | (apply P_move; (iterate 3 exact rfl)) | (apply P_field; (iterate 6 exact rfl))
       | (apply P_load; exact rfl; (first | exact I0 | exact I1 | exact I2 | exact I3 | exact I4 | exact I5 | exact I6); (iterate 4 exact rfl))
       | (apply P_cmp (b := true); (iterate 2 exact rfl); (focus (first | (simp [cmpI]; done) | (simp [cmpI]; omega))); (iterate 2 exact rfl)) | (apply P_lensl; (iterate 4 exact rfl)) | apply EL.nil
       | ((with_reducible apply EK.then_normal); apply EK.code) | (apply EC.cond_true; exact rfl)
       | (with_reducible first | apply EC.seq | apply EC.region | apply EC.skip | apply EC.label | apply EC.block | apply EC.exit | apply EC.ret | apply EK.in_normal | apply EK.in_same | apply EK.in_ret | apply EK.then_ret | apply EK.then_exit))
    refine EC.draw 11 (by kernel_rfl) ?_
    simp only [List.take_succ_cons, List.take_zero, List.drop_succ_cons, List.drop_zero]
    repeat
      (first
       | (apply H_bin; (iterate 2 exact rfl); exact hb; (iterate 2 exact rfl)) | (apply H_move; (iterate 3 exact rfl)) | (apply H_field; (iterate 6 exact rfl)) | (apply H_loadpd; (iterate 5 exact rfl))
       | (apply H_load; exact rfl; (first | exact I0 | exact I1 | exact I2 | exact I3 | exact I4 | exact I5 | exact I6); (iterate 4 exact rfl))
       | (apply H_index; (iterate 4 exact rfl); (focus (first | exact ⟨by decide, rfl⟩ | (refine ⟨by omega, ?_⟩; rw [Int.toNat_natCast]; assumption))); (iterate 2 exact rfl))
       | ((with_reducible apply EH.nil); exact rfl))
    repeat
      (first
       | (apply P_move; (iterate 3 exact rfl)) | (apply P_assign; (iterate 3 exact rfl)) | (apply P_ar; (iterate 3 exact rfl); (focus omega); (focus omega); (iterate 2 exact rfl)) | apply EL.nil
       | ((with_reducible apply EK.then_normal); apply EK.code) | (apply EC.cond_false; exact rfl)
       | (with_reducible first | apply EC.seq | apply EC.region | apply EC.skip | apply EC.label | apply EC.block | apply EC.exit | apply EC.ret | apply EK.in_normal | apply EK.in_same | apply EK.in_ret | apply EK.then_ret | apply EK.then_exit))
    refine EK.again ⟨k + 1, hlt⟩ (by dsimp only; omega) ?_
    simp only [Int.natCast_add]
    exact (Le.keep (by repeat first | exact trivial | refine ⟨rfl, ?_⟩) (by repeat first | exact List.nil_sublist _ | apply List.Sublist.cons_cons | apply List.Sublist.cons) (by simp))
  · skip
    repeat
      (first
       | (apply P_move; (iterate 3 exact rfl)) | (apply P_assign; (iterate 3 exact rfl)) | (apply P_field; (iterate 6 exact rfl))
       | (apply P_load; exact rfl; (first | exact I0 | exact I1 | exact I2 | exact I3 | exact I4 | exact I5 | exact I6); (iterate 4 exact rfl))
       | (apply P_cmp (b := false); (iterate 2 exact rfl); (focus (first | (simp [cmpI]; done) | (simp [cmpI]; omega))); (iterate 2 exact rfl)) | (apply P_lensl; (iterate 4 exact rfl)) | apply EL.nil
       | ((with_reducible apply EK.then_normal); apply EK.code) | (apply EC.cond_false; exact rfl)
       | (with_reducible first | apply EC.seq | apply EC.region | apply EC.skip | apply EC.label | apply EC.block | apply EC.exit | apply EC.ret | apply EK.in_normal | apply EK.in_same | apply EK.in_ret | apply EK.then_ret | apply EK.then_exit))
    exact EK.ret1 rfl rfl rfl
set_option maxRecDepth 20000 in
set_option maxHeartbeats 8000000 in
theorem f_sameAccounts (l : List AcL) (hl : l.length ≤ 1099511627776) (hx : ∀ x ∈ l, x.sl.length ≤ 1099511627776) : Fn 20 [.sl 55 (l.map dAcL), .sl 55 (l.map dAcL)] (· = .val (.v (.bool true))) := by
  have hml : (l.map dAcL).length = l.length := List.length_map _
  refine Fn.walk 27 Tryz.func20 rfl Tryz.ntmps20 (by simp) fun X => ?_
  repeat
    (first
     | (apply P_move; (iterate 3 exact rfl)) | (apply P_assign; (iterate 3 exact rfl))
     | (apply P_cmp (b := false); (iterate 2 exact rfl); (focus (first | (simp [cmpI]; done) | (simp [cmpI]; omega))); (iterate 2 exact rfl)) | (apply P_lensl; (iterate 4 exact rfl)) | apply EL.nil
     | ((with_reducible apply EK.then_normal); apply EK.code) | (apply EC.cond_false; exact rfl)
     | (with_reducible first | apply EC.seq | apply EC.region | apply EC.skip | apply EC.label | apply EC.block | apply EC.exit | apply EC.ret | apply EK.in_normal | apply EK.in_same | apply EK.in_ret | apply EK.then_ret | apply EK.then_exit))
  refine EC.loop (ι := {k : Nat // k ≤ l.length})
    (fun k => ⟨[(5, .val (.v (.int .i64 (k.1 : Int)))), (0, .val (.sl 55 (l.map dAcL))), (1, .val (.sl 55 (l.map dAcL)))], [], []⟩)
    (fun k => l.length - k.1) ⟨0, by omega⟩ ?_ ?_
  · exact (Le.keep (by repeat first | exact trivial | refine ⟨rfl, ?_⟩) (by repeat first | exact List.nil_sublist _ | apply List.Sublist.cons_cons | apply List.Sublist.cons) (by simp))
  rintro ⟨k, hk⟩
  dsimp only at hk ⊢
  by_cases hlt : k < l.length
  · have hy : (l.map dAcL)[k]? = some (dAcL l[k]) := by rw [List.getElem?_map, List.getElem?_eq_getElem hlt]; rfl
    have hc := f_sameAccount l[k] (hx _ (List.getElem_mem hlt))
    generalize l[k] = s at hy hc
    repeat
      (first
       | (apply P_move; (iterate 3 exact rfl)) | (apply P_cmp (b := true); (iterate 2 exact rfl); (focus (first | (simp [cmpI]; done) | (simp [cmpI]; omega))); (iterate 2 exact rfl))
       | (apply P_lensl; (iterate 4 exact rfl)) | apply EL.nil | ((with_reducible apply EK.then_normal); apply EK.code) | (apply EC.cond_true; exact rfl)
       | (with_reducible first | apply EC.seq | apply EC.region | apply EC.skip | apply EC.label | apply EC.block | apply EC.exit | apply EC.ret | apply EK.in_normal | apply EK.in_same | apply EK.in_ret | apply EK.then_ret | apply EK.then_exit))
    refine EC.draw 10 (by kernel_rfl) ?_
    simp only [List.take_succ_cons, List.take_zero, List.drop_succ_cons, List.drop_zero]
    repeat
      (first
       | (apply H_call (hc); exact rfl; (focus (repeat first | exact RefineL.refl _ _ | exact RL.nil | exact Rf.same | exact Rf.bs0 | exact Rf.sl0 | (apply Rf.fact; (focus (simp; done)); exact rfl) | apply Rf.tup | apply RL.cons)); (focus (intro _ _; simp [go_sem]; done)); (iterate 2 exact rfl))
       | (apply H_move; (iterate 3 exact rfl)) | (apply H_loadpd; (iterate 5 exact rfl)) | (apply H_not; (iterate 3 exact rfl))
       | (apply H_index; (iterate 4 exact rfl); (focus (first | exact ⟨by decide, rfl⟩ | (refine ⟨by omega, ?_⟩; rw [Int.toNat_natCast]; assumption))); (iterate 2 exact rfl))
       | ((with_reducible apply EH.nil); exact rfl))
    repeat
      (first
       | (apply P_move; (iterate 3 exact rfl)) | (apply P_assign; (iterate 3 exact rfl)) | (apply P_ar; (iterate 3 exact rfl); (focus omega); (focus omega); (iterate 2 exact rfl)) | apply EL.nil
       | ((with_reducible apply EK.then_normal); apply EK.code) | (apply EC.cond_false; exact rfl)
       | (with_reducible first | apply EC.seq | apply EC.region | apply EC.skip | apply EC.label | apply EC.block | apply EC.exit | apply EC.ret | apply EK.in_normal | apply EK.in_same | apply EK.in_ret | apply EK.then_ret | apply EK.then_exit))
    refine EK.again ⟨k + 1, hlt⟩ (by dsimp only; omega) ?_
    simp only [Int.natCast_add]
    exact (Le.keep (by repeat first | exact trivial | refine ⟨rfl, ?_⟩) (by repeat first | exact List.nil_sublist _ | apply List.Sublist.cons_cons | apply List.Sublist.cons) (by simp))
  · skip
    repeat
      (first
       | (apply P_move; (iterate 3 exact rfl)) | (apply P_assign; (iterate 3 exact rfl))
       | (apply P_cmp (b := false); (iterate 2 exact rfl); (focus (first | (simp [cmpI]; done) | (simp [cmpI]; omega))); (iterate 2 exact rfl)) | (apply P_lensl; (iterate 4 exact rfl)) | apply EL.nil
       | ((with_reducible apply EK.then_normal); apply EK.code) | (apply EC.cond_false; exact rfl)
       | (with_reducible first | apply EC.seq | apply EC.region | apply EC.skip | apply EC.label | apply EC.block | apply EC.exit | apply EC.ret | apply EK.in_normal | apply EK.in_same | apply EK.in_ret | apply EK.then_ret | apply EK.then_exit))
    exact EK.ret1 rfl rfl rfl
end E
end Go.Proofs.YtdhicdnmgmkpkaaGreat
