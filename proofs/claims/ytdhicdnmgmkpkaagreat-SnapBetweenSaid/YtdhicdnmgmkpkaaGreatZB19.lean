/-
  Merged (wip/tools/merge.py): SU8, SU9, RT2, RT3.
  Conditions: none.
-/
import Derived.Test.YtdhicdnmgmkpkaaGreatZB18
/-
  The program's state: made of accounts.
  Conditions: none.
-/
namespace Go.Proofs.YtdhicdnmgmkpkaaGreat
set_option linter.unusedVariables false
open Go.RowKit Mono Rlp Wd Go.Sort
namespace E
def slF (sl : List (List UInt8 × List UInt8)) : List UInt8 → List UInt8 := sl.foldl (fun f p => fun k => if p.1 = k then p.2 else f k) fun _ => zero32
def AcL.take (x : AcL) : Ac := ⟨if x.n > 0 then x.n else 0, x.w, x.cd, slF x.sl⟩
def newA (l : List AcL) : As := l.foldl (fun A x => A.upd x.a x.take) fun _ => Ac.zero
theorem newA_snoc (l : List AcL) (x : AcL) : newA (l ++ [x]) = (newA l).upd x.a x.take := by unfold newA; rw [List.foldl_append]; rfl
theorem slF_snoc (l : List (List UInt8 × List UInt8)) (p : List UInt8 × List UInt8) : slF (l ++ [p]) = fun k => if p.1 = k then p.2 else slF l k := by unfold slF; rw [List.foldl_append]; rfl
structure SlIs (ss : List Ent) (f : List UInt8 → List UInt8) (N : Nat) : Prop where
  sl : ∀ k, slE ss k = .arr 32 (f k)
  ent : ∀ e ∈ ss, ∃ v, e.2.2 = .arr 32 v ∧ v ≠ zero32
  nod : (ss.map (·.2.1)).Nodup
  len : ss.length ≤ N
theorem SlIs.nil : SlIs [] (slF []) 0 := ⟨fun k => rfl, fun e he => by simp at he, List.nodup_nil, Nat.le_refl _⟩
theorem set_any {ga gs sc N : Nat} {b : Int} {w cd : List UInt8} {ss : List Ent} {f : List UInt8 → List UInt8} (h : SlIs ss f N) (q v : List UInt8) : FnM 60 [.v (ptr ga), .arr 32 q, .arr 32 v] [acO ga b w cd (.map (some gs)), .map gs 32 sc ss] (fun r os' => r = .tpl [] ∧ ∃ sc' ss', SlIs ss' (fun k => if q = k then v else f k) (N + 1) ∧ os' = [acO ga b w cd (.map (some gs)), .map gs 32 sc' ss']) := by
  by_cases hv : v = zero32
  · subst hv
    refine FnM.mono set_del ?_
    rintro r _ ⟨rfl, rfl⟩
    refine ⟨rfl, sc, _, ⟨fun k => ?_, fun e he => h.ent e ((delE_sub _ _).subset he), h.nod.sublist ((delE_sub _ _).map _), Nat.le_trans (delE_length _ _) (Nat.le_succ_of_le h.len)⟩, rfl⟩
    rw [slE_del _ _ _ h.nod, h.sl k]
    split <;> rfl
  · refine FnM.mono (set_put (by simpa using hv)) ?_
    rintro r _ ⟨rfl, rfl⟩
    refine ⟨rfl, _, _, ⟨fun k => ?_, fun e he => ?_, putE_nodup _ _ _ _ h.nod, Nat.le_trans (putE_length _ _ _ _) (Nat.succ_le_succ h.len)⟩, rfl⟩
    · rw [slE_put, h.sl k]
      split <;> rfl
    · rcases mem_putE _ _ _ _ _ he with he | he
      · exact h.ent e he
      · exact ⟨v, he, hv⟩
theorem EK.apart {N : Nat} {X : Cx N} {K : Act → World → Prop} {S : St} (h : Apart S.objs → EK X K S) : EK X K S := ⟨fun a w ha => (h ha.mem.apart).go a w ha⟩
set_option maxRecDepth 20000 in
set_option maxHeartbeats 16000000 in
theorem new0 (l : List AcL) (B : Nat) (hll : l.length ≤ 1000000) (hB : ∀ x ∈ l, x.sl.length ≤ B ∧ x.cd.length ≤ 140737488355328) (hB2 : B ≤ 1000000) : FnM 13 [.sl 55 (l.map dAcL)] [] (fun r os' => ∃ g, r = .val (.v (ptr g)) ∧ PSt g (newA l) (B + l.length) os') := by
  have hml : (l.map dAcL).length = l.length := List.length_map _
  refine FnM.walk 52 Tryz.func13 rfl Tryz.ntmps13 (by simp) fun X => ?_
  repeat
    (first
     | (apply P_move; (iterate 3 exact rfl)) | (apply P_assign; (iterate 3 exact rfl)) | (apply P_lensl; (iterate 4 exact rfl)) | (apply P_build; (iterate 7 exact rfl))
     | (apply P_makeMap; exact rfl; exact rfl; exact rfl; intro _) | (apply P_box; exact rfl; exact rfl; exact rfl; intro _) | apply EL.nil | ((with_reducible apply EK.then_normal); apply EK.code)
     | (with_reducible first | apply EC.seq | apply EC.region | apply EC.skip | apply EC.label | apply EC.block | apply EC.exit | apply EC.ret | apply EK.in_normal | apply EK.in_same | apply EK.in_ret | apply EK.then_ret | apply EK.then_exit))
  rename_i m g
  refine EC.loop (ι := {x : Nat × Nat × List Ent × List PA // x.1 ≤ l.length ∧ PInv x.2.2.1 x.2.2.2 (newA (l.take x.1)) (B + x.1)})
    (fun x => ⟨[(14, .val (.v (.int .i64 (x.1.1 : Int)))), (13, .val (.v (.int .i64 (l.map dAcL).length))), (12, .val (.sl 55 (l.map dAcL))), (3, .val (.v (ptr g)))], stO g m nilS nilS 0 :: smO m x.1.2.1 x.1.2.2.1 :: x.1.2.2.2.flatMap PA.os, []⟩)
    (fun x => l.length - x.1.1) ⟨(0, 0, [], []), Nat.zero_le _, ⟨fun a h => rfl, fun a d h => by simp [getE] at h, fun a b d h => by simp [getE] at h, List.nodup_nil, Nat.zero_le _⟩⟩ ?_ ?_
  · exact (Le.keep (by repeat first | exact trivial | refine ⟨rfl, ?_⟩) (by repeat first | exact List.Sublist.refl _ | apply List.Sublist.cons_cons | apply List.Sublist.cons) (by simp))
  rintro ⟨⟨i, c, es, ps⟩, hil, hi⟩
  dsimp only at hil hi ⊢
  by_cases hlt : i < l.length
  · have hd : (l.map dAcL)[i]? = some (dAcL l[i]) := by rw [List.getElem?_map, List.getElem?_eq_getElem hlt]; rfl
    have hBi := hB l[i] (List.getElem_mem hlt)
    have htk : l.take (i + 1) = l.take i ++ [l[i]] := List.take_succ_eq_append_getElem hlt
    generalize l[i] = x at hd hBi htk
    obtain ⟨xa, xn, xw, xc, xs⟩ := x
    unfold dAcL at hd
    dsimp only at hd hBi
    have hcl := f_Clone xc hBi.2
    repeat
      (first
       | (apply P_loadpd; (iterate 5 exact rfl)) | (apply P_cmp (b := true); (iterate 2 exact rfl); (focus (first | (simp [cmpI]; done) | (simp [cmpI]; omega))); (iterate 2 exact rfl))
       | (apply P_index; (iterate 4 exact rfl); (focus (first | exact ⟨by decide, rfl⟩ | (refine ⟨by omega, ?_⟩; rw [Int.toNat_natCast]; assumption))); (iterate 2 exact rfl))
       | (apply P_alloc; exact rfl; exact rfl; exact rfl; intro _) | (apply P_store; exact rfl; (focus (repeat first | exact .z | apply SetAt.s | apply SetAtF.s)); (iterate 4 exact rfl)) | apply EL.nil
       | ((with_reducible apply EK.then_normal); apply EK.code) | (apply EC.cond_true; exact rfl)
       | (with_reducible first | apply EC.seq | apply EC.region | apply EC.skip | apply EC.label | apply EC.block | apply EC.exit | apply EC.ret | apply EK.in_normal | apply EK.in_same | apply EK.in_ret | apply EK.then_ret | apply EK.then_exit))
    rename_i g5
    refine EC.drawC 11 [0, 1, 2, 3, 4, 5, 6, 7] [8, 9, 10] [] _ (by kernel_rfl) (by kernel_rfl) rfl ?_
    simp only [pickL, List.filterMap_cons, List.filterMap_nil, List.getElem?_cons_zero, List.getElem?_cons_succ]
    repeat
      (first
       | (apply H_call (hcl); exact rfl; (focus (repeat first | exact RefineL.refl _ _ | exact RL.nil | exact Rf.same | exact Rf.bs0 | exact Rf.sl0 | (apply Rf.fact; (focus (simp; done)); exact rfl) | apply Rf.tup | apply RL.cons)); (focus (intro _ _; simp [go_sem]; done)); (iterate 2 exact rfl))
       | (apply H_field; (iterate 6 exact rfl)) | (apply H_load; exact rfl; (first | exact I0 | exact I1 | exact I2 | exact I3 | exact I4 | exact I5 | exact I6); (iterate 4 exact rfl))
       | (apply H_max; (iterate 4 exact rfl)))
    refine EM.nil ?_
    repeat (first | rw [List.cons_append] | rw [List.nil_append])
    refine CH.mut (os := []) (rest := []) rfl rfl (m_makeMap rfl rfl) ?_
    rintro _ _ ⟨gs, rfl, rfl⟩
    try simp only [St.put]
    repeat (first | rw [List.cons_append] | rw [List.nil_append])
    refine CH.cut 1 ?_
    simp only [List.take_succ_cons, List.take_zero, List.drop_succ_cons, List.drop_zero]
    repeat
      (first
       | (apply H_build; (iterate 7 exact rfl)))
    refine EM.nil ?_
    repeat (first | rw [List.cons_append] | rw [List.nil_append])
    refine CH.mut (os := []) (rest := [_]) rfl rfl (m_box rfl rfl) ?_
    rintro _ _ ⟨gx, rfl, rfl⟩
    try simp only [St.put]
    repeat (first | rw [List.cons_append] | rw [List.nil_append])
    refine CH.nil ?_
    try simp only [List.drop_succ_cons, List.drop_zero]
    repeat
      (first
       | (apply P_move; (iterate 3 exact rfl)) | (apply P_assign; (iterate 3 exact rfl)) | (apply P_field; (iterate 6 exact rfl))
       | (apply P_load; exact rfl; (first | exact I0 | exact I1 | exact I2 | exact I3 | exact I4 | exact I5 | exact I6); (iterate 4 exact rfl)) | (apply P_lensl; (iterate 4 exact rfl)) | apply EL.nil
       | ((with_reducible apply EK.then_normal); apply EK.code)
       | (with_reducible first | apply EC.seq | apply EC.region | apply EC.skip | apply EC.label | apply EC.block | apply EC.exit | apply EC.ret | apply EK.in_normal | apply EK.in_same | apply EK.in_ret | apply EK.then_ret | apply EK.then_exit))
    have hmx : (xs.map dSlL).length = xs.length := List.length_map _
    refine EC.loop (ι := {x : Nat × Nat × List Ent // x.1 ≤ xs.length ∧ SlIs x.2.2 (slF (xs.take x.1)) x.1})
      (fun x => ⟨[(32, .val (.v (.int .i64 (x.1.1 : Int)))), (31, .val (.v (.int .i64 (xs.map dSlL).length))), (30, .val (.sl 64 (xs.map dSlL))), (14, .val (.v (.int .i64 (i : Int)))), (13, .val (.v (.int .i64 (l.map dAcL).length))), (12, .val (.sl 55 (l.map dAcL))), (6, .val (.v (ptr gx))), (5, .val (.v (ptr g5))), (3, .val (.v (ptr g)))], acO gx (if xn > 0 then xn else 0) xw xc (.map (some gs)) :: .map gs 32 x.1.2.1 x.1.2.2 :: .var g5 74 (.tup [.arr 20 xa, .v (.int .i64 xn), .arr 32 xw, .bs xc, .sl 64 (xs.map dSlL)]) :: stO g m nilS nilS 0 :: smO m c es :: ps.flatMap PA.os, []⟩)
      (fun x => xs.length - x.1.1) ⟨(0, 0, []), Nat.zero_le _, SlIs.nil⟩ ?_ ?_
    · exact (Le.keep (by repeat first | exact trivial | refine ⟨rfl, ?_⟩) (by repeat first | exact List.Sublist.refl _ | apply List.Sublist.cons_cons | apply List.Sublist.cons) (by simp))
    rintro ⟨⟨j, sc, ss⟩, hjl, hss⟩
    dsimp only at hjl hss ⊢
    by_cases hlj : j < xs.length
    · have hd2 : (xs.map dSlL)[j]? = some (dSlL xs[j]) := by rw [List.getElem?_map, List.getElem?_eq_getElem hlj]; rfl
      have htk2 : xs.take (j + 1) = xs.take j ++ [xs[j]] := List.take_succ_eq_append_getElem hlj
      generalize xs[j] = y at hd2 htk2
      obtain ⟨q, v⟩ := y
      unfold dSlL at hd2
      dsimp only at hd2
      have hset := set_any (ga := gx) (gs := gs) (sc := sc) (b := if xn > 0 then xn else 0) (w := xw) (cd := xc) hss q v
      repeat
        (first
         | (apply P_callAt hset [_] _ rfl rfl (RefineL.refl _ _) (by intro _ _; simp [go_sem]) rfl rfl; rintro _ _ ⟨rfl, sc', ss', hss', rfl⟩; simp only [List.cons_append, List.nil_append])
         | (apply P_move; (iterate 3 exact rfl)) | (apply P_field; (iterate 6 exact rfl)) | (apply P_loadpd; (iterate 5 exact rfl))
         | (apply P_load; exact rfl; (first | exact I0 | exact I1 | exact I2 | exact I3 | exact I4 | exact I5 | exact I6); (iterate 4 exact rfl))
         | (apply P_cmp (b := true); (iterate 2 exact rfl); (focus (first | (simp [cmpI]; done) | (simp [cmpI]; omega))); (iterate 2 exact rfl))
         | (apply P_ar; (iterate 3 exact rfl); (focus omega); (focus omega); (iterate 2 exact rfl))
         | (apply P_index; (iterate 4 exact rfl); (focus (first | exact ⟨by decide, rfl⟩ | (refine ⟨by omega, ?_⟩; rw [Int.toNat_natCast]; assumption))); (iterate 2 exact rfl))
         | (apply P_alloc; exact rfl; exact rfl; exact rfl; intro _) | (apply P_store; exact rfl; (focus (repeat first | exact .z | apply SetAt.s | apply SetAtF.s)); (iterate 4 exact rfl)) | apply EL.nil
         | ((with_reducible apply EK.then_normal); apply EK.code) | (apply EC.cond_true; exact rfl)
         | (with_reducible first | apply EC.seq | apply EC.region | apply EC.skip | apply EC.label | apply EC.block | apply EC.exit | apply EC.ret | apply EK.in_normal | apply EK.in_same | apply EK.in_ret | apply EK.then_ret | apply EK.then_exit))
      refine EK.again ⟨(j + 1, sc', ss'), hlj, by rw [htk2, slF_snoc]; exact hss'⟩ (by dsimp only; omega) ?_
      simp only [Int.natCast_add]
      exact (Le.keep (by repeat first | exact trivial | refine ⟨rfl, ?_⟩) (by repeat first | exact List.Sublist.refl _ | apply List.Sublist.cons_cons | apply List.Sublist.cons) (by simp))
    · have hjE : j = xs.length := by omega
      subst hjE
      rw [List.take_length] at hss
      repeat
        (first
         | (apply P_cmp (b := false); (iterate 2 exact rfl); (focus (first | (simp [cmpI]; done) | (simp [cmpI]; omega))); (iterate 2 exact rfl)) | apply EL.nil
         | ((with_reducible apply EK.then_normal); apply EK.code) | (apply EC.cond_false; exact rfl)
         | (with_reducible first | apply EC.seq | apply EC.region | apply EC.skip | apply EC.label | apply EC.block | apply EC.exit | apply EC.ret | apply EK.in_normal | apply EK.in_same | apply EK.in_ret | apply EK.then_ret | apply EK.then_exit))
      refine EC.draw 7 (by kernel_rfl) ?_
      simp only [List.take_succ_cons, List.take_zero, List.drop_succ_cons, List.drop_zero]
      repeat
        (first
         | (apply H_move; (iterate 3 exact rfl)) | (apply H_field; (iterate 6 exact rfl))
         | (apply H_load; exact rfl; (first | exact I0 | exact I1 | exact I2 | exact I3 | exact I4 | exact I5 | exact I6); (iterate 4 exact rfl)) | (apply H_nilck; (iterate 3 exact rfl))
         | ((with_reducible apply EH.nil); exact rfl))
      repeat
        (first
         | (apply P_move; (iterate 3 exact rfl)) | (apply P_ar; (iterate 3 exact rfl); (focus omega); (focus omega); (iterate 2 exact rfl))
         | (apply P_mapUpd; exact rfl; (focus (repeat first | exact .z | apply SetAt.s | apply SetAtF.s)); (iterate 4 exact rfl)) | apply EL.nil | ((with_reducible apply EK.then_normal); apply EK.code)
         | (with_reducible first | apply EC.seq | apply EC.region | apply EC.skip | apply EC.label | apply EC.block | apply EC.exit | apply EC.ret | apply EK.in_normal | apply EK.in_same | apply EK.in_ret | apply EK.then_ret | apply EK.then_exit))
      refine EK.le (Le.pickT [3, 4, 0, 1, 2] [_, _, _, _, _] [_, _, _, _, _] (_) rfl rfl (by decide) rfl) ?_
      try simp only [List.cons_append, List.nil_append]
      refine EK.apart fun hap => ?_
      have hnew : ∀ q ∈ ps, q.g ≠ gx := fun q hq e => by
        have hap' : Apart (stO g m nilS nilS 0 :: smO m (tickE c es xa) (putE c es xa (.v (ptr gx))) :: acO gx (if xn > 0 then xn else 0) xw xc (.map (some gs)) :: .map gs 32 sc ss :: .var g5 74 (.tup [.arr 20 xa, .v (.int .i64 xn), .arr 32 xw, .bs xc, .sl 64 (xs.map dSlL)]) :: ps.flatMap PA.os) := hap
        have h1 := (List.pairwise_cons.1 (List.pairwise_cons.1 (List.pairwise_cons.1 hap').2).2).1 (acO q.g q.n q.w q.cd (.map (some q.gs))) (List.mem_cons_of_mem _ (List.mem_cons_of_mem _ (List.mem_flatMap.2 ⟨q, hq, by simp [PA.os]⟩))) gx rfl
        exact h1 (by simp [Obj.blk, e])
      refine EK.again ⟨(i + 1, tickE c es xa, putE c es xa (.v (ptr gx)), ⟨gx, if xn > 0 then xn else 0, xw, xc, gs, sc, ss⟩ :: ps), hlt, ?_⟩ (by dsimp only; omega) ?_
      · rw [htk, newA_snoc]
        exact hi.fresh (a := xa) (p' := ⟨gx, if xn > 0 then xn else 0, xw, xc, gs, sc, ss⟩) (x := AcL.take ⟨xa, xn, xw, xc, xs⟩) (fun b => getE_putE c es xa b _) (putE_nodup _ _ _ _ hi.nod) (Nat.le_trans (putE_length _ _ _ _) (Nat.succ_le_succ hi.len)) ⟨rfl, rfl, rfl, hss.sl, hss.ent, hss.nod, by have := hss.len; dsimp only; omega, hBi.2⟩ hnew
      · simp only [Int.natCast_add, List.flatMap_cons, PA.os, List.cons_append, List.nil_append]
        exact (Le.keep (by repeat first | exact trivial | refine ⟨rfl, ?_⟩) (by repeat first | exact List.Sublist.refl _ | apply List.Sublist.cons_cons | apply List.Sublist.cons) (by simp))
  · have hiE : i = l.length := by omega
    subst hiE
    rw [List.take_length] at hi
    repeat
      (first
       | (apply P_move; (iterate 3 exact rfl)) | (apply P_assign; (iterate 3 exact rfl))
       | (apply P_cmp (b := false); (iterate 2 exact rfl); (focus (first | (simp [cmpI]; done) | (simp [cmpI]; omega))); (iterate 2 exact rfl)) | apply EL.nil
       | ((with_reducible apply EK.then_normal); apply EK.code) | (apply EC.cond_false; exact rfl)
       | (with_reducible first | apply EC.seq | apply EC.region | apply EC.skip | apply EC.label | apply EC.block | apply EC.exit | apply EC.ret | apply EK.in_normal | apply EK.in_same | apply EK.in_ret | apply EK.then_ret | apply EK.then_exit))
    refine EK.le (Le.row 128 1) ?_
    refine EK.le (Le.row 121 2) ?_
    refine EK.le (Le.pickT [2, 3, 1, 0] [_, _, _, _] [_, _, _, _] (_) rfl rfl (by decide) rfl) ?_
    try simp only [List.cons_append, List.nil_append]
    exact EK.retM1s (psO g m c es nilS nilS 0 [] ps) rfl rfl (List.Sublist.refl _) ⟨g, rfl, m, c, es, nilS, nilS, 0, [], ps, rfl, hi, by decide⟩
end E
end Go.Proofs.YtdhicdnmgmkpkaaGreat
/-
  The program's snap.Apply: changes of accounts.
  Conditions: none.
-/
namespace Go.Proofs.YtdhicdnmgmkpkaaGreat
set_option linter.unusedVariables false
open Go.RowKit Mono Rlp Wd Go.Sort
namespace E
section
variable {N : Nat} {X : Cx N} {ops : Array Oper} {Q : Exit → Act → World → Prop}
theorem P_callT {l' : List Oper} {t ty f : Nat} {pos : String} {af : Array Edge} {gd : Option (Nat × Bool)} {args : Array Operand} {tys : Array TypeId} {ds ds' : List D} {Φ : R → List Obj → Prop} {rs : List (Tmp × R)} {os os0 : List Obj} {fs : List (Value × D)} (hF : FnM f ds' os Φ) (l1 : List Obj) (hos : os0 = l1 ++ os)
    (hx : evs (⟨rs, l1, fs⟩ : St) args.toList = some ds) (hR : RefineL fs ds ds') (hf : Enters f) (hg : guardOf ops ⟨rs, os ++ l1, fs⟩ ⟨some t, .call { callee := .value (.func f), args := args, argTypes := tys }, ty, pos, af, gd⟩ = some true) (hN : Nat.blt t N = true) (k : ∀ r os', Φ r os' → EL X ops Q l' ⟨(t, r) :: rs, l1 ++ os', fs⟩) : EL X ops Q (⟨some t, .call { callee := .value (.func f), args := args, argTypes := tys }, ty, pos, af, gd⟩ :: l') ⟨rs, os0, fs⟩ := by
  subst hos
  exact EL.le (Le.perm List.perm_append_comm) (P_callM hF rfl hx hR hf hg hN fun r os' h => EL.le (Le.perm List.perm_append_comm) (k r os' h))
end
theorem PA.Is.mono {p : PA} {x : Ac} {N M : Nat} (h : p.Is x N) (hm : N ≤ M) : p.Is x M := ⟨h.n, h.w, h.cd, h.sl, h.ent, h.nod, Nat.le_trans h.len hm, h.cl⟩
theorem PSt.mono {g N M : Nat} {A : As} {os : List Obj} (h : PSt g A N os) (hm : N ≤ M) : PSt g A M os := by
  obtain ⟨m, c, es, u, k, n, us, ps, h1, hi, hu⟩ := h
  exact ⟨m, c, es, u, k, n, us, ps, h1, ⟨hi.out, fun a d h => by obtain ⟨p, h1, h2, h3⟩ := hi.inn a d h; exact ⟨p, h1, h2, h3.mono hm⟩, hi.inj, hi.nod, Nat.le_trans hi.len hm⟩, hu⟩
structure ChL where
  a : List UInt8
  gone : Bool
  n : Int
  w : List UInt8
  cd : List UInt8
  sl : List (List UInt8 × List UInt8)
def dChL (c : ChL) : D := .tup [.arr 20 c.a, .v (.bool c.gone), .v (.int .i64 c.n), .arr 32 c.w, .bs c.cd, .sl 64 (c.sl.map dSlL)]
def ChL.base (c : ChL) (A : As) : As :=
  let A1 := if c.gone = true then A.upd c.a Ac.zero else A
  let A2 := A1.upd c.a {A1 c.a with n := if c.n > 0 then c.n else 0}
  let A3 := A2.upd c.a {A2 c.a with w := c.w}
  A3.upd c.a {A3 c.a with cd := c.cd}
def slots1 (a : List UInt8) (sl : List (List UInt8 × List UInt8)) (A : As) : As := sl.foldl (fun A p => A.upd a ((A a).slot p.1 p.2)) A
def ChL.of (c : ChL) (A : As) : As := slots1 c.a c.sl (c.base A)
theorem slots1_snoc (a : List UInt8) (sl : List (List UInt8 × List UInt8)) (p : List UInt8 × List UInt8) (A : As) : slots1 a (sl ++ [p]) A = (slots1 a sl A).upd a ((slots1 a sl A a).slot p.1 p.2) := by unfold slots1; rw [List.foldl_append]; rfl
set_option maxRecDepth 20000 in
set_option maxHeartbeats 16000000 in
theorem apply1 {g N : Nat} {A : As} {os : List Obj} (h : PSt g A N os) (c : ChL) (hc : c.cd.length ≤ 140737488355328) (hs : c.sl.length ≤ 1000000) : FnM 101 [.v (ptr g), dChL c] os (fun r os' => r = .tpl [] ∧ PSt g (c.of A) (N + 4 + c.sl.length) os') := by
  obtain ⟨ca, cg, cn, cw, cc, cs⟩ := c
  dsimp only at hc hs
  have hml : (cs.map dSlL).length = cs.length := List.length_map _
  unfold dChL ChL.of
  dsimp only
  refine FnM.walk 46 Tryz.func101 rfl Tryz.ntmps101 (by simp) fun X => ?_
  cases cg with
  | true =>
    repeat
      (first
       | (apply P_callT (ps_kill h (a := ca)) [_] rfl rfl (RefineL.refl _ _) (by intro _ _; simp [go_sem]) rfl rfl; rintro _ os1 ⟨rfl, h1⟩; simp only [List.cons_append, List.nil_append])
       | (apply P_callT (ps_setNonce h1 (a := ca) cn) [_] rfl rfl (RefineL.refl _ _) (by intro _ _; simp [go_sem]) rfl rfl; rintro _ os2 ⟨rfl, h2⟩; simp only [List.cons_append, List.nil_append])
       | (apply P_callT (ps_setBalance h2 (a := ca) cw) [_] rfl rfl (RefineL.refl _ _) (by intro _ _; simp [go_sem]) rfl rfl; rintro _ os3 ⟨rfl, h3⟩; simp only [List.cons_append, List.nil_append])
       | (apply P_callT (ps_setCode h3 (a := ca) cc hc) [_] rfl rfl (RefineL.refl _ _) (by intro _ _; simp [go_sem]) rfl rfl; rintro _ os4 ⟨rfl, h4⟩; simp only [List.cons_append, List.nil_append])
       | (apply P_move; (iterate 3 exact rfl)) | (apply P_field; (iterate 6 exact rfl))
       | (apply P_load; exact rfl; (first | exact I0 | exact I1 | exact I2 | exact I3 | exact I4 | exact I5 | exact I6); (iterate 4 exact rfl)) | (apply P_lensl; (iterate 4 exact rfl))
       | (apply P_box; exact rfl; exact rfl; exact rfl; intro _) | apply EL.nil | ((with_reducible apply EK.then_normal); apply EK.code) | (apply EC.cond_true; exact rfl)
       | (with_reducible first | apply EC.seq | apply EC.region | apply EC.skip | apply EC.label | apply EC.block | apply EC.exit | apply EC.ret | apply EK.in_normal | apply EK.in_same | apply EK.in_ret | apply EK.then_ret | apply EK.then_exit))
    have h5 : PSt g (ChL.base ⟨ca, true, cn, cw, cc, cs⟩ A) (N + 4) os4 := h4
    generalize ChL.base ⟨ca, true, cn, cw, cc, cs⟩ A = A4 at h5 ⊢
    clear h1 h2 h3 h4
    rename_i g3
    refine EC.loop (ι := {x : Nat × List Obj // x.1 ≤ cs.length ∧ PSt g (slots1 ca (cs.take x.1) A4) (N + 4 + x.1) x.2})
      (fun x => ⟨[(33, .val (.v (.int .i64 (x.1.1 : Int)))), (32, .val (.v (.int .i64 (cs.map dSlL).length))), (31, .val (.sl 64 (cs.map dSlL))), (3, .val (.v (ptr g3))), (0, .val (.v (ptr g)))], .var g3 150 (.tup [.arr 20 ca, .v (.bool true), .v (.int .i64 cn), .arr 32 cw, .bs cc, .sl 64 (cs.map dSlL)]) :: x.1.2, []⟩)
      (fun x => cs.length - x.1.1) ⟨(0, os4), Nat.zero_le _, h5⟩ ?_ ?_
    · exact (Le.keep (by repeat first | exact trivial | refine ⟨rfl, ?_⟩) (by repeat first | exact List.Sublist.refl _ | apply List.Sublist.cons_cons | apply List.Sublist.cons) (by simp))
    rintro ⟨⟨j, os5⟩, hjl, h6⟩
    dsimp only at hjl h6 ⊢
    by_cases hlj : j < cs.length
    · have hd2 : (cs.map dSlL)[j]? = some (dSlL cs[j]) := by rw [List.getElem?_map, List.getElem?_eq_getElem hlj]; rfl
      have htk2 : cs.take (j + 1) = cs.take j ++ [cs[j]] := List.take_succ_eq_append_getElem hlj
      generalize cs[j] = y at hd2 htk2
      obtain ⟨q, v⟩ := y
      unfold dSlL at hd2
      dsimp only at hd2
      repeat
        (first
         | (apply P_callT (ps_setSlot h6 (a := ca) q v) [_, _] rfl rfl (RefineL.refl _ _) (by intro _ _; simp [go_sem]) rfl rfl; rintro _ os6 ⟨rfl, h7⟩; simp only [List.cons_append, List.nil_append])
         | (apply P_move; (iterate 3 exact rfl)) | (apply P_field; (iterate 6 exact rfl)) | (apply P_loadpd; (iterate 5 exact rfl))
         | (apply P_load; exact rfl; (first | exact I0 | exact I1 | exact I2 | exact I3 | exact I4 | exact I5 | exact I6); (iterate 4 exact rfl))
         | (apply P_cmp (b := true); (iterate 2 exact rfl); (focus (first | (simp [cmpI]; done) | (simp [cmpI]; omega))); (iterate 2 exact rfl))
         | (apply P_ar; (iterate 3 exact rfl); (focus omega); (focus omega); (iterate 2 exact rfl))
         | (apply P_index; (iterate 4 exact rfl); (focus (first | exact ⟨by decide, rfl⟩ | (refine ⟨by omega, ?_⟩; rw [Int.toNat_natCast]; assumption))); (iterate 2 exact rfl))
         | (apply P_alloc; exact rfl; exact rfl; exact rfl; intro _) | (apply P_store; exact rfl; (focus (repeat first | exact .z | apply SetAt.s | apply SetAtF.s)); (iterate 4 exact rfl)) | apply EL.nil
         | ((with_reducible apply EK.then_normal); apply EK.code) | (apply EC.cond_true; exact rfl)
         | (with_reducible first | apply EC.seq | apply EC.region | apply EC.skip | apply EC.label | apply EC.block | apply EC.exit | apply EC.ret | apply EK.in_normal | apply EK.in_same | apply EK.in_ret | apply EK.then_ret | apply EK.then_exit))
      refine EK.again ⟨(j + 1, os6), hlj, by rw [htk2, slots1_snoc]; exact h7⟩ (by dsimp only; omega) ?_
      simp only [Int.natCast_add]
      exact (Le.keep (by repeat first | exact trivial | refine ⟨rfl, ?_⟩) (by repeat first | exact List.Sublist.refl _ | apply List.Sublist.cons_cons | apply List.Sublist.cons) (by simp))
    · have hjE : j = cs.length := by omega
      subst hjE
      rw [List.take_length] at h6
      repeat
        (first
         | (apply P_cmp (b := false); (iterate 2 exact rfl); (focus (first | (simp [cmpI]; done) | (simp [cmpI]; omega))); (iterate 2 exact rfl)) | apply EL.nil
         | ((with_reducible apply EK.then_normal); apply EK.code) | (apply EC.cond_false; exact rfl)
         | (with_reducible first | apply EC.seq | apply EC.region | apply EC.skip | apply EC.label | apply EC.block | apply EC.exit | apply EC.ret | apply EK.in_normal | apply EK.in_same | apply EK.in_ret | apply EK.then_ret | apply EK.then_exit))
      exact EK.retM0n os5 rfl (by (repeat first | exact List.Sublist.refl _ | apply List.Sublist.cons_cons | apply List.Sublist.cons)) ⟨rfl, h6⟩
  | false =>
    repeat
      (first
       | (apply P_callT (ps_setNonce h (a := ca) cn) [_] rfl rfl (RefineL.refl _ _) (by intro _ _; simp [go_sem]) rfl rfl; rintro _ os2 ⟨rfl, h2⟩; simp only [List.cons_append, List.nil_append])
       | (apply P_callT (ps_setBalance h2 (a := ca) cw) [_] rfl rfl (RefineL.refl _ _) (by intro _ _; simp [go_sem]) rfl rfl; rintro _ os3 ⟨rfl, h3⟩; simp only [List.cons_append, List.nil_append])
       | (apply P_callT (ps_setCode h3 (a := ca) cc hc) [_] rfl rfl (RefineL.refl _ _) (by intro _ _; simp [go_sem]) rfl rfl; rintro _ os4 ⟨rfl, h4⟩; simp only [List.cons_append, List.nil_append])
       | (apply P_move; (iterate 3 exact rfl)) | (apply P_field; (iterate 6 exact rfl))
       | (apply P_load; exact rfl; (first | exact I0 | exact I1 | exact I2 | exact I3 | exact I4 | exact I5 | exact I6); (iterate 4 exact rfl)) | (apply P_lensl; (iterate 4 exact rfl))
       | (apply P_box; exact rfl; exact rfl; exact rfl; intro _) | apply EL.nil | ((with_reducible apply EK.then_normal); apply EK.code) | (apply EC.cond_false; exact rfl)
       | (with_reducible first | apply EC.seq | apply EC.region | apply EC.skip | apply EC.label | apply EC.block | apply EC.exit | apply EC.ret | apply EK.in_normal | apply EK.in_same | apply EK.in_ret | apply EK.then_ret | apply EK.then_exit))
    have h5 : PSt g (ChL.base ⟨ca, false, cn, cw, cc, cs⟩ A) (N + 4) os4 := h4.mono (by omega)
    generalize ChL.base ⟨ca, false, cn, cw, cc, cs⟩ A = A4 at h5 ⊢
    clear h2 h3 h4
    rename_i g3
    refine EC.loop (ι := {x : Nat × List Obj // x.1 ≤ cs.length ∧ PSt g (slots1 ca (cs.take x.1) A4) (N + 4 + x.1) x.2})
      (fun x => ⟨[(33, .val (.v (.int .i64 (x.1.1 : Int)))), (32, .val (.v (.int .i64 (cs.map dSlL).length))), (31, .val (.sl 64 (cs.map dSlL))), (3, .val (.v (ptr g3))), (0, .val (.v (ptr g)))], .var g3 150 (.tup [.arr 20 ca, .v (.bool false), .v (.int .i64 cn), .arr 32 cw, .bs cc, .sl 64 (cs.map dSlL)]) :: x.1.2, []⟩)
      (fun x => cs.length - x.1.1) ⟨(0, os4), Nat.zero_le _, h5⟩ ?_ ?_
    · exact (Le.keep (by repeat first | exact trivial | refine ⟨rfl, ?_⟩) (by repeat first | exact List.Sublist.refl _ | apply List.Sublist.cons_cons | apply List.Sublist.cons) (by simp))
    rintro ⟨⟨j, os5⟩, hjl, h6⟩
    dsimp only at hjl h6 ⊢
    by_cases hlj : j < cs.length
    · have hd2 : (cs.map dSlL)[j]? = some (dSlL cs[j]) := by rw [List.getElem?_map, List.getElem?_eq_getElem hlj]; rfl
      have htk2 : cs.take (j + 1) = cs.take j ++ [cs[j]] := List.take_succ_eq_append_getElem hlj
      generalize cs[j] = y at hd2 htk2
      obtain ⟨q, v⟩ := y
      unfold dSlL at hd2
      dsimp only at hd2
      repeat
        (first
         | (apply P_callT (ps_setSlot h6 (a := ca) q v) [_, _] rfl rfl (RefineL.refl _ _) (by intro _ _; simp [go_sem]) rfl rfl; rintro _ os6 ⟨rfl, h7⟩; simp only [List.cons_append, List.nil_append])
         | (apply P_move; (iterate 3 exact rfl)) | (apply P_field; (iterate 6 exact rfl)) | (apply P_loadpd; (iterate 5 exact rfl))
         | (apply P_load; exact rfl; (first | exact I0 | exact I1 | exact I2 | exact I3 | exact I4 | exact I5 | exact I6); (iterate 4 exact rfl))
         | (apply P_cmp (b := true); (iterate 2 exact rfl); (focus (first | (simp [cmpI]; done) | (simp [cmpI]; omega))); (iterate 2 exact rfl))
         | (apply P_ar; (iterate 3 exact rfl); (focus omega); (focus omega); (iterate 2 exact rfl))
         | (apply P_index; (iterate 4 exact rfl); (focus (first | exact ⟨by decide, rfl⟩ | (refine ⟨by omega, ?_⟩; rw [Int.toNat_natCast]; assumption))); (iterate 2 exact rfl))
         | (apply P_alloc; exact rfl; exact rfl; exact rfl; intro _) | (apply P_store; exact rfl; (focus (repeat first | exact .z | apply SetAt.s | apply SetAtF.s)); (iterate 4 exact rfl)) | apply EL.nil
         | ((with_reducible apply EK.then_normal); apply EK.code) | (apply EC.cond_true; exact rfl)
         | (with_reducible first | apply EC.seq | apply EC.region | apply EC.skip | apply EC.label | apply EC.block | apply EC.exit | apply EC.ret | apply EK.in_normal | apply EK.in_same | apply EK.in_ret | apply EK.then_ret | apply EK.then_exit))
      refine EK.again ⟨(j + 1, os6), hlj, by rw [htk2, slots1_snoc]; exact h7⟩ (by dsimp only; omega) ?_
      simp only [Int.natCast_add]
      exact (Le.keep (by repeat first | exact trivial | refine ⟨rfl, ?_⟩) (by repeat first | exact List.Sublist.refl _ | apply List.Sublist.cons_cons | apply List.Sublist.cons) (by simp))
    · have hjE : j = cs.length := by omega
      subst hjE
      rw [List.take_length] at h6
      repeat
        (first
         | (apply P_cmp (b := false); (iterate 2 exact rfl); (focus (first | (simp [cmpI]; done) | (simp [cmpI]; omega))); (iterate 2 exact rfl)) | apply EL.nil
         | ((with_reducible apply EK.then_normal); apply EK.code) | (apply EC.cond_false; exact rfl)
         | (with_reducible first | apply EC.seq | apply EC.region | apply EC.skip | apply EC.label | apply EC.block | apply EC.exit | apply EC.ret | apply EK.in_normal | apply EK.in_same | apply EK.in_ret | apply EK.then_ret | apply EK.then_exit))
      exact EK.retM0n os5 rfl (by (repeat first | exact List.Sublist.refl _ | apply List.Sublist.cons_cons | apply List.Sublist.cons)) ⟨rfl, h6⟩
end E
end Go.Proofs.YtdhicdnmgmkpkaaGreat
/-
  The reference's state at accounts with code and slots: SetBalance, SetNonce, SetCode, Kill.
  Conditions: none.
-/
namespace Go.Proofs.YtdhicdnmgmkpkaaGreat
set_option linter.unusedVariables false
open Go.RowKit Mono Rlp Wd
namespace E
def AcL.Small (N : Nat) (x : AcL) : Prop := x.sl.length ≤ N ∧ x.cd.length ≤ 140737488355328
theorem AcL.Small.mono {N M : Nat} {x : AcL} (h : x.Small N) (hm : N ≤ M) : x.Small M := ⟨Nat.le_trans h.1 hm, h.2⟩
structure RL (A : As) (N : Nat) (l : List AcL) : Prop where
  bd : ∀ x ∈ l, x.Small N
  ord : l.Pairwise fun x y => x.a < y.a
  mem : ∀ x ∈ l, x.Is (A x.a)
  out : ∀ a, a ∉ l.map AcL.a → A a = Ac.zero
theorem AcL.none_is (a : List UInt8) : (AcL.none a).Is Ac.zero := ⟨rfl, rfl, rfl, .nil, fun p hp => by simp [AcL.none] at hp, fun k hk => absurd rfl hk⟩
theorem lt_bl {a b : List UInt8} (h : a < b) : Op.bytesLess a b = true := by rw [bl_iff]; simpa using h
theorem ge_bl {a b : List UInt8} (h : ¬ a < b) : Op.bytesLess a b = false := by rw [bl_iff]; simpa using h
theorem place (a : List UInt8) : ∀ (l : List AcL), l.Pairwise (fun x y => x.a < y.a) → ∃ l1 l2, (∀ x ∈ l1, x.a < a) ∧ ((∃ x, l = l1 ++ x :: l2 ∧ x.a = a ∧ ∀ y ∈ l2, a < y.a) ∨ (l = l1 ++ l2 ∧ ∀ y ∈ l2, a < y.a))
  | [], _ => ⟨[], [], fun x hx => by simp at hx, .inr ⟨rfl, fun y hy => by simp at hy⟩⟩
  | x :: l, h => by
    obtain ⟨h1, h2⟩ := List.pairwise_cons.1 h
    by_cases hlt : x.a < a
    · obtain ⟨l1, l2, h3, h4⟩ := place a l h2
      refine ⟨x :: l1, l2, fun y hy => ?_, ?_⟩
      · rcases List.mem_cons.1 hy with rfl | hy
        · exact hlt
        · exact h3 y hy
      · rcases h4 with ⟨y, rfl, hy, hz⟩ | ⟨rfl, hz⟩
        · exact .inl ⟨y, rfl, hy, hz⟩
        · exact .inr ⟨rfl, hz⟩
    · by_cases he : x.a = a
      · exact ⟨[], l, fun y hy => by simp at hy, .inl ⟨x, rfl, he, fun y hy => he ▸ h1 y hy⟩⟩
      · refine ⟨[], x :: l, fun y hy => by simp at hy, .inr ⟨rfl, fun y hy => ?_⟩⟩
        have hxa : a < x.a := Classical.byContradiction fun hn => he (List.le_antisymm (List.not_lt.1 hn) (List.not_lt.1 hlt))
        rcases List.mem_cons.1 hy with rfl | hy
        · exact hxa
        · exact List.lt_trans hxa (h1 y hy)
structure Amid (A : As) (N : Nat) (a : List UInt8) (l1 : List AcL) (x : AcL) (l2 : List AcL) : Prop where
  ad : x.a = a
  lo : ∀ y ∈ l1, y.a < a
  hi : ∀ y ∈ l2, a < y.a
  o1 : l1.Pairwise fun x y => x.a < y.a
  o2 : l2.Pairwise fun x y => x.a < y.a
  m1 : ∀ y ∈ l1, y.Is (A y.a)
  m2 : ∀ y ∈ l2, y.Is (A y.a)
  is : x.Is (A a)
  b1 : ∀ y ∈ l1, y.Small N
  b2 : ∀ y ∈ l2, y.Small N
  bx : x.Small N
  out : ∀ b, b ∉ l1.map AcL.a → b ∉ l2.map AcL.a → b ≠ a → A b = Ac.zero
theorem Amid.upd {A : As} {N M : Nat} {a : List UInt8} {l1 l2 : List AcL} {x x' : AcL} {y : Ac} (h : Amid A N a l1 x l2) (hx : x'.a = a) (hi : x'.Is y) (hs : x'.Small M) (hm : N ≤ M) : RL (A.upd a y) M (l1 ++ x' :: l2) := by
  refine ⟨fun u hu => ?_, List.pairwise_append.2 ⟨h.o1, List.pairwise_cons.2 ⟨fun z hz => hx ▸ h.hi z hz, h.o2⟩, fun u hu z hz => ?_⟩, fun u hu => ?_, fun b hb => ?_⟩
  · rcases List.mem_append.1 hu with hu | hu
    · exact (h.b1 u hu).mono hm
    · rcases List.mem_cons.1 hu with rfl | hu
      · exact hs
      · exact (h.b2 u hu).mono hm
  · rcases List.mem_cons.1 hz with rfl | hz
    · exact hx ▸ h.lo u hu
    · exact List.lt_trans (h.lo u hu) (h.hi z hz)
  · unfold As.upd
    rcases List.mem_append.1 hu with hu | hu
    · rw [if_neg fun e => List.lt_irrefl a (by have := h.lo u hu; rwa [← e] at this)]
      exact h.m1 u hu
    · rcases List.mem_cons.1 hu with rfl | hu
      · rw [if_pos hx.symm]
        exact hi
      · rw [if_neg fun e => List.lt_irrefl a (by have := h.hi u hu; rwa [← e] at this)]
        exact h.m2 u hu
  · unfold As.upd
    simp only [List.map_append, List.map_cons, List.mem_append, List.mem_cons, not_or] at hb
    rw [if_neg fun e => hb.2.1 (hx.trans e).symm]
    exact h.out b hb.1 hb.2.2 fun e => hb.2.1 (e.trans hx.symm)
theorem rat {g N : Nat} {L k : Value} {n : Int} {A : As} {l : List AcL} (h : RL A N l) (a : List UInt8) (hll : l.length < 1099511627) : FnM 113 [.v (ptr g), .arr 20 a] [rsO g L k n, raA L l] (fun r os' => ∃ L' l1 x l2, Amid A N a l1 x l2 ∧ l1.length + 1 + l2.length ≤ l.length + 1 ∧ r = .val (.v (elemPtr L' ((l1.length : Int).toNat * 55))) ∧ os' = [rsO g L' k n, raA L' (l1 ++ x :: l2)]) := by
  obtain ⟨l1, l2, h1, h2⟩ := place a l h.ord
  have hlo : ∀ j (hj : j < l.length), j < l1.length → Op.bytesLess l[j].a a = true := fun j hj hjl => by
    have e : l[j] = l1[j] := by rcases h2 with ⟨x, rfl, _⟩ | ⟨rfl, _⟩ <;> rw [List.getElem_append_left hjl]
    rw [e]
    exact lt_bl (h1 _ (List.getElem_mem hjl))
  rcases h2 with ⟨x, rfl, hx, h3⟩ | ⟨rfl, h3⟩
  · have hkk : l1.length < (l1 ++ x :: l2).length := by simp
    have he : (l1 ++ x :: l2)[l1.length].a = a := by rw [List.getElem_append_right (Nat.le_refl _)]; simpa using hx
    refine FnM.mono (rat_in (g := g) (L := L) (k := k) (n := n) (l1 ++ x :: l2) a (by omega) l1.length hkk hlo he) ?_
    rintro r _ ⟨rfl, rfl⟩
    have ho := List.pairwise_append.1 h.ord
    refine ⟨L, l1, x, l2, ⟨hx, h1, h3, ho.1, (List.pairwise_cons.1 ho.2.1).2, fun y hy => h.mem y (List.mem_append_left _ hy), fun y hy => h.mem y (List.mem_append_right _ (List.mem_cons_of_mem _ hy)), hx ▸ h.mem x (by simp), fun y hy => h.bd y (List.mem_append_left _ hy), fun y hy => h.bd y (List.mem_append_right _ (List.mem_cons_of_mem _ hy)), h.bd x (by simp), fun b hb1 hb2 hb => h.out b ?_⟩, by simp; omega, rfl, rfl⟩
    simp only [List.map_append, List.map_cons, List.mem_append, List.mem_cons, not_or]
    exact ⟨hb1, fun e => hb (e.trans hx), hb2⟩
  · refine FnM.mono (rat_out (g := g) (L := L) (k := k) (n := n) (l1 ++ l2) a hll l1.length (by simp) hlo fun hj => ?_) ?_
    · have hj2 : 0 < l2.length := by simp at hj; exact hj
      have e : (l1 ++ l2)[l1.length] = l2[0] := by rw [List.getElem_append_right (Nat.le_refl _)]; simp
      rw [e]
      have h4 := h3 _ (List.getElem_mem hj2)
      refine ⟨ge_bl fun h5 => List.lt_irrefl _ (List.lt_trans h4 h5), ?_⟩
      simp only [bne_iff_ne, ne_eq]
      exact fun e => List.lt_irrefl a (by rwa [e] at h4)
    · rintro r _ ⟨L', rfl, rfl⟩
      have ho := List.pairwise_append.1 h.ord
      have hnl : a ∉ (l1 ++ l2).map AcL.a := fun hm => by
        obtain ⟨y, hy, e⟩ := List.mem_map.1 hm
        rcases List.mem_append.1 hy with hy | hy
        · exact List.lt_irrefl a (by have := h1 y hy; rwa [e] at this)
        · exact List.lt_irrefl a (by have := h3 y hy; rwa [e] at this)
      refine ⟨L', l1, AcL.none a, l2, ⟨rfl, h1, h3, ho.1, ho.2.1, fun y hy => h.mem y (List.mem_append_left _ hy), fun y hy => h.mem y (List.mem_append_right _ hy), by rw [h.out a hnl]; exact AcL.none_is a, fun y hy => h.bd y (List.mem_append_left _ hy), fun y hy => h.bd y (List.mem_append_right _ hy), ⟨Nat.zero_le _, Nat.zero_le _⟩, fun b hb1 hb2 hb => h.out b ?_⟩, by simp; omega, rfl, by simp⟩
      simp only [List.map_append, List.mem_append, not_or]
      exact ⟨hb1, hb2⟩
end E
end Go.Proofs.YtdhicdnmgmkpkaaGreat
/-
  The reference's state at accounts with code and slots: SetBalance, SetNonce, SetCode, Kill.
  Conditions: none.
-/
namespace Go.Proofs.YtdhicdnmgmkpkaaGreat
set_option linter.unusedVariables false
open Go.RowKit Mono Rlp Wd
namespace E
def RSt (g : Nat) (A : As) (N : Nat) (os : List Obj) : Prop := ∃ L k n l, os = [rsO g L k n, raA L l] ∧ RL A N l ∧ l.length ≤ N
theorem set_amid (l1 l2 : List AcL) (x x' : AcL) : ((l1 ++ x :: l2).map dAcL).set l1.length (dAcL x') = (l1 ++ x' :: l2).map dAcL := by simp
theorem get_amid (l1 l2 : List AcL) (x : AcL) : ((l1 ++ x :: l2).map dAcL)[l1.length]? = some (dAcL x) := by simp
variable {g N : Nat} {A : As} {os : List Obj} {a : List UInt8}
theorem RSt.of {L k : Value} {n : Int} {l1 l2 : List AcL} {x x' : AcL} {y : Ac} (h : Amid A N a l1 x l2) (hl : l1.length + 1 + l2.length ≤ N + 1) (hx : x'.a = a) (hs : x'.Small (N + 1)) (hi : x'.Is y) : RSt g (A.upd a y) (N + 1) [rsO g L k n, raA L (l1 ++ x' :: l2)] := ⟨L, k, n, _, rfl, h.upd hx hi hs (Nat.le_succ _), by simp; omega⟩
set_option maxRecDepth 20000 in
set_option maxHeartbeats 8000000 in
theorem rs_setBalance (h : RSt g A N os) (hN : N ≤ 1000000) (w : List UInt8) : FnM 63 [.v (ptr g), .arr 20 a, .arr 32 w] os (fun r os' => r = .tpl [] ∧ RSt g (A.upd a {A a with w := w}) (N + 1) os') := by
  obtain ⟨L, k, n, l, rfl, hR, hlN⟩ := h
  have h1 := rat (g := g) (L := L) (k := k) (n := n) hR a (by omega)
  refine FnM.walk 12 Tryz.func63 rfl Tryz.ntmps63 (by simp) fun X => ?_
  repeat
    (first
     | (apply P_box; exact rfl; exact rfl; exact rfl; intro _) | apply EL.nil | ((with_reducible apply EK.then_normal); apply EK.code)
     | (with_reducible first | apply EC.seq | apply EC.region | apply EC.skip | apply EC.label | apply EC.block | apply EC.exit | apply EC.ret | apply EK.in_normal | apply EK.in_same | apply EK.in_ret | apply EK.then_ret | apply EK.then_exit))
  refine EC.le (Le.pick [2, 3, 0, 1] [_, _, _, _] rfl (by decide) rfl) ?_
  refine EC.drawC 4 [0, 1, 3] [2] [_, _] _ (by kernel_rfl) (by kernel_rfl) rfl ?_
  simp only [pickL, List.filterMap_cons, List.filterMap_nil, List.getElem?_cons_zero, List.getElem?_cons_succ]
  repeat
    (first
     | (apply H_move; (iterate 3 exact rfl)) | (apply H_load; exact rfl; (first | exact I0 | exact I1 | exact I2 | exact I3 | exact I4 | exact I5 | exact I6); (iterate 4 exact rfl)))
  refine EM.nil ?_
  repeat (first | rw [List.cons_append] | rw [List.nil_append])
  refine CH.callM (rest := []) h1 rfl rfl (RefineL.refl _ _) (by intro _ _; simp [go_sem]) rfl rfl ?_
  rintro _ _ ⟨L', l1, x, l2, ha, hll, rfl, rfl⟩
  try simp only [St.put]
  repeat (first | rw [List.cons_append] | rw [List.nil_append])
  refine CH.nil ?_
  try simp only [List.drop_succ_cons, List.drop_zero]
  have hd := get_amid l1 l2 x
  obtain ⟨xa, xn, xw, xc, xs⟩ := x
  repeat
    (first
     | (apply P_rowstore (k := l1.length) (off := 21) (d := dAcL ⟨xa, xn, xw, xc, xs⟩) (d'' := dAcL ⟨xa, xn, w, xc, xs⟩); exact rfl; exact .s .z; exact ⟨by simp, hd⟩; (iterate 4 exact rfl))
     | (apply P_rownil; exact rfl; (first | exact I0 | exact I1 | exact I2 | exact I3 | exact I4 | exact I5 | exact I6); (focus (first | omega | (simp; done) | (simp; omega))); (iterate 2 exact rfl))
     | (apply P_rowfield; exact rfl; (first | exact I0 | exact I1 | exact I2 | exact I3 | exact I4 | exact I5 | exact I6); (focus (first | omega | (simp; done) | (simp; omega))); (iterate 5 exact rfl))
     | apply EL.nil)
  have hs := ha.is
  exact EK.retM0n [rsO g L' k n, .row L' 74 55 (((l1 ++ ⟨xa, xn, xw, xc, xs⟩ :: l2).map dAcL).set l1.length (dAcL ⟨xa, xn, w, xc, xs⟩))] rfl (by (repeat first | exact List.nil_sublist _ | apply List.Sublist.cons_cons | apply List.Sublist.cons)) ⟨rfl, by rw [set_amid]; exact RSt.of ha (by omega) ha.ad (ha.bx.mono (Nat.le_succ _)) ⟨hs.n, rfl, hs.cd, hs.ord, hs.val, hs.all⟩⟩
set_option maxRecDepth 20000 in
set_option maxHeartbeats 8000000 in
theorem rs_setNonce (h : RSt g A N os) (hN : N ≤ 1000000) (v : Int) : FnM 62 [.v (ptr g), .arr 20 a, .v (.int .i64 v)] os (fun r os' => r = .tpl [] ∧ RSt g (A.upd a {A a with n := if v > 0 then v else 0}) (N + 1) os') := by
  obtain ⟨L, k, n, l, rfl, hR, hlN⟩ := h
  have h1 := rat (g := g) (L := L) (k := k) (n := n) hR a (by omega)
  refine FnM.walk 14 Tryz.func62 rfl Tryz.ntmps62 (by simp) fun X => ?_
  by_cases hv : v < 0
  · rw [show (if v > 0 then v else 0) = 0 by rw [if_neg (by omega)]]
    repeat
      (first
       | (apply P_callT h1 [_] rfl rfl (RefineL.refl _ _) (by intro _ _; simp [go_sem]) rfl rfl; rintro _ _ ⟨L', l1, x, l2, ha, hll, rfl, rfl⟩; simp only [List.cons_append, List.nil_append]; have hd := get_amid l1 l2 x; obtain ⟨xa, xn, xw, xc, xs⟩ := x)
       | (apply P_rowstore (k := l1.length) (off := 20) (d := dAcL ⟨xa, xn, xw, xc, xs⟩) (d'' := dAcL ⟨xa, 0, xw, xc, xs⟩); exact rfl; exact .s (.s .z); exact ⟨by simp, hd⟩; (iterate 4 exact rfl))
       | (apply P_move; (iterate 3 exact rfl)) | (apply P_assign; (iterate 3 exact rfl))
       | (apply P_load; exact rfl; (first | exact I0 | exact I1 | exact I2 | exact I3 | exact I4 | exact I5 | exact I6); (iterate 4 exact rfl))
       | (apply P_cmp (b := true); (iterate 2 exact rfl); (focus (first | (simp [cmpI]; done) | (simp [cmpI]; omega))); (iterate 2 exact rfl))
       | (apply P_rownil; exact rfl; (first | exact I0 | exact I1 | exact I2 | exact I3 | exact I4 | exact I5 | exact I6); (focus (first | omega | (simp; done) | (simp; omega))); (iterate 2 exact rfl))
       | (apply P_rowfield; exact rfl; (first | exact I0 | exact I1 | exact I2 | exact I3 | exact I4 | exact I5 | exact I6); (focus (first | omega | (simp; done) | (simp; omega))); (iterate 5 exact rfl))
       | (apply P_box; exact rfl; exact rfl; exact rfl; intro _) | apply EL.nil | ((with_reducible apply EK.then_normal); apply EK.code) | (apply EC.cond_true; exact rfl)
       | (with_reducible first | apply EC.seq | apply EC.region | apply EC.skip | apply EC.label | apply EC.block | apply EC.exit | apply EC.ret | apply EK.in_normal | apply EK.in_same | apply EK.in_ret | apply EK.then_ret | apply EK.then_exit))
    have hs := ha.is
    exact EK.retM0n [rsO g L' k n, .row L' 74 55 (((l1 ++ ⟨xa, xn, xw, xc, xs⟩ :: l2).map dAcL).set l1.length (dAcL ⟨xa, 0, xw, xc, xs⟩))] rfl (by (repeat first | exact List.nil_sublist _ | apply List.Sublist.cons_cons | apply List.Sublist.cons)) ⟨rfl, by rw [set_amid]; exact RSt.of ha (by omega) ha.ad (ha.bx.mono (Nat.le_succ _)) ⟨rfl, hs.w, hs.cd, hs.ord, hs.val, hs.all⟩⟩
  · rw [show (if v > 0 then v else 0) = v by split <;> omega]
    repeat
      (first
       | (apply P_callT h1 [_] rfl rfl (RefineL.refl _ _) (by intro _ _; simp [go_sem]) rfl rfl; rintro _ _ ⟨L', l1, x, l2, ha, hll, rfl, rfl⟩; simp only [List.cons_append, List.nil_append]; have hd := get_amid l1 l2 x; obtain ⟨xa, xn, xw, xc, xs⟩ := x)
       | (apply P_rowstore (k := l1.length) (off := 20) (d := dAcL ⟨xa, xn, xw, xc, xs⟩) (d'' := dAcL ⟨xa, v, xw, xc, xs⟩); exact rfl; exact .s (.s .z); exact ⟨by simp, hd⟩; (iterate 4 exact rfl))
       | (apply P_move; (iterate 3 exact rfl)) | (apply P_load; exact rfl; (first | exact I0 | exact I1 | exact I2 | exact I3 | exact I4 | exact I5 | exact I6); (iterate 4 exact rfl))
       | (apply P_cmp (b := false); (iterate 2 exact rfl); (focus (first | (simp [cmpI]; done) | (simp [cmpI]; omega))); (iterate 2 exact rfl))
       | (apply P_rownil; exact rfl; (first | exact I0 | exact I1 | exact I2 | exact I3 | exact I4 | exact I5 | exact I6); (focus (first | omega | (simp; done) | (simp; omega))); (iterate 2 exact rfl))
       | (apply P_rowfield; exact rfl; (first | exact I0 | exact I1 | exact I2 | exact I3 | exact I4 | exact I5 | exact I6); (focus (first | omega | (simp; done) | (simp; omega))); (iterate 5 exact rfl))
       | (apply P_box; exact rfl; exact rfl; exact rfl; intro _) | apply EL.nil | ((with_reducible apply EK.then_normal); apply EK.code) | (apply EC.cond_false; exact rfl)
       | (with_reducible first | apply EC.seq | apply EC.region | apply EC.skip | apply EC.label | apply EC.block | apply EC.exit | apply EC.ret | apply EK.in_normal | apply EK.in_same | apply EK.in_ret | apply EK.then_ret | apply EK.then_exit))
    have hs := ha.is
    exact EK.retM0n [rsO g L' k n, .row L' 74 55 (((l1 ++ ⟨xa, xn, xw, xc, xs⟩ :: l2).map dAcL).set l1.length (dAcL ⟨xa, v, xw, xc, xs⟩))] rfl (by (repeat first | exact List.nil_sublist _ | apply List.Sublist.cons_cons | apply List.Sublist.cons)) ⟨rfl, by rw [set_amid]; exact RSt.of ha (by omega) ha.ad (ha.bx.mono (Nat.le_succ _)) ⟨rfl, hs.w, hs.cd, hs.ord, hs.val, hs.all⟩⟩
set_option maxRecDepth 20000 in
set_option maxHeartbeats 8000000 in
theorem rs_setCode (h : RSt g A N os) (hN : N ≤ 1000000) (v : List UInt8) (hv : v.length ≤ 140737488355328) : FnM 64 [.v (ptr g), .arr 20 a, .bs v] os (fun r os' => r = .tpl [] ∧ RSt g (A.upd a {A a with cd := v}) (N + 1) os') := by
  obtain ⟨L, k, n, l, rfl, hR, hlN⟩ := h
  have h1 := rat (g := g) (L := L) (k := k) (n := n) hR a (by omega)
  refine FnM.walk 13 Tryz.func64 rfl Tryz.ntmps64 (by simp) fun X => ?_
  repeat
    (first
     | (apply P_callT h1 [_] rfl rfl (RefineL.refl _ _) (by intro _ _; simp [go_sem]) rfl rfl; rintro _ _ ⟨L', l1, x, l2, ha, hll, rfl, rfl⟩; simp only [List.cons_append, List.nil_append]; have hd := get_amid l1 l2 x; obtain ⟨xa, xn, xw, xc, xs⟩ := x)
     | (apply P_apnew hv; (iterate 3 exact rfl))
     | (apply P_rowstore (k := l1.length) (off := 53) (d := dAcL ⟨xa, xn, xw, xc, xs⟩) (d'' := dAcL ⟨xa, xn, xw, v, xs⟩); exact rfl; exact .s (.s .z); exact ⟨by simp, hd⟩; (iterate 4 exact rfl))
     | (apply P_move; (iterate 3 exact rfl)) | (apply P_load; exact rfl; (first | exact I0 | exact I1 | exact I2 | exact I3 | exact I4 | exact I5 | exact I6); (iterate 4 exact rfl))
     | (apply P_rownil; exact rfl; (first | exact I0 | exact I1 | exact I2 | exact I3 | exact I4 | exact I5 | exact I6); (focus (first | omega | (simp; done) | (simp; omega))); (iterate 2 exact rfl))
     | (apply P_rowfield; exact rfl; (first | exact I0 | exact I1 | exact I2 | exact I3 | exact I4 | exact I5 | exact I6); (focus (first | omega | (simp; done) | (simp; omega))); (iterate 5 exact rfl))
     | (apply P_box; exact rfl; exact rfl; exact rfl; intro _) | apply EL.nil | ((with_reducible apply EK.then_normal); apply EK.code)
     | (with_reducible first | apply EC.seq | apply EC.region | apply EC.skip | apply EC.label | apply EC.block | apply EC.exit | apply EC.ret | apply EK.in_normal | apply EK.in_same | apply EK.in_ret | apply EK.then_ret | apply EK.then_exit))
  have hs := ha.is
  exact EK.retM0n [rsO g L' k n, .row L' 74 55 (((l1 ++ ⟨xa, xn, xw, xc, xs⟩ :: l2).map dAcL).set l1.length (dAcL ⟨xa, xn, xw, v, xs⟩))] rfl (by (repeat first | exact List.nil_sublist _ | apply List.Sublist.cons_cons | apply List.Sublist.cons)) ⟨rfl, by rw [set_amid]; exact RSt.of ha (by omega) ha.ad ⟨Nat.le_trans ha.bx.1 (Nat.le_succ _), hv⟩ ⟨hs.n, hs.w, rfl, hs.ord, hs.val, hs.all⟩⟩
set_option maxRecDepth 20000 in
set_option maxHeartbeats 8000000 in
theorem rs_kill (h : RSt g A N os) (hN : N ≤ 1000000) : FnM 61 [.v (ptr g), .arr 20 a] os (fun r os' => r = .tpl [] ∧ RSt g (A.upd a Ac.zero) (N + 1) os') := by
  obtain ⟨L, k, n, l, rfl, hR, hlN⟩ := h
  have h1 := rat (g := g) (L := L) (k := k) (n := n) hR a (by omega)
  refine FnM.walk 10 Tryz.func61 rfl Tryz.ntmps61 (by simp) fun X => ?_
  repeat
    (first
     | (apply P_box; exact rfl; exact rfl; exact rfl; intro _) | apply EL.nil | ((with_reducible apply EK.then_normal); apply EK.code)
     | (with_reducible first | apply EC.seq | apply EC.region | apply EC.skip | apply EC.label | apply EC.block | apply EC.exit | apply EC.ret | apply EK.in_normal | apply EK.in_same | apply EK.in_ret | apply EK.then_ret | apply EK.then_exit))
  refine EC.le (Le.pick [1, 2, 0] [_, _, _] rfl (by decide) rfl) ?_
  refine EC.drawC 5 [0, 1, 3, 4] [2] [_, _] _ (by kernel_rfl) (by kernel_rfl) rfl ?_
  simp only [pickL, List.filterMap_cons, List.filterMap_nil, List.getElem?_cons_zero, List.getElem?_cons_succ]
  repeat
    (first
     | (apply H_move; (iterate 3 exact rfl)) | (apply H_load; exact rfl; (first | exact I0 | exact I1 | exact I2 | exact I3 | exact I4 | exact I5 | exact I6); (iterate 4 exact rfl))
     | (apply H_build; (iterate 7 exact rfl)))
  refine EM.nil ?_
  repeat (first | rw [List.cons_append] | rw [List.nil_append])
  refine CH.callM (rest := []) h1 rfl rfl (RefineL.refl _ _) (by intro _ _; simp [go_sem]) rfl rfl ?_
  rintro _ _ ⟨L', l1, x, l2, ha, hll, rfl, rfl⟩
  try simp only [St.put]
  repeat (first | rw [List.cons_append] | rw [List.nil_append])
  refine CH.nil ?_
  try simp only [List.drop_succ_cons, List.drop_zero]
  have hd := get_amid l1 l2 x
  repeat
    (first
     | (apply P_rowstore (k := l1.length) (off := 0) (d := dAcL x) (d'' := .tup [.arr 20 a, .v (.int .i64 0), .arr 32 zero32, .v nilS, .v nilS]); exact rfl; exact .s .z; exact ⟨by simp, hd⟩; (iterate 4 exact rfl))
     | (apply P_rownil; exact rfl; (first | exact I0 | exact I1 | exact I2 | exact I3 | exact I4 | exact I5 | exact I6); (focus (first | omega | (simp; done) | (simp; omega))); (iterate 2 exact rfl))
     | apply EL.nil)
  have hR2 : ∀ F : List (Value × D), RefineL F (((l1 ++ x :: l2).map dAcL).set l1.length (.tup [.arr 20 a, .v (.int .i64 0), .arr 32 zero32, .v nilS, .v nilS])) ((l1 ++ AcL.none a :: l2).map dAcL) := fun F => by
    rw [show (((l1 ++ x :: l2).map dAcL).set l1.length (D.tup [.arr 20 a, .v (.int .i64 0), .arr 32 zero32, .v nilS, .v nilS])) = l1.map dAcL ++ ([D.tup [.arr 20 a, .v (.int .i64 0), .arr 32 zero32, .v nilS, .v nilS]] ++ l2.map dAcL) by simp, show (l1 ++ AcL.none a :: l2).map dAcL = l1.map dAcL ++ ([dAcL (AcL.none a)] ++ l2.map dAcL) by simp]
    exact RL.append (RefineL.refl _ _) (RL.append (RL.cons (Rf.tup (RL.cons Rf.same (RL.cons Rf.same (RL.cons Rf.same (RL.cons Rf.bs0 (RL.cons Rf.sl0 RL.nil)))))) RL.nil) (RefineL.refl _ _))
  refine EK.le (Le.pick [1, 0, 2] [_, _, _] rfl (by decide) rfl) ?_
  refine EK.le (Le.rowR (hR2 _)) ?_
  refine EK.le (Le.pick [1, 0, 2] [_, _, _] rfl (by decide) rfl) ?_
  exact EK.retM0n [rsO g L' k n, raA L' (l1 ++ AcL.none a :: l2)] rfl (by (repeat first | exact List.nil_sublist _ | apply List.Sublist.cons_cons | apply List.Sublist.cons)) ⟨rfl, RSt.of ha (by omega) rfl ⟨Nat.zero_le _, Nat.zero_le _⟩ (AcL.none_is a)⟩
end E
end Go.Proofs.YtdhicdnmgmkpkaaGreat
