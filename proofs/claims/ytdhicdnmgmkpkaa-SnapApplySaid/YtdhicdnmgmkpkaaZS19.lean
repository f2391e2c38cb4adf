/-
  Merged (wip/tools/merge.py): SU9, SUA, ET.
  Conditions: none.
-/
import Derived.Test.YtdhicdnmgmkpkaaZS18
import Derived.Test.YtdhicdnmgmkpkaaZS14
/-
  The program's snap.Apply: changes of accounts.
  Conditions: none.
-/
namespace Go.Proofs.Ytdhicdnmgmkpkaa
set_option linter.unusedVariables false
open Go.RowKit Mono Rlp Wd Go.Sort
namespace E
section
variable {N : Nat} {X : Cx N} {ops : Array Oper} {Q : Exit → Act → World → Prop}
theorem P_callT {l' : List Oper} {t ty f : Nat} {pos : String} {af : Array Edge} {gd : Option (Nat × Bool)} {args : Array Operand} {tys : Array TypeId} {ds ds' : List D} {Φ : R → List Obj → Prop} {rs : List (Tmp × R)} {os os0 : List Obj} {fs : List (Value × D)} (hF : FnM f ds' os Φ) (l1 : List Obj) (hos : os0 = l1 ++ os)
    (hx : evs (⟨rs, l1, fs⟩ : St) args.toList = some ds) (hR : RefineL fs ds ds') (hf : Enters f) (hg : guardOf ops ⟨rs, os ++ l1, fs⟩ ⟨some t, .call { callee := .value (.func f), args := args, argTypes := tys }, ty, pos, af, gd⟩ = some true) (hN : Nat.blt t N = true) (k : ∀ r os', Φ r os' → EL X ops Q l' ⟨(t, r) :: rs, l1 ++ os', fs⟩) : EL X ops Q (⟨some t, .call { callee := .value (.func f), args := args, argTypes := tys }, ty, pos, af, gd⟩ :: l') ⟨rs, os0, fs⟩ := by
  subst hos
  exact EL.le (Le.perm List.perm_append_comm) (P_callM hF rfl hx hR hf hg hN fun r os' h => EL.le (Le.perm List.perm_append_comm) (k r os' h))
end
theorem PA.Is.mono {p : PA} {x : Ac} {N M : Nat} (h : p.Is x N) (hm : N ≤ M) : p.Is x M := ⟨h.n, h.w, h.cd, h.sl, h.ent, h.nod, Nat.le_trans h.len hm, h.cl⟩
theorem PSt.mono {g N M : Nat} {A : As} {os : List Obj} (h : PSt g A N os) (hm : N ≤ M) : PSt g A M os := by
  obtain ⟨m, c, es, u, k, n, us, ps, h1, hi, hu⟩ := h
  exact ⟨m, c, es, u, k, n, us, ps, h1, ⟨hi.out, fun a d h => by obtain ⟨p, h1, h2, h3⟩ := hi.inn a d h; exact ⟨p, h1, h2, h3.mono hm⟩, hi.inj, hi.nod, Nat.le_trans hi.len hm⟩, hu⟩
structure ChL where
  a : List UInt8
  gone : Bool
  n : Int
  w : List UInt8
  cd : List UInt8
  sl : List (List UInt8 × List UInt8)
def dChL (c : ChL) : D := .tup [.arr 20 c.a, .v (.bool c.gone), .v (.int .i64 c.n), .arr 32 c.w, .bs c.cd, .sl 64 (c.sl.map dSlL)]
def ChL.base (c : ChL) (A : As) : As :=
  let A1 := if c.gone = true then A.upd c.a Ac.zero else A
  let A2 := A1.upd c.a {A1 c.a with n := if c.n > 0 then c.n else 0}
  let A3 := A2.upd c.a {A2 c.a with w := c.w}
  A3.upd c.a {A3 c.a with cd := c.cd}
def slots1 (a : List UInt8) (sl : List (List UInt8 × List UInt8)) (A : As) : As := sl.foldl (fun A p => A.upd a ((A a).slot p.1 p.2)) A
def ChL.of (c : ChL) (A : As) : As := slots1 c.a c.sl (c.base A)
theorem slots1_snoc (a : List UInt8) (sl : List (List UInt8 × List UInt8)) (p : List UInt8 × List UInt8) (A : As) : slots1 a (sl ++ [p]) A = (slots1 a sl A).upd a ((slots1 a sl A a).slot p.1 p.2) := by unfold slots1; rw [List.foldl_append]; rfl
set_option maxRecDepth 20000 in
set_option maxHeartbeats 16000000 in
theorem apply1 {g N : Nat} {A : As} {os : List Obj} (h : PSt g A N os) (c : ChL) (hc : c.cd.length ≤ 140737488355328) (hs : c.sl.length ≤ 1000000) : FnM 63 [.v (ptr g), dChL c] os (fun r os' => r = .tpl [] ∧ PSt g (c.of A) (N + 4 + c.sl.length) os') := by
  obtain ⟨ca, cg, cn, cw, cc, cs⟩ := c
  dsimp only at hc hs
  have hml : (cs.map dSlL).length = cs.length := List.length_map _
  unfold dChL ChL.of
  dsimp only
  refine FnM.walk 46 Try.func63 rfl Try.ntmps63 (by simp) fun X => ?_
  cases cg with
  | true =>
    repeat
      (first
       | (apply P_callT (ps_kill h (a := ca)) [_] rfl rfl (RefineL.refl _ _) (by intro _ _; simp [go_sem]) rfl rfl; rintro _ os1 ⟨rfl, h1⟩; simp only [List.cons_append, List.nil_append])
       | (apply P_callT (ps_setNonce h1 (a := ca) cn) [_] rfl rfl (RefineL.refl _ _) (by intro _ _; simp [go_sem]) rfl rfl; rintro _ os2 ⟨rfl, h2⟩; simp only [List.cons_append, List.nil_append])
       | (apply P_callT (ps_setBalance h2 (a := ca) cw) [_] rfl rfl (RefineL.refl _ _) (by intro _ _; simp [go_sem]) rfl rfl; rintro _ os3 ⟨rfl, h3⟩; simp only [List.cons_append, List.nil_append])
       | (apply P_callT (ps_setCode h3 (a := ca) cc hc) [_] rfl rfl (RefineL.refl _ _) (by intro _ _; simp [go_sem]) rfl rfl; rintro _ os4 ⟨rfl, h4⟩; simp only [List.cons_append, List.nil_append])
       | (apply P_move; (iterate 3 exact rfl)) | (apply P_field; (iterate 6 exact rfl))
       | (apply P_load; exact rfl; (first | exact I0 | exact I1 | exact I2 | exact I3 | exact I4 | exact I5 | exact I6); (iterate 4 exact rfl)) | (apply P_lensl; (iterate 4 exact rfl))
       | (apply P_box; exact rfl; exact rfl; exact rfl; intro _) | apply EL.nil | ((with_reducible apply EK.then_normal); apply EK.code) | (apply EC.cond_true; exact rfl)
       | (with_reducible first | apply EC.seq | apply EC.region | apply EC.skip | apply EC.label | apply EC.block | apply EC.exit | apply EC.ret | apply EK.in_normal | apply EK.in_same | apply EK.in_ret | apply EK.then_ret | apply EK.then_exit))
    have h5 : PSt g (ChL.base ⟨ca, true, cn, cw, cc, cs⟩ A) (N + 4) os4 := h4
    generalize ChL.base ⟨ca, true, cn, cw, cc, cs⟩ A = A4 at h5 ⊢
    clear h1 h2 h3 h4
    rename_i g3
    refine EC.loop (ι := {x : Nat × List Obj // x.1 ≤ cs.length ∧ PSt g (slots1 ca (cs.take x.1) A4) (N + 4 + x.1) x.2})
      (fun x => ⟨[(33, .val (.v (.int .i64 (x.1.1 : Int)))), (32, .val (.v (.int .i64 (cs.map dSlL).length))), (31, .val (.sl 64 (cs.map dSlL))), (3, .val (.v (ptr g3))), (0, .val (.v (ptr g)))], .var g3 123 (.tup [.arr 20 ca, .v (.bool true), .v (.int .i64 cn), .arr 32 cw, .bs cc, .sl 64 (cs.map dSlL)]) :: x.1.2, []⟩)
      (fun x => cs.length - x.1.1) ⟨(0, os4), Nat.zero_le _, h5⟩ ?_ ?_
    · exact (Le.keep (by repeat first | exact trivial | refine ⟨rfl, ?_⟩) (by repeat first | exact List.Sublist.refl _ | apply List.Sublist.cons_cons | apply List.Sublist.cons) (by simp))
    rintro ⟨⟨j, os5⟩, hjl, h6⟩
    dsimp only at hjl h6 ⊢
    by_cases hlj : j < cs.length
    · have hd2 : (cs.map dSlL)[j]? = some (dSlL cs[j]) := by rw [List.getElem?_map, List.getElem?_eq_getElem hlj]; rfl
      have htk2 : cs.take (j + 1) = cs.take j ++ [cs[j]] := List.take_succ_eq_append_getElem hlj
      generalize cs[j] = y at hd2 htk2
      obtain ⟨q, v⟩ := y
      unfold dSlL at hd2
      dsimp only at hd2
      repeat
        (first
         | (apply P_callT (ps_setSlot h6 (a := ca) q v) [_, _] rfl rfl (RefineL.refl _ _) (by intro _ _; simp [go_sem]) rfl rfl; rintro _ os6 ⟨rfl, h7⟩; simp only [List.cons_append, List.nil_append])
         | (apply P_move; (iterate 3 exact rfl)) | (apply P_field; (iterate 6 exact rfl)) | (apply P_loadpd; (iterate 5 exact rfl))
         | (apply P_load; exact rfl; (first | exact I0 | exact I1 | exact I2 | exact I3 | exact I4 | exact I5 | exact I6); (iterate 4 exact rfl))
         | (apply P_cmp (b := true); (iterate 2 exact rfl); (focus (first | (simp [cmpI]; done) | (simp [cmpI]; omega))); (iterate 2 exact rfl))
         | (apply P_ar; (iterate 3 exact rfl); (focus omega); (focus omega); (iterate 2 exact rfl))
         | (apply P_index; (iterate 4 exact rfl); (focus (first | exact ⟨by decide, rfl⟩ | (refine ⟨by omega, ?_⟩; rw [Int.toNat_natCast]; assumption))); (iterate 2 exact rfl))
         | (apply P_alloc; exact rfl; exact rfl; exact rfl; intro _) | (apply P_store; exact rfl; (focus (repeat first | exact .z | apply SetAt.s | apply SetAtF.s)); (iterate 4 exact rfl)) | apply EL.nil
         | ((with_reducible apply EK.then_normal); apply EK.code) | (apply EC.cond_true; exact rfl)
         | (with_reducible first | apply EC.seq | apply EC.region | apply EC.skip | apply EC.label | apply EC.block | apply EC.exit | apply EC.ret | apply EK.in_normal | apply EK.in_same | apply EK.in_ret | apply EK.then_ret | apply EK.then_exit))
      refine EK.again ⟨(j + 1, os6), hlj, by rw [htk2, slots1_snoc]; exact h7⟩ (by dsimp only; omega) ?_
      simp only [Int.natCast_add]
      exact (Le.keep (by repeat first | exact trivial | refine ⟨rfl, ?_⟩) (by repeat first | exact List.Sublist.refl _ | apply List.Sublist.cons_cons | apply List.Sublist.cons) (by simp))
    · have hjE : j = cs.length := by omega
      subst hjE
      rw [List.take_length] at h6
      repeat
        (first
         | (apply P_cmp (b := false); (iterate 2 exact rfl); (focus (first | (simp [cmpI]; done) | (simp [cmpI]; omega))); (iterate 2 exact rfl)) | apply EL.nil
         | ((with_reducible apply EK.then_normal); apply EK.code) | (apply EC.cond_false; exact rfl)
         | (with_reducible first | apply EC.seq | apply EC.region | apply EC.skip | apply EC.label | apply EC.block | apply EC.exit | apply EC.ret | apply EK.in_normal | apply EK.in_same | apply EK.in_ret | apply EK.then_ret | apply EK.then_exit))
      exact EK.retM0n os5 rfl (by (repeat first | exact List.Sublist.refl _ | apply List.Sublist.cons_cons | apply List.Sublist.cons)) ⟨rfl, h6⟩
  | false =>
    repeat
      (first
       | (apply P_callT (ps_setNonce h (a := ca) cn) [_] rfl rfl (RefineL.refl _ _) (by intro _ _; simp [go_sem]) rfl rfl; rintro _ os2 ⟨rfl, h2⟩; simp only [List.cons_append, List.nil_append])
       | (apply P_callT (ps_setBalance h2 (a := ca) cw) [_] rfl rfl (RefineL.refl _ _) (by intro _ _; simp [go_sem]) rfl rfl; rintro _ os3 ⟨rfl, h3⟩; simp only [List.cons_append, List.nil_append])
       | (apply P_callT (ps_setCode h3 (a := ca) cc hc) [_] rfl rfl (RefineL.refl _ _) (by intro _ _; simp [go_sem]) rfl rfl; rintro _ os4 ⟨rfl, h4⟩; simp only [List.cons_append, List.nil_append])
       | (apply P_move; (iterate 3 exact rfl)) | (apply P_field; (iterate 6 exact rfl))
       | (apply P_load; exact rfl; (first | exact I0 | exact I1 | exact I2 | exact I3 | exact I4 | exact I5 | exact I6); (iterate 4 exact rfl)) | (apply P_lensl; (iterate 4 exact rfl))
       | (apply P_box; exact rfl; exact rfl; exact rfl; intro _) | apply EL.nil | ((with_reducible apply EK.then_normal); apply EK.code) | (apply EC.cond_false; exact rfl)
       | (with_reducible first | apply EC.seq | apply EC.region | apply EC.skip | apply EC.label | apply EC.block | apply EC.exit | apply EC.ret | apply EK.in_normal | apply EK.in_same | apply EK.in_ret | apply EK.then_ret | apply EK.then_exit))
    have h5 : PSt g (ChL.base ⟨ca, false, cn, cw, cc, cs⟩ A) (N + 4) os4 := h4.mono (by omega)
    generalize ChL.base ⟨ca, false, cn, cw, cc, cs⟩ A = A4 at h5 ⊢
    clear h2 h3 h4
    rename_i g3
    refine EC.loop (ι := {x : Nat × List Obj // x.1 ≤ cs.length ∧ PSt g (slots1 ca (cs.take x.1) A4) (N + 4 + x.1) x.2})
      (fun x => ⟨[(33, .val (.v (.int .i64 (x.1.1 : Int)))), (32, .val (.v (.int .i64 (cs.map dSlL).length))), (31, .val (.sl 64 (cs.map dSlL))), (3, .val (.v (ptr g3))), (0, .val (.v (ptr g)))], .var g3 123 (.tup [.arr 20 ca, .v (.bool false), .v (.int .i64 cn), .arr 32 cw, .bs cc, .sl 64 (cs.map dSlL)]) :: x.1.2, []⟩)
      (fun x => cs.length - x.1.1) ⟨(0, os4), Nat.zero_le _, h5⟩ ?_ ?_
    · exact (Le.keep (by repeat first | exact trivial | refine ⟨rfl, ?_⟩) (by repeat first | exact List.Sublist.refl _ | apply List.Sublist.cons_cons | apply List.Sublist.cons) (by simp))
    rintro ⟨⟨j, os5⟩, hjl, h6⟩
    dsimp only at hjl h6 ⊢
    by_cases hlj : j < cs.length
    · have hd2 : (cs.map dSlL)[j]? = some (dSlL cs[j]) := by rw [List.getElem?_map, List.getElem?_eq_getElem hlj]; rfl
      have htk2 : cs.take (j + 1) = cs.take j ++ [cs[j]] := List.take_succ_eq_append_getElem hlj
      generalize cs[j] = y at hd2 htk2
      obtain ⟨q, v⟩ := y
      unfold dSlL at hd2
      dsimp only at hd2
      repeat
        (first
         | (apply P_callT (ps_setSlot h6 (a := ca) q v) [_, _] rfl rfl (RefineL.refl _ _) (by intro _ _; simp [go_sem]) rfl rfl; rintro _ os6 ⟨rfl, h7⟩; simp only [List.cons_append, List.nil_append])
         | (apply P_move; (iterate 3 exact rfl)) | (apply P_field; (iterate 6 exact rfl)) | (apply P_loadpd; (iterate 5 exact rfl))
         | (apply P_load; exact rfl; (first | exact I0 | exact I1 | exact I2 | exact I3 | exact I4 | exact I5 | exact I6); (iterate 4 exact rfl))
         | (apply P_cmp (b := true); (iterate 2 exact rfl); (focus (first | (simp [cmpI]; done) | (simp [cmpI]; omega))); (iterate 2 exact rfl))
         | (apply P_ar; (iterate 3 exact rfl); (focus omega); (focus omega); (iterate 2 exact rfl))
         | (apply P_index; (iterate 4 exact rfl); (focus (first | exact ⟨by decide, rfl⟩ | (refine ⟨by omega, ?_⟩; rw [Int.toNat_natCast]; assumption))); (iterate 2 exact rfl))
         | (apply P_alloc; exact rfl; exact rfl; exact rfl; intro _) | (apply P_store; exact rfl; (focus (repeat first | exact .z | apply SetAt.s | apply SetAtF.s)); (iterate 4 exact rfl)) | apply EL.nil
         | ((with_reducible apply EK.then_normal); apply EK.code) | (apply EC.cond_true; exact rfl)
         | (with_reducible first | apply EC.seq | apply EC.region | apply EC.skip | apply EC.label | apply EC.block | apply EC.exit | apply EC.ret | apply EK.in_normal | apply EK.in_same | apply EK.in_ret | apply EK.then_ret | apply EK.then_exit))
      refine EK.again ⟨(j + 1, os6), hlj, by rw [htk2, slots1_snoc]; exact h7⟩ (by dsimp only; omega) ?_
      simp only [Int.natCast_add]
      exact (Le.keep (by repeat first | exact trivial | refine ⟨rfl, ?_⟩) (by repeat first | exact List.Sublist.refl _ | apply List.Sublist.cons_cons | apply List.Sublist.cons) (by simp))
    · have hjE : j = cs.length := by omega
      subst hjE
      rw [List.take_length] at h6
      repeat
        (first
         | (apply P_cmp (b := false); (iterate 2 exact rfl); (focus (first | (simp [cmpI]; done) | (simp [cmpI]; omega))); (iterate 2 exact rfl)) | apply EL.nil
         | ((with_reducible apply EK.then_normal); apply EK.code) | (apply EC.cond_false; exact rfl)
         | (with_reducible first | apply EC.seq | apply EC.region | apply EC.skip | apply EC.label | apply EC.block | apply EC.exit | apply EC.ret | apply EK.in_normal | apply EK.in_same | apply EK.in_ret | apply EK.then_ret | apply EK.then_exit))
      exact EK.retM0n os5 rfl (by (repeat first | exact List.Sublist.refl _ | apply List.Sublist.cons_cons | apply List.Sublist.cons)) ⟨rfl, h6⟩
end E
end Go.Proofs.Ytdhicdnmgmkpkaa
/-
  The program's snap.Apply: what changes make of accounts, as a list.
  Conditions: none.
-/
namespace Go.Proofs.Ytdhicdnmgmkpkaa
set_option linter.unusedVariables false
open Go.RowKit Mono Rlp Wd Go.Sort
namespace E
def applyA (A : As) (ch : List ChL) : As := ch.foldl (fun A c => c.of A) A
theorem applyA_snoc (A : As) (ch : List ChL) (c : ChL) : applyA A (ch ++ [c]) = c.of (applyA A ch) := by unfold applyA; rw [List.foldl_append]; rfl
set_option maxRecDepth 20000 in
set_option maxHeartbeats 16000000 in
theorem apply_ (l : List AcL) (ch : List ChL) (id par : List UInt8) (hl : l.length ≤ 1000) (hls : ∀ x ∈ l, x.sl.length ≤ 1000 ∧ x.cd.length ≤ 140737488355328) (hc : ch.length ≤ 100) (hcs : ∀ c ∈ ch, c.sl.length ≤ 1000 ∧ c.cd.length ≤ 140737488355328) : FnM 26 [.sl 55 (l.map dAcL), .tup [.arr 32 id, .arr 32 par, .sl 56 (ch.map dChL)]] [] (fun r os' => (∃ L, Canon (applyA (newA l) ch) L ∧ L.length ≤ 1000000 ∧ (∀ x ∈ L, x.sl.length ≤ 1000000) ∧ r = .val (.sl 55 (L.map dAcL))) ∧ os' = []) := by
  have h1 := new0 l 1000 (by omega) hls (by omega)
  have hml : (ch.map dChL).length = ch.length := List.length_map _
  refine FnM.walk 23 Try.func26 rfl Try.ntmps26 (by simp) fun X => ?_
  repeat
    (first
     | (apply P_callM (os := []) h1; (iterate 2 exact rfl); exact RefineL.refl _ _; (focus (intro _ _; simp [go_sem]; done)); (iterate 2 exact rfl); rintro _ os1 ⟨g, rfl, hp⟩; refine EL.le (Le.perm List.perm_append_comm) ?_; simp only [List.cons_append, List.nil_append])
     | (apply P_move; (iterate 3 exact rfl)) | (apply P_assign; (iterate 3 exact rfl)) | (apply P_field; (iterate 6 exact rfl))
     | (apply P_load; exact rfl; (first | exact I0 | exact I1 | exact I2 | exact I3 | exact I4 | exact I5 | exact I6); (iterate 4 exact rfl)) | (apply P_lensl; (iterate 4 exact rfl))
     | (apply P_box; exact rfl; exact rfl; exact rfl; intro _) | apply EL.nil | ((with_reducible apply EK.then_normal); apply EK.code)
     | (with_reducible first | apply EC.seq | apply EC.region | apply EC.skip | apply EC.label | apply EC.block | apply EC.exit | apply EC.ret | apply EK.in_normal | apply EK.in_same | apply EK.in_ret | apply EK.then_ret | apply EK.then_exit))
  rename_i g3
  refine EC.loop (ι := {x : Nat × List Obj // x.1 ≤ ch.length ∧ PSt g (applyA (newA l) (ch.take x.1)) (1000 + l.length + x.1 * 1004) x.2})
    (fun x => ⟨[(13, .val (.v (.int .i64 (x.1.1 : Int)))), (12, .val (.v (.int .i64 (ch.map dChL).length))), (11, .val (.sl 56 (ch.map dChL))), (5, .val (.v (ptr g)))], x.1.2, []⟩)
    (fun x => ch.length - x.1.1) ⟨(0, os1), Nat.zero_le _, hp⟩ ?_ ?_
  · exact (Le.keep (by repeat first | exact trivial | refine ⟨rfl, ?_⟩) (by repeat first | exact List.Sublist.refl _ | apply List.Sublist.cons_cons | apply List.Sublist.cons) (by simp))
  rintro ⟨⟨i, os2⟩, hil, hp2⟩
  dsimp only at hil hp2 ⊢
  by_cases hlt : i < ch.length
  · have hd : (ch.map dChL)[i]? = some (dChL ch[i]) := by rw [List.getElem?_map, List.getElem?_eq_getElem hlt]; rfl
    have hci := hcs ch[i] (List.getElem_mem hlt)
    have htk : ch.take (i + 1) = ch.take i ++ [ch[i]] := List.take_succ_eq_append_getElem hlt
    have h2 := apply1 hp2 ch[i] hci.2 (by omega)
    generalize ch[i] = x at hd hci htk h2
    have hx : dChL x = .tup [.arr 20 x.a, .v (.bool x.gone), .v (.int .i64 x.n), .arr 32 x.w, .bs x.cd, .sl 64 (x.sl.map dSlL)] := rfl
    rw [hx] at hd h2
    repeat
      (first
       | (apply P_callT h2 [_] rfl rfl (RefineL.refl _ _) (by intro _ _; simp [go_sem]) rfl rfl; rintro _ os3 ⟨rfl, hp3⟩; simp only [List.cons_append, List.nil_append]) | (apply P_move; (iterate 3 exact rfl))
       | (apply P_loadpd; (iterate 5 exact rfl)) | (apply P_load; exact rfl; (first | exact I0 | exact I1 | exact I2 | exact I3 | exact I4 | exact I5 | exact I6); (iterate 4 exact rfl))
       | (apply P_cmp (b := true); (iterate 2 exact rfl); (focus (first | (simp [cmpI]; done) | (simp [cmpI]; omega))); (iterate 2 exact rfl))
       | (apply P_ar; (iterate 3 exact rfl); (focus omega); (focus omega); (iterate 2 exact rfl))
       | (apply P_index; (iterate 4 exact rfl); (focus (first | exact ⟨by decide, rfl⟩ | (refine ⟨by omega, ?_⟩; rw [Int.toNat_natCast]; assumption))); (iterate 2 exact rfl))
       | (apply P_alloc; exact rfl; exact rfl; exact rfl; intro _) | (apply P_store; exact rfl; (focus (repeat first | exact .z | apply SetAt.s | apply SetAtF.s)); (iterate 4 exact rfl)) | apply EL.nil
       | ((with_reducible apply EK.then_normal); apply EK.code) | (apply EC.cond_true; exact rfl)
       | (with_reducible first | apply EC.seq | apply EC.region | apply EC.skip | apply EC.label | apply EC.block | apply EC.exit | apply EC.ret | apply EK.in_normal | apply EK.in_same | apply EK.in_ret | apply EK.then_ret | apply EK.then_exit))
    refine EK.again ⟨(i + 1, os3), hlt, by rw [htk, applyA_snoc]; exact hp3.mono (by have := hci.1; omega)⟩ (by dsimp only; omega) ?_
    simp only [Int.natCast_add]
    exact (Le.keep (by repeat first | exact trivial | refine ⟨rfl, ?_⟩) (by repeat first | exact List.Sublist.refl _ | apply List.Sublist.cons_cons | apply List.Sublist.cons) (by simp))
  · have hiE : i = ch.length := by omega
    subst hiE
    rw [List.take_length] at hp2
    have h3 := ps_accounts hp2 (by omega)
    repeat
      (first
       | (apply P_callT h3 [] rfl rfl (RefineL.refl _ _) (by intro _ _; simp [go_sem]) rfl rfl; rintro _ _ ⟨⟨L, hL, hLl, hLs, rfl⟩, rfl⟩; simp only [List.nil_append]) | (apply P_move; (iterate 3 exact rfl))
       | (apply P_assign; (iterate 3 exact rfl)) | (apply P_cmp (b := false); (iterate 2 exact rfl); (focus (first | (simp [cmpI]; done) | (simp [cmpI]; omega))); (iterate 2 exact rfl)) | apply EL.nil
       | ((with_reducible apply EK.then_normal); apply EK.code) | (apply EC.cond_false; exact rfl)
       | (with_reducible first | apply EC.seq | apply EC.region | apply EC.skip | apply EC.label | apply EC.block | apply EC.exit | apply EC.ret | apply EK.in_normal | apply EK.in_same | apply EK.in_ret | apply EK.then_ret | apply EK.then_exit))
    exact EK.retM1s [] rfl rfl (List.nil_sublist _) ⟨⟨L, hL, by omega, fun x hx => by have := hLs x hx; omega, rfl⟩, rfl⟩
end E
end Go.Proofs.Ytdhicdnmgmkpkaa
/-
  The abstract machine: regions that draw their order, whose writing operations are not all in one row: at each place all that are ready.
  Conditions: none.
-/
namespace Go.Proofs.Ytdhicdnmgmkpkaa
set_option linter.unusedVariables false
open Go.RowKit Mono Rlp
namespace E
def readyL (l : List Oper) (chain done : List Nat) : List Nat := chain.filter fun k => !done.contains k && match l[k]? with
  | some o => o.after.toList.all fun e => !(Region.binds .any e) || !chain.contains e.on || done.contains e.on
  | none => true
def CT (N : Nat) (l : List Oper) (os1 : List Obj) (T : St → Prop) (chain : List Nat) : Nat → List Nat → St → Prop
  | 0, _, S => T S
  | m + 1, done, S => ∀ k ∈ readyL l chain done, CH N l.toArray os1 (fun S' => CT N l os1 T chain m (k :: done) S') (pickL l [k]) S
theorem CT.pick {N : Nat} {l : List Oper} {os1 : List Obj} {T : St → Prop} {chain : List Nat} {m : Nat} {done : List Nat} {S : St} (ks : List Nat) (hk : readyL l chain done = ks) (h : ∀ k ∈ ks, CH N l.toArray os1 (fun S' => CT N l os1 T chain m (k :: done) S') (pickL l [k]) S) : CT N l os1 T chain (m + 1) done S := by
  unfold CT
  rw [hk]
  exact h
theorem CT.nil {N : Nat} {l : List Oper} {os1 : List Obj} {T : St → Prop} {chain : List Nat} {done : List Nat} {S : St} (h : T S) : CT N l os1 T chain 0 done S := h
def treeOkB (l : List Oper) (n : Nat) (free chain : List Nat) : Bool :=
  (List.range n).all (fun k => free.contains k != chain.contains k) && free.all (fun k => decide (k < n)) && chain.all (fun k => decide (k < n)) && decide (n ≤ l.length) &&
  (List.range free.length).all (fun i => (List.range i).all fun j => decide (free.getD j 0 < free.getD i 0)) && decide chain.Nodup &&
  (List.range n).all (fun k => match l[k]? with
    | some o => (o.looksAt l.toArray).all (fun t => (List.range n).all fun j => decide (j < k) || (l[j]?.bind (·.dst)) != some t) &&
      (match o.dst with
        | some t => (List.range k).all fun j => (l[j]?.bind (·.dst)) != some t
        | none => true)
    | none => false) &&
  free.all (fun k => match l[k]? with
    | some o => (o.looksAt l.toArray).all fun t => chain.all fun j => (l[j]?.bind (·.dst)) != some t
    | none => true)
structure TreeOk (l : List Oper) (n : Nat) (free chain : List Nat) : Prop where
  part : ∀ k, k < n → (k ∈ free ∧ k ∉ chain) ∨ (k ∉ free ∧ k ∈ chain)
  flt : ∀ k ∈ free, k < n
  clt : ∀ k ∈ chain, k < n
  le : n ≤ l.length
  fup : ∀ i j : Nat, j < i → i < free.length → free.getD j 0 < free.getD i 0
  nod : chain.Nodup
  back : ∀ (k j : Nat) (o oj : Oper) (t : Tmp), k < n → l[k]? = some o → t ∈ o.looksAt l.toArray → k ≤ j → j < n → l[j]? = some oj → oj.dst ≠ some t
  free : ∀ (k j : Nat) (o oj : Oper) (t : Tmp), k ∈ free → l[k]? = some o → t ∈ o.looksAt l.toArray → j ∈ chain → l[j]? = some oj → oj.dst ≠ some t
  once : ∀ (k j : Nat) (o oj : Oper) (t : Tmp), k < n → l[k]? = some o → o.dst = some t → j < k → l[j]? = some oj → oj.dst ≠ some t
theorem treeOk_of {l : List Oper} {n : Nat} {free chain : List Nat} (h : treeOkB l n free chain = true) : TreeOk l n free chain := by
  unfold treeOkB at h
  simp only [Bool.and_eq_true, List.all_eq_true, List.mem_range, decide_eq_true_eq] at h
  obtain ⟨⟨⟨⟨⟨⟨⟨h1, h2⟩, h3⟩, h4⟩, h5⟩, h6⟩, h8⟩, h9⟩ := h
  refine ⟨fun k hk => ?_, h2, h3, h4, fun i j hj hi => h5 i hi j hj, h6, fun k j o oj t hk ho ht hkj hj hoj e => ?_, fun k j o oj t hk ho ht hj hoj e => ?_, fun k j o oj t hk ho ht hj hoj e => ?_⟩
  · have := h1 k hk
    by_cases e1 : k ∈ free <;> by_cases e2 : k ∈ chain <;> simp [e1, e2] at this ⊢
  · have := h8 k hk
    rw [ho] at this
    simp only [Bool.and_eq_true, List.all_eq_true, List.mem_range] at this
    have := this.1 t ht j hj
    rw [hoj] at this
    simp [e] at this
    omega
  · have := h9 k hk
    rw [ho] at this
    simp only [List.all_eq_true] at this
    have := this t ht j hj
    rw [hoj] at this
    simp [e] at this
  · have := h8 k hk
    rw [ho] at this
    simp only [Bool.and_eq_true] at this
    have := this.2
    rw [ht] at this
    simp only [List.all_eq_true, List.mem_range] at this
    have := this j hj
    rw [hoj] at this
    simp [e] at this
section
variable {N : Nat} {X : Cx N} {S : St} {a : Act} {Q : Exit → Act → World → Prop} {l : List Oper}
set_option maxHeartbeats 2000000 in
theorem EC.drawT {id : Nat} (n : Nat) (free chain : List Nat) (os0 os1 : List Obj) (hB : monoB l.toArray n N = true) (hC : treeOkB l n free chain = true) (hS : S.objs = os0 ++ os1)
    (h : EM N l.toArray (fun S' _ => CT N l os1 (fun S'' => EL X l.toArray Q (l.drop n) S'') chain chain.length [] ⟨S'.regs, os0 ++ os1, S.facts⟩) (pickL l free) ⟨S.regs, os1, S.facts⟩ []) : EC X Q (.region id l.toArray true) S := by
  constructor
  intro a ws ha
  have C := treeOk_of hC
  obtain ⟨infs, hlen, hok, hT, hnp⟩ := em_list _ _ _ h
  have hfree := pickL_get (l := l) free fun k hk => Nat.lt_of_lt_of_le (C.flt k hk) C.le
  have hchain := pickL_get (l := l) chain fun k hk => Nat.lt_of_lt_of_le (C.clt k hk) C.le
  rw [hfree.1] at hlen hT
  have hdst : ∀ k o, l[k]? = some o → dstOf l.toArray k = o.dst := fun k o ho => by unfold dstOf; simp [ho]
  have hsl : ∀ k o L vs (b : Act) t, k < n → l[k]? = some o → t ∈ o.looksAt l.toArray → SlotOk l.toArray L vs a b k t → (∃ j oj, j < n ∧ l[j]? = some oj ∧ oj.dst = some t ∧ L j ∧ b.tmps.getD t undef = vs j) ∨ ((∀ j o, j < n → l[j]? = some o → o.dst ≠ some t) ∧ b.tmps.getD t undef = a.tmps.getD t undef) := fun k o L vs b t hk ho ht hs => by
    rcases hs with ⟨j, h1, h2, h3, h4, h5⟩ | ⟨h1, h2⟩
    · have hj : j < l.length := by have := C.le; omega
      exact .inl ⟨j, l[j], by omega, by simp, by rw [← hdst j l[j] (by simp)]; exact h2, h4, h5⟩
    · refine .inr ⟨fun j oj hj hoj e => ?_, h2⟩
      rcases Nat.lt_or_ge j k with h3 | h3
      · exact h1 j h3 (by rw [hdst j oj hoj]; exact e)
      · exact C.back k j o oj t hk ho ht h3 hj hoj e
  have huniq : ∀ j j' o o' t, j < n → j' < n → l[j]? = some o → l[j']? = some o' → o.dst = some t → o'.dst = some t → j = j' := fun j j' o o' t hj hj' ho ho' hd hd' => by
    rcases Nat.lt_trichotomy j j' with h | h | h
    · exact absurd hd (C.once j' j o' o t hj' ho' hd' h ho)
    · exact h
    · exact absurd hd' (C.once j j' o o' t hj ho hd h ho')
  -- what is known of the free operations' slots
  let RF := (stAt ⟨S.regs, os1, S.facts⟩ (pickL l free) infs free.length).regs
  have hRF : ∀ t r, look RF t = some r → (∃ p o i, p < free.length ∧ l[free.getD p 0]? = some o ∧ infs[p]? = some i ∧ o.dst = some t ∧ r = i.reg) ∨ look S.regs t = some r := fun t r hr => by
    rcases stAt_from _ _ _ _ _ _ hr with ⟨q, oq, iq, h1, h2, h3, h4, h5⟩ | h1
    · exact .inl ⟨q, oq, iq, h1, by rw [← hfree.2 q h1]; exact h2, h3, h4, h5⟩
    · exact .inr h1
  have hfl : ∀ p, p < free.length → free.getD p 0 < n ∧ free.getD p 0 ∈ free := fun p hp => by
    have : free.getD p 0 ∈ free := by
      rw [List.getD_eq_getElem?_getD, List.getElem?_eq_getElem hp]
      exact List.getElem_mem hp
    exact ⟨C.flt _ this, this⟩
  have hcl : ∀ p, p < chain.length → chain.getD p 0 < n ∧ chain.getD p 0 ∈ chain := fun p hp => by
    have : chain.getD p 0 ∈ chain := by
      rw [List.getD_eq_getElem?_getD, List.getElem?_eq_getElem hp]
      exact List.getElem_mem hp
    exact ⟨C.clt _ this, this⟩
  have hput : ∀ p o i, p < free.length → l[free.getD p 0]? = some o → infs[p]? = some i → ∀ t, o.dst = some t → look RF t = some i.reg := fun p o i hp ho hi t ht => by
    have hlk := (stAt_look (pickL l free) infs free.length ⟨S.regs, os1, S.facts⟩ t (by rw [hlen, hfree.1]) (by rw [hfree.1]; exact Nat.le_refl _)).1
    refine hlk p o i hp (by rw [hfree.2 p hp]; exact ho) hi ht fun m om h1 h2 h3 e => ?_
    rw [hfree.2 m h2] at h3
    have := huniq _ _ _ _ t (hfl p hp).1 (hfl m h2).1 ho h3 ht e
    have := C.fup m p h1 h2
    omega
  have hmono : ∀ p o t r, p < free.length → l[free.getD p 0]? = some o → t ∈ o.looksAt l.toArray → look (stAt ⟨S.regs, os1, S.facts⟩ (pickL l free) infs p).regs t = some r → look RF t = some r := fun p o t r hp ho ht hr => by
    rcases stAt_from _ _ _ _ _ _ hr with ⟨q, oq, iq, h1, h2, h3, h4, h5⟩ | h1
    · rw [h5]
      have hq : q < free.length := by omega
      exact hput q oq iq hq (by rw [← hfree.2 q hq]; exact h2) h3 t h4
    · have hlk := (stAt_look (pickL l free) infs free.length ⟨S.regs, os1, S.facts⟩ t (by rw [hlen, hfree.1]) (by rw [hfree.1]; exact Nat.le_refl _)).2
      have hpre := (stAt_look (pickL l free) infs p ⟨S.regs, os1, S.facts⟩ t (by rw [hlen, hfree.1]) (by rw [hfree.1]; exact Nat.le_of_lt hp))
      by_cases hex : ∃ m om, m < p ∧ (pickL l free)[m]? = some om ∧ om.dst = some t
      · -- what was put ahead stays
        obtain ⟨m, om, g1, g2, g3⟩ := hex
        have hm : m < free.length := by omega
        obtain ⟨inf, hi⟩ : ∃ inf, infs[m]? = some inf := ⟨infs[m]'(by omega), by simp⟩
        have e1 := hpre.1 m om inf g1 g2 hi g3 fun m' om' h1 h2 h3 e => by
          rw [hfree.2 m' (by omega)] at h3
          rw [hfree.2 m hm] at g2
          have := huniq _ _ _ _ t (hfl m hm).1 (hfl m' (by omega)).1 g2 h3 g3 e
          have := C.fup m' m h1 (by omega)
          omega
        rw [hr] at e1
        cases e1
        exact hput m om inf hm (by rw [← hfree.2 m hm]; exact g2) hi t g3
      have := hlk fun m om h2 h3 e => by
        rcases Nat.lt_or_ge m p with h4 | h4
        · exact hex ⟨m, om, h4, h3, e⟩
        · rw [hfree.2 m h2] at h3
          have hle : free.getD p 0 ≤ free.getD m 0 := by
            rcases Nat.lt_or_ge p m with h5 | h5
            · exact Nat.le_of_lt (C.fup m p h5 h2)
            · rw [show m = p by omega]; exact Nat.le_refl _
          exact C.back _ _ o om t (hfl p hp).1 ho ht hle (hfl m h2).1 h3 e
      show look (stAt ⟨S.regs, os1, S.facts⟩ (pickL l free) infs free.length).regs t = some r
      rw [this]
      exact h1
  have hT' : CT N l os1 (fun S'' => EL X l.toArray Q (l.drop n) S'') chain chain.length [] ⟨RF, os0 ++ os1, S.facts⟩ := hT
  clear hT h
  refine wp_region_set' n (by kernel_rfl) (by rw [ha.size]; exact hB) (fun L vs u => ∃ m done Si, done.length + m = chain.length ∧ done.Nodup ∧ (∀ q ∈ done, q ∈ chain) ∧ (∀ q ∈ chain, (q ∈ done ↔ L q)) ∧ CT N l os1 (fun S'' => EL X l.toArray Q (l.drop n) S'') chain m done Si ∧ Real X l n chain a RF os1 S.facts Si L vs u) ?_ ?_ ?_ ?_
  · rintro L L' vs vs' w hL hvs ⟨m, done, Si, h1, h2, h3, h6, h4, h5⟩
    obtain rfl : L = L' := funext fun j => propext (hL j)
    refine ⟨m, done, Si, h1, h2, h3, h6, h4, h5.mem, h5.tail, h5.facts, fun t r hr => ?_, h5.free⟩
    obtain ⟨g1, g2⟩ := h5.regs t r hr
    exact ⟨fun j o hj ho hd hL => by rw [← hvs j hL]; exact g1 j o hj ho hd hL, g2⟩
  · have had : At X S a ws.drew := ha.gr (by exact ⟨rfl, rfl, rfl, Nat.le_refl _, fun _ _ => rfl⟩)
    refine ⟨chain.length, [], ⟨RF, os0 ++ os1, S.facts⟩, Nat.zero_add _, List.nodup_nil, fun q hq => by simp at hq, fun q _ => ⟨fun h => by simp at h, fun h => h.elim⟩, hT', ?_, ⟨os0, rfl⟩, rfl, fun t r hr => ⟨fun _ _ _ _ _ h => h.elim, fun hno => ?_⟩, fun t r hr _ => hr⟩
    · rw [← hS]; exact had.mem
    · rcases hRF t r hr with ⟨p, o, i, h1, h2, h3, h4, h5⟩ | h1
      · exact absurd h4 (hno _ o (hfl p h1).1 h2)
      · rw [← hS]
        exact had.regs t r h1
  · intro k o L vs b u hk ho hL hLk ⟨m, done, Si, h1, h2, h3, h6, h4, h5⟩ hslot hwait
    rcases C.part k hk with ⟨hkf, hkc⟩ | ⟨hkf, hkc⟩
    · -- a free operation
      obtain ⟨p, hp, rfl⟩ : ∃ p, p < free.length ∧ free.getD p 0 = k := by
        obtain ⟨p, hp⟩ := List.getElem?_of_mem hkf
        exact ⟨p, (List.getElem?_eq_some_iff.1 hp).1, by rw [List.getD_eq_getElem?_getD, hp]; rfl⟩
      obtain ⟨inf, hi⟩ : ∃ inf, infs[p]? = some inf := ⟨infs[p]'(by omega), by simp⟩
      obtain ⟨hO, _, _⟩ := hok p o inf (by rw [hfree.2 p hp]; exact ho) hi
      have hkn : Kn X.mine (X.ok Si.objs u) (fun t => t ∈ o.looksAt l.toArray) (stAt ⟨S.regs, os1, S.facts⟩ (pickL l free) infs p) b u := by
        obtain ⟨os, hos⟩ := h5.tail
        refine ⟨fun q hq => ?_, fun f hf => ?_, fun b hb => hb.2.1, fun t r ht hr => ?_⟩
        · rw [(stAt_objs _ _ _ _).1] at hq
          exact h5.mem.at_ q (by rw [hos]; exact List.mem_append_right _ hq)
        · rw [(stAt_objs _ _ _ _).2] at hf
          exact h5.mem.fact f (by rw [h5.facts]; exact hf)
        · obtain ⟨g1, g2⟩ := h5.regs t r (h5.free t r (hmono p o t r hp ho ht hr) fun j oj hj hoj => C.free _ j o oj t hkf ho ht hj hoj)
          rcases hsl _ o L vs b t hk ho ht (hslot t ht) with ⟨j, oj, e1, e2, e3, e4, e5⟩ | ⟨e1, e2⟩
          · rw [e5]; exact g1 j oj e1 e2 e3 e4
          · rw [e2]; exact g2 e1
      have hnext : ∀ v u', Gr u u' → ReadR (X.ok Si.objs u') u' inf.reg v → ∃ m done Si, done.length + m = chain.length ∧ done.Nodup ∧ (∀ q ∈ done, q ∈ chain) ∧ (∀ q ∈ chain, (q ∈ done ↔ (q = free.getD p 0 ∨ L q))) ∧ CT N l os1 (fun S'' => EL X l.toArray Q (l.drop n) S'') chain m done Si ∧ Real X l n chain a RF os1 S.facts Si (fun j => j = free.getD p 0 ∨ L j) (fun j => if j = free.getD p 0 then v else vs j) u' := fun v u' hg hv => by
        refine ⟨m, done, Si, h1, h2, h3, fun q hq => ⟨fun h => .inr ((h6 q hq).1 h), fun h => (h6 q hq).2 (h.resolve_left fun e => hkc (by rw [← e]; exact hq))⟩, h4, h5.mem.grown hg, h5.tail, h5.facts, fun t r hr => ?_, h5.free⟩
        · obtain ⟨g1, g2⟩ := h5.regs t r hr
          refine ⟨fun j oj hj hoj hd hLj => ?_, fun hno => readR_gr hg (g2 hno)⟩
          by_cases e : j = free.getD p 0
          · rw [if_pos e]
            subst e
            obtain rfl : oj = o := Option.some.inj (hoj.symm.trans ho)
            have := h5.free t _ (hput p oj inf hp ho hi t hd) fun j' oj' hj' hoj' e' => by
              have := huniq _ _ _ _ t hk (C.clt j' hj') hoj hoj' hd e'
              exact hkc (by rw [this]; exact hj')
            rw [hr] at this
            cases this
            exact hv
          · rw [if_neg e]
            exact readR_gr hg (g1 j oj hj hoj hd (hLj.resolve_left e))
      cases inf with
      | still r =>
        obtain ⟨hg, hSt⟩ := hO
        refine ⟨fun _ => ?_, fun hw => by rw [wanted_kn hkn hg] at hw; cases hw⟩
        obtain ⟨v, e1, e2⟩ := hSt _ _ b u hkn
        rw [e1]
        exact hnext v u (Gr.refl u) e2
      | grow r =>
        obtain ⟨hg, hSt⟩ := hO
        refine ⟨fun _ => setsTo_of_grows (hSt _ _ b u hkn) (fun v w' hgr hv => ?_), fun hw => by rw [wanted_kn hkn hg] at hw; cases hw⟩
        obtain ⟨r', rfl, hv⟩ := hv
        exact hnext v w' hgr (hv.mono (fun b hb => more_ok h5.mem hgr hb) fun _ _ => rfl)
      | put p q => cases hnp _ _ hi
      | skip =>
        refine ⟨fun hw => (by rw [wanted_kn hkn hO] at hw; cases hw), fun _ => ?_⟩
        exact hnext undef u (Gr.refl u) trivial
      | new T d =>
        obtain ⟨hg, hSt⟩ := hO
        refine ⟨fun _ => ?_, fun hw => by rw [wanted_kn hkn hg] at hw; cases hw⟩
        obtain ⟨cs, e1, e2⟩ := hSt _ _ b u hkn
        rw [e1]
        exact hnext _ _ (gr_alloc u _) trivial
    · -- the next of the chain
      have hkd : k ∉ done := fun h => hLk ((h6 k hkc).1 h)
      obtain ⟨m, rfl⟩ : ∃ m', m = m' + 1 := by
        cases m with
        | succ m => exact ⟨m, rfl⟩
        | zero =>
          exfalso
          have hlt := (List.nodup_cons.2 ⟨hkd, h2⟩).length_le_of_subset (fun q hq => by
            rcases List.mem_cons.1 hq with rfl | hq
            · exact hkc
            · exact h3 q hq : (k :: done) ⊆ chain)
          simp at hlt
          omega
      have hready : k ∈ readyL l chain done := by
        unfold readyL
        refine List.mem_filter.2 ⟨hkc, ?_⟩
        rw [ho]
        simp only [Bool.and_eq_true, Bool.not_eq_true', List.all_eq_true, Bool.or_eq_true]
        refine ⟨by simpa using hkd, fun e he => ?_⟩
        cases hb : Region.binds .any e with
        | false => exact .inl (.inl rfl)
        | true =>
          have h7 := hwait e (by simpa using he) hb
          by_cases hc : e.on ∈ chain
          · exact .inr (by simpa using (h6 e.on hc).2 h7)
          · exact .inl (.inr (by simpa using hc))
      have h4 := h4 k hready
      rw [show pickL l [k] = [o] by unfold pickL; simp [ho]] at h4
      obtain ⟨hdN, h4⟩ := h4
      have hkreg : ∀ t r, t ∈ o.looksAt l.toArray → look Si.regs t = some r → ReadR (X.ok Si.objs u) u r (b.tmps.getD t undef) := fun t r ht hr => by
        obtain ⟨g1, g2⟩ := h5.regs t r hr
        rcases hsl _ o L vs b t hk ho ht (hslot t ht) with ⟨j, oj, e1, e2, e3, e4, e5⟩ | ⟨e1, e2⟩
        · rw [e5]; exact g1 j oj e1 e2 e3 e4
        · rw [e2]; exact g2 e1
      have hkn : Kn X.mine (X.ok Si.objs u) (fun t => t ∈ o.looksAt l.toArray) Si b u := ⟨h5.mem.at_, h5.mem.fact, fun b hb => hb.2.1, fun t r ht hr => hkreg t r ht hr⟩
      have hnext : ∀ v u' objs' r', Mem X objs' Si.facts u' → (∃ os, objs' = os ++ os1) → (∀ b, X.ok Si.objs u b → X.ok objs' u' b) → (∀ p : Addr, X.ok Si.objs u p.block → u'.cell? p = u.cell? p) → ReadR (X.ok objs' u') u' r' v →
          CH N l.toArray os1 (fun S' => CT N l os1 (fun S'' => EL X l.toArray Q (l.drop n) S'') chain m (k :: done) S') [] (St.put ⟨Si.regs, objs', Si.facts⟩ o.dst r') →
          ∃ m done Si, done.length + m = chain.length ∧ done.Nodup ∧ (∀ q ∈ done, q ∈ chain) ∧ (∀ q ∈ chain, (q ∈ done ↔ (q = k ∨ L q))) ∧ CT N l os1 (fun S'' => EL X l.toArray Q (l.drop n) S'') chain m done Si ∧ Real X l n chain a RF os1 S.facts Si (fun j => j = k ∨ L j) (fun j => if j = k then v else vs j) u' := fun v u' objs' r' hmem htail hmok hcell hv hCH => by
        have hobj : (St.put ⟨Si.regs, objs', Si.facts⟩ o.dst r').objs = objs' := by cases o.dst <;> rfl
        have hfac : (St.put ⟨Si.regs, objs', Si.facts⟩ o.dst r').facts = Si.facts := by cases o.dst <;> rfl
        refine ⟨m, k :: done, _, by rw [List.length_cons]; omega, List.nodup_cons.2 ⟨hkd, h2⟩, fun q hq => ?_, fun q hq => ?_, hCH, by rw [hobj, hfac]; exact hmem, by rw [hobj]; exact htail, by rw [hfac]; exact h5.facts, fun t r hr => ?_, fun t r hr hno => ?_⟩
        · rcases List.mem_cons.1 hq with rfl | hq
          · exact hkc
          · exact h3 q hq
        · rw [List.mem_cons, h6 q hq]
        · rw [hobj]
          have hcase : (o.dst = some t ∧ r = r') ∨ (o.dst ≠ some t ∧ look Si.regs t = some r) := by
            cases hd : o.dst with
            | none => rw [hd] at hr; exact .inr ⟨(fun e => by cases e), hr⟩
            | some d =>
              rw [hd] at hr
              simp only [St.put, look] at hr
              split at hr
              · rename_i e
                cases hr
                exact .inl ⟨by rw [e], rfl⟩
              · rename_i e
                exact .inr ⟨fun e' => e (by injection e'), hr⟩
          rcases hcase with ⟨hd, rfl⟩ | ⟨hd, hr⟩
          · refine ⟨fun j oj hj hoj hd' _ => ?_, fun hno => absurd hd (hno _ o hk ho)⟩
            rw [if_pos (huniq _ _ _ _ t hj hk hoj ho hd' hd)]
            exact hv
          · obtain ⟨g1, g2⟩ := h5.regs t r hr
            refine ⟨fun j oj hj hoj hd' hLj => ?_, fun hno => (g2 hno).mono hmok hcell⟩
            have hne : j ≠ k := fun e => by
              subst e
              obtain rfl : oj = o := Option.some.inj (hoj.symm.trans ho)
              exact hd hd'
            rw [if_neg hne]
            exact (g1 j oj hj hoj hd' (hLj.resolve_left hne)).mono hmok hcell
        · cases hd : o.dst with
          | none => exact h5.free t r hr hno
          | some d =>
            simp only [St.put, look]
            rw [if_neg fun e => hno _ o hkc ho (by rw [hd, e])]
            exact h5.free t r hr hno
      rcases h4 with ⟨inf, hnp', hO, hCH⟩ | ⟨os, rest, Φ, hos, hg, hO, hCH⟩
      · have hgr : ∀ v u', Gr u u' → ReadR (X.ok Si.objs u') u' inf.reg v → _ := fun v u' hg hv => hnext v u' Si.objs inf.reg (h5.mem.grown hg) h5.tail (fun b hb => ok_gr hg hb) (fun p hp => ok_cell hg p hp) hv hCH
        cases inf with
        | still r =>
          obtain ⟨hg, hSt⟩ := hO
          refine ⟨fun _ => ?_, fun hw => by rw [wanted_kn hkn hg] at hw; cases hw⟩
          obtain ⟨v, e1, e2⟩ := hSt _ _ b u hkn
          rw [e1]
          exact hgr v u (Gr.refl u) e2
        | grow r =>
          obtain ⟨hg, hSt⟩ := hO
          refine ⟨fun _ => setsTo_of_grows (hSt _ _ b u hkn) (fun v w' hgr' hv => ?_), fun hw => by rw [wanted_kn hkn hg] at hw; cases hw⟩
          obtain ⟨r', rfl, hv⟩ := hv
          exact hgr v w' hgr' (hv.mono (fun b hb => more_ok h5.mem hgr' hb) fun _ _ => rfl)
        | put p q => cases hnp'
        | skip =>
          refine ⟨fun hw => (by rw [wanted_kn hkn hO] at hw; cases hw), fun _ => ?_⟩
          exact hgr undef u (Gr.refl u) trivial
        | new T d =>
          obtain ⟨hg, hSt⟩ := hO
          refine ⟨fun _ => ?_, fun hw => by rw [wanted_kn hkn hg] at hw; cases hw⟩
          obtain ⟨cs, e1, e2⟩ := hSt _ _ b u hkn
          rw [e1]
          exact hgr _ _ (gr_alloc u _) trivial
      · obtain ⟨rs, objs, fs⟩ := Si
        dsimp only at hos
        subst hos
        refine ⟨fun _ => ?_, fun hw => by rw [wanted_kn hkn hg] at hw; cases hw⟩
        have := hO.go X.mine (X.ok (os ++ (rest ++ os1)) u) b u ⟨fun q hq => hkn.objs q (List.mem_append_right _ hq), hkn.facts, hkn.lt, hkn.regs⟩ h5.mem.own
        refine setsTo_mono this fun v u' ⟨r, os', e1, e2, e3⟩ => ?_
        exact hnext v u' (os' ++ (rest ++ os1)) r (h5.mem.turned e2) ⟨os' ++ rest, by rw [List.append_assoc]⟩ (fun b hb => turned_old h5.mem e2 hb) (turned_cell h5.mem e2) (e3.mono (fun b hb => turned_ok h5.mem e2 hb) fun _ _ => rfl) (hCH r os' e1)
  · intro vs u b ⟨m, done, Si, h1, h2, h3, h6, h4, h5⟩ hs hd hslot
    obtain rfl : m = 0 := by
      have hle := C.nod.length_le_of_subset (fun q hq => (h6 q hq).2 (C.clt q hq) : chain ⊆ done)
      omega
    have h4' : EL X l.toArray Q (l.drop n) Si := h4
    refine h4'.go b u ⟨h5.mem, fun t r hr => ?_, hs.trans ha.size, hd.trans ha.defers⟩
    obtain ⟨g1, g2⟩ := h5.regs t r hr
    rcases hslot t with ⟨j, e1, e2, e3, e4, e5⟩ | ⟨e1, e2⟩
    · rw [e5]
      have hj : j < l.length := by have := C.le; omega
      exact g1 j l[j] e1 (by simp) (by rw [← hdst j l[j] (by simp)]; exact e2) e4
    · rw [e2]
      exact g2 fun j o hj ho e => e1 j hj (by rw [hdst j o ho]; exact e)
end
end E
end Go.Proofs.Ytdhicdnmgmkpkaa
