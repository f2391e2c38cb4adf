/-
 Merged (wip/tools/merge.py): PFA.
 Conditions: none.
-/
import Derived.Test.YtiledgojbpmoiaaZC26
/-
 munimentsref6.CheckProof.
 Conditions: none.
-/
namespace Go.Proofs.Ytiledgojbpmoiaa
set_option linter.unusedVariables false
open Go.RowKit Mono Rlp
namespace E
def prfD (r : List UInt8 × Nat) : R := .tpl [.bs r.1, .v (.bool (decide (0 < r.1.length))), .v (.int .i64 (r.2 : Int))]
theorem good_root {f : Nat} {root : List UInt8} (h : root.length = 32) : GoodR f (.mk false root []) := by
 refine ⟨⟨by rw [norm], fun m => by rw [deepR]; omega, by rw [dep, depL]; omega, ?_⟩, .inr ⟨rfl, h⟩⟩
 rw [Rlp.E, EB_length]
 unfold szE szB
 simp only [most]
 split
 · omega
 ·
  split
  · omega
  · omega
theorem drop_cons {α : Type} {l : List α} {i : Nat} (h : i < l.length) : l.drop i = l[i] :: l.drop (i + 1) := List.drop_eq_getElem_cons h
set_option maxRecDepth 20000 in
set_option maxHeartbeats 32000000 in
theorem f_rCheck (root key : List UInt8) (q : List (List UInt8)) (hr : root.length = 32) (hk : key.length ≤ 150) (hq : ∀ b ∈ q, b.length ≤ 1000000) : Fn 6 [.arr 32 root, .bs key, .sl 1 (q.map D.bs)] (· = prfD (chkP root key q)) := by
 have hml : (q.map D.bs).length = q.length := List.length_map _
 have hE := f_rEmpty
 have hw := (bin_word root root0).1
 have hS := f_rSplit key (by omega)
 have hB := f_rBytes root
 have hnib : ∀ c ∈ split key, c.toNat < 16 := fun c hc => by
  obtain ⟨y, _, hy⟩ := List.mem_flatMap.1 hc
  simp only [List.mem_cons, List.not_mem_nil, or_false] at hy
  rcases hy with rfl | rfl
  ·
   rw [UInt8.toNat_shiftRight]
   have := y.toNat_lt
   simp [Nat.shiftRight_eq_div_pow]
   omega
  ·
   rw [UInt8.toNat_and]
   have := Nat.and_two_pow_sub_one_eq_mod y.toNat 4
   simp at this ⊢
   omega
 have hsl := split_length key
 refine FnM.toFn ?_
 unfold chkP prfD
 refine FnM.walk 87 Try.func6 rfl Try.ntmps6 (by simp) fun X => ?_
 refine EC.lenOf (t := 2) rfl fun hmax => ?_
 unfold maxLen at hmax
 by_cases h0 : root = root0
 ·
  rw [show (root == root0) = true by simp [h0]] at hw
  rw [if_pos h0]
  by_cases hz : q.length = 0
  ·
   rw [if_pos hz]
   obtain rfl : q = [] := List.eq_nil_of_length_eq_zero hz
   repeat
    (first
     | (apply P_box; rfl; rfl; rfl; intro g; refine EL.le (Le.pin (p := 3) (pre := []) rfl rfl) ?_; simp only [List.nil_append]) | (apply P_assign; iterate 3 rfl) | apply EL.nil
     | ((with_reducible apply EK.then_normal); apply EK.code) | (with_reducible first | apply EC.seq | apply EC.region))
   refine EC.draw 2 (by kernel_rfl) ?_
   simp only [List.take_succ_cons, List.take_zero, List.drop_succ_cons, List.drop_zero]
   repeat
    (first
     | (apply H_call (hE); rfl; exact RefineL.refl _ _; (focus (intro _ _; simp [go_sem]; done)); iterate 2 rfl) | (apply H_loadpd; iterate 5 rfl)
     | ((with_reducible apply EH.nil); rfl))
   repeat
    (first
     | (apply P_bin; (iterate 2 rfl); exact hw; iterate 2 rfl) | (apply P_move; iterate 3 rfl) | (apply P_assign; iterate 3 rfl)
     | (apply P_cmp (b := false); (iterate 2 rfl); (focus (first | (simp [cmpI]; done) | (simp [cmpI]; omega))); iterate 2 rfl) | (apply P_lensl; iterate 4 rfl) | apply EL.nil
     | ((with_reducible apply EK.then_normal); apply EK.code) | (apply EC.cond_true; rfl) | (apply EC.cond_false; rfl)
     | (with_reducible first | apply EC.seq | apply EC.region | apply EC.skip | apply EC.ret | apply EK.then_ret))
   exact EK.retM3 [] rfl rfl rfl rfl (by (repeat first | exact RefineL.refl _ _ | exact RL.nil | exact Rf.same | exact Rf.bs0 | exact Rf.sl0 | (apply Rf.fact; (focus (simp; done)); rfl) | apply Rf.tup | apply RL.cons)) (by (repeat first | exact RefineL.refl _ _ | exact RL.nil | exact Rf.same | exact Rf.bs0 | exact Rf.sl0 | (apply Rf.fact; (focus (simp; done)); rfl) | apply Rf.tup | apply RL.cons)) (by (repeat first | exact RefineL.refl _ _ | exact RL.nil | exact Rf.same | exact Rf.bs0 | exact Rf.sl0 | (apply Rf.fact; (focus (simp; done)); rfl) | apply Rf.tup | apply RL.cons)) (List.nil_sublist _) ⟨rfl, rfl⟩
  ·
   rw [if_neg hz]
   have hc : cmpI .gtr ((q.map D.bs).length : Int) 0 = some true := by
    simp only [cmpI, Option.some.injEq, decide_eq_true_eq]
    omega
   repeat
    (first
     | (apply P_box; rfl; rfl; rfl; intro g; refine EL.le (Le.pin (p := 3) (pre := []) rfl rfl) ?_; simp only [List.nil_append]) | (apply P_assign; iterate 3 rfl) | apply EL.nil
     | ((with_reducible apply EK.then_normal); apply EK.code) | (with_reducible first | apply EC.seq | apply EC.region))
   refine EC.draw 2 (by kernel_rfl) ?_
   simp only [List.take_succ_cons, List.take_zero, List.drop_succ_cons, List.drop_zero]
   repeat
    (first
     | (apply H_call (hE); rfl; exact RefineL.refl _ _; (focus (intro _ _; simp [go_sem]; done)); iterate 2 rfl) | (apply H_loadpd; iterate 5 rfl)
     | ((with_reducible apply EH.nil); rfl))
   repeat
    (first
     | (apply P_bin; (iterate 2 rfl); exact hw; iterate 2 rfl) | (apply P_cmp (b := true); (iterate 2 rfl); exact hc; iterate 2 rfl) | (apply P_move; iterate 3 rfl)
     | (apply P_assign; iterate 3 rfl) | (apply P_lensl; iterate 4 rfl) | apply EL.nil | ((with_reducible apply EK.then_normal); apply EK.code) | (apply EC.cond_true; rfl)
     | (with_reducible first | apply EC.seq | apply EC.region | apply EC.ret | apply EK.then_ret))
   exact EK.retM3 [] rfl rfl rfl rfl (by (repeat first | exact RefineL.refl _ _ | exact RL.nil | exact Rf.same | exact Rf.bs0 | exact Rf.sl0 | (apply Rf.fact; (focus (simp; done)); rfl) | apply Rf.tup | apply RL.cons)) (by (repeat first | exact RefineL.refl _ _ | exact RL.nil | exact Rf.same | exact Rf.bs0 | exact Rf.sl0 | (apply Rf.fact; (focus (simp; done)); rfl) | apply Rf.tup | apply RL.cons)) (by (repeat first | exact RefineL.refl _ _ | exact RL.nil | exact Rf.same | exact Rf.bs0 | exact Rf.sl0 | (apply Rf.fact; (focus (simp; done)); rfl) | apply Rf.tup | apply RL.cons)) (List.nil_sublist _) ⟨rfl, rfl⟩
 ·
  rw [show (root == root0) = false by simp [h0]] at hw
  rw [if_neg h0]
  generalize htot : chk 400 (.mk false root []) (split key) q = tot
  rw [dItem, dItems] at hB
  repeat
   (first
    | (apply P_box; rfl; rfl; rfl; intro g; refine EL.le (Le.pin (p := 3) (pre := []) rfl rfl) ?_; simp only [List.nil_append]) | (apply P_assign; iterate 3 rfl) | apply EL.nil
    | ((with_reducible apply EK.then_normal); apply EK.code) | (with_reducible first | apply EC.seq | apply EC.region))
  refine EC.draw 2 (by kernel_rfl) ?_
  simp only [List.take_succ_cons, List.take_zero, List.drop_succ_cons, List.drop_zero]
  repeat
   (first
    | (apply H_call (hE); rfl; exact RefineL.refl _ _; (focus (intro _ _; simp [go_sem]; done)); iterate 2 rfl) | (apply H_loadpd; iterate 5 rfl)
    | ((with_reducible apply EH.nil); rfl))
  repeat
   (first
    | (apply P_bin; (iterate 2 rfl); exact hw; iterate 2 rfl) | (apply P_call (hS); rfl; exact RefineL.refl _ _; (focus (intro _ _; simp [go_sem]; done)); iterate 2 rfl)
    | (apply P_call (hB); rfl; exact RefineL.refl _ _; (focus (intro _ _; simp [go_sem]; done)); iterate 2 rfl) | (apply P_slpd sl_word; iterate 6 rfl)
    | (apply P_move; iterate 3 rfl) | (apply P_assign; iterate 3 rfl) | (apply P_alloc; rfl; rfl; rfl; intro _)
    | (apply P_store; rfl; (focus (repeat first | exact .z | apply SetAt.s | apply SetAtF.s)); iterate 4 rfl) | apply EL.nil | ((with_reducible apply EK.then_normal); apply EK.code)
    | (apply EC.cond_false; rfl) | (with_reducible first | apply EC.seq | apply EC.region | apply EC.skip | apply EC.block))
  rename_i g
  refine EC.loop (ι := {x : Nat × Raw × Nat × List UInt8 × Nat // GoodR x.1 x.2.1 ∧ x.2.2.1 ≤ q.length ∧ (∀ c ∈ x.2.2.2.1, c.toNat < 16) ∧ x.2.2.2.1.length < x.2.2.2.2 ∧ chk x.2.2.2.2 x.2.1 x.2.2.2.1 (q.drop x.2.2.1) = tot})
   (fun x => ⟨[(10, .val (.v (.pointer (some ⟨g, 0, none⟩)))), (11, .val (.v (.int .i64 (x.1.2.2.1 : Int)))), (9, .val (.bs x.1.2.2.2.1)), (2, .val (.sl 1 (q.map D.bs)))], [.var g 53 (dItem x.1.2.1)], []⟩)
   (fun x => x.1.2.2.2.1.length) ⟨(40, .mk false root [], 0, split key, 400), good_root hr, Nat.zero_le _, hnib, by dsimp only; omega, htot⟩ ?_ ?_
  ·
   dsimp only
   rw [dItem, dItems]
   exact (Le.keep (by repeat first | exact trivial | refine ⟨rfl, ?_⟩) (by repeat first | exact List.nil_sublist _ | apply List.Sublist.cons_cons | apply List.Sublist.cons) (by simp))
  rintro ⟨⟨f, y, i, p, fu⟩, hgd, hi, hp, hpf, hch⟩
  dsimp only at hgd hi hp hpf hch ⊢
  obtain ⟨fu, rfl⟩ : ∃ n, fu = n + 1 := ⟨fu - 1, by omega⟩
  obtain ⟨hg, hyy⟩ := hgd
  rcases hyy with ⟨hl, hn, _⟩ | ⟨hl, h32⟩
  ·
   rw [chk_list fu hl] at hch
   have hD := f_down hg hn p hp
   have hst := step_dwn hg hn p hp
   unfold chkN at hch
   unfold downD at hD
   obtain ⟨yl, yb, yx⟩ := y
   obtain rfl : yl = true := hl
   rw [dItem] at hD ⊢
   rcases hst with ⟨r, v, e1, e2, _⟩ | ⟨g', k, r, e1, _, e3, e4, e5⟩
   ·
    rw [e1, if_neg Bool.false_ne_true, e2] at hch
    rw [e1, e2] at hD
    generalize (dwn (.mk true yb yx) p).1 = z1 at hD
    generalize (dwn (.mk true yb yx) p).2.1 = z2 at hD
    obtain ⟨zl, zb, zx⟩ := z1
    rw [dItem] at hD
    rw [List.length_drop] at hch
    by_cases hlt : i < q.length
    ·
     rw [if_neg (by omega)] at hch
     subst hch
     repeat
      (first
       | (apply P_call (hD); rfl; exact RefineL.refl _ _; (focus (intro _ _; simp [go_sem]; done)); iterate 2 rfl)
       | (apply P_cmp (b := true); (iterate 2 rfl); (focus (simp [cmpI]; omega)); iterate 2 rfl) | (apply P_move; iterate 3 rfl) | (apply P_assign; iterate 3 rfl)
       | (apply P_field; iterate 6 rfl) | (apply P_extract; iterate 4 rfl) | (apply P_not; iterate 3 rfl)
       | (apply P_load; rfl; (first | exact I0 | exact I1 | exact I2 | exact I3 | exact I4 | exact I5 | exact I6); iterate 4 rfl) | (apply P_lensl; iterate 4 rfl)
       | (apply P_alloc; rfl; rfl; rfl; intro _) | (apply P_store; rfl; (focus (repeat first | exact .z | apply SetAt.s | apply SetAtF.s)); iterate 4 rfl) | apply EL.nil
       | ((with_reducible apply EK.then_normal); apply EK.code) | (apply EC.cond_true; rfl) | (apply EC.cond_false; rfl)
       | (with_reducible first | apply EC.seq | apply EC.region | apply EC.skip | apply EC.block | apply EC.ret | apply EK.in_ret | apply EK.then_ret))
     exact EK.retM3 [] rfl rfl rfl rfl (by (repeat first | exact RefineL.refl _ _ | exact RL.nil | exact Rf.same | exact Rf.bs0 | exact Rf.sl0 | (apply Rf.fact; (focus (simp; done)); rfl) | apply Rf.tup | apply RL.cons)) (by (repeat first | exact RefineL.refl _ _ | exact RL.nil | exact Rf.same | exact Rf.bs0 | exact Rf.sl0 | (apply Rf.fact; (focus (simp; done)); rfl) | apply Rf.tup | apply RL.cons)) (by (repeat first | exact RefineL.refl _ _ | exact RL.nil | exact Rf.same | exact Rf.bs0 | exact Rf.sl0 | (apply Rf.fact; (focus (simp; done)); rfl) | apply Rf.tup | apply RL.cons)) (List.nil_sublist _) ⟨rfl, rfl⟩
    ·
     rw [if_pos (by omega)] at hch
     subst hch
     dsimp only
     by_cases hv : 0 < v.length
     ·
      rw [show decide (0 < v.length) = true by simp [hv]]
      have hc0 : cmpI .gtr (v.length : Int) 0 = some true := by
       simp only [cmpI, Option.some.injEq, decide_eq_true_eq]
       omega
      repeat
       (first
        | (apply P_call (hD); rfl; exact RefineL.refl _ _; (focus (intro _ _; simp [go_sem]; done)); iterate 2 rfl)
        | (apply P_cmp (b := true); (iterate 2 rfl); exact hc0; iterate 2 rfl) | (apply P_move; iterate 3 rfl) | (apply P_assign; iterate 3 rfl)
        | (apply P_field; iterate 6 rfl) | (apply P_extract; iterate 4 rfl) | (apply P_not; iterate 3 rfl)
        | (apply P_load; rfl; (first | exact I0 | exact I1 | exact I2 | exact I3 | exact I4 | exact I5 | exact I6); iterate 4 rfl)
        | (apply P_cmp (b := false); (iterate 2 rfl); (focus (first | (simp [cmpI]; done) | (simp [cmpI]; omega))); iterate 2 rfl) | (apply P_lenbs; iterate 4 rfl)
        | (apply P_lensl; iterate 4 rfl) | (apply P_alloc; rfl; rfl; rfl; intro _)
        | (apply P_store; rfl; (focus (repeat first | exact .z | apply SetAt.s | apply SetAtF.s)); iterate 4 rfl) | apply EL.nil | ((with_reducible apply EK.then_normal); apply EK.code)
        | (apply EC.cond_true; rfl) | (apply EC.cond_false; rfl)
        | (with_reducible first | apply EC.seq | apply EC.region | apply EC.skip | apply EC.block | apply EC.ret | apply EK.in_ret | apply EK.then_ret))
      exact EK.retM3 [] rfl rfl rfl rfl (by (repeat first | exact RefineL.refl _ _ | exact RL.nil | exact Rf.same | exact Rf.bs0 | exact Rf.sl0 | (apply Rf.fact; (focus (simp; done)); rfl) | apply Rf.tup | apply RL.cons)) (by (repeat first | exact RefineL.refl _ _ | exact RL.nil | exact Rf.same | exact Rf.bs0 | exact Rf.sl0 | (apply Rf.fact; (focus (simp; done)); rfl) | apply Rf.tup | apply RL.cons)) (by (repeat first | exact RefineL.refl _ _ | exact RL.nil | exact Rf.same | exact Rf.bs0 | exact Rf.sl0 | (apply Rf.fact; (focus (simp; done)); rfl) | apply Rf.tup | apply RL.cons)) (List.nil_sublist _) ⟨rfl, rfl⟩
     ·
      rw [show decide (0 < v.length) = false by simp [hv]]
      have hc0 : cmpI .gtr (v.length : Int) 0 = some false := by
       simp only [cmpI, Option.some.injEq, decide_eq_false_iff_not]
       omega
      repeat
       (first
        | (apply P_call (hD); rfl; exact RefineL.refl _ _; (focus (intro _ _; simp [go_sem]; done)); iterate 2 rfl)
        | (apply P_cmp (b := false); (iterate 2 rfl); exact hc0; iterate 2 rfl) | (apply P_move; iterate 3 rfl) | (apply P_assign; iterate 3 rfl)
        | (apply P_field; iterate 6 rfl) | (apply P_extract; iterate 4 rfl) | (apply P_not; iterate 3 rfl)
        | (apply P_load; rfl; (first | exact I0 | exact I1 | exact I2 | exact I3 | exact I4 | exact I5 | exact I6); iterate 4 rfl)
        | (apply P_cmp (b := false); (iterate 2 rfl); (focus (first | (simp [cmpI]; done) | (simp [cmpI]; omega))); iterate 2 rfl) | (apply P_lenbs; iterate 4 rfl)
        | (apply P_lensl; iterate 4 rfl) | (apply P_alloc; rfl; rfl; rfl; intro _)
        | (apply P_store; rfl; (focus (repeat first | exact .z | apply SetAt.s | apply SetAtF.s)); iterate 4 rfl) | apply EL.nil | ((with_reducible apply EK.then_normal); apply EK.code)
        | (apply EC.cond_true; rfl) | (apply EC.cond_false; rfl)
        | (with_reducible first | apply EC.seq | apply EC.region | apply EC.skip | apply EC.block | apply EC.ret | apply EK.in_ret | apply EK.then_ret))
      exact EK.retM3 [] rfl rfl rfl rfl (by (repeat first | exact RefineL.refl _ _ | exact RL.nil | exact Rf.same | exact Rf.bs0 | exact Rf.sl0 | (apply Rf.fact; (focus (simp; done)); rfl) | apply Rf.tup | apply RL.cons)) (by (repeat first | exact RefineL.refl _ _ | exact RL.nil | exact Rf.same | exact Rf.bs0 | exact Rf.sl0 | (apply Rf.fact; (focus (simp; done)); rfl) | apply Rf.tup | apply RL.cons)) (by (repeat first | exact RefineL.refl _ _ | exact RL.nil | exact Rf.same | exact Rf.bs0 | exact Rf.sl0 | (apply Rf.fact; (focus (simp; done)); rfl) | apply Rf.tup | apply RL.cons)) (List.nil_sublist _) ⟨rfl, rfl⟩
   ·
    rw [e1, if_pos rfl] at hch
    rw [e1] at hD
    dsimp only at hch hD
    obtain ⟨kl, kb, kx⟩ := k
    rw [dItem] at hD
    repeat
     (first
      | (apply P_call (hD); rfl; exact RefineL.refl _ _; (focus (intro _ _; simp [go_sem]; done)); iterate 2 rfl) | (apply P_move; iterate 3 rfl)
      | (apply P_assign; iterate 3 rfl) | (apply P_field; iterate 6 rfl) | (apply P_extract; iterate 4 rfl) | (apply P_not; iterate 3 rfl)
      | (apply P_load; rfl; (first | exact I0 | exact I1 | exact I2 | exact I3 | exact I4 | exact I5 | exact I6); iterate 4 rfl) | (apply P_alloc; rfl; rfl; rfl; intro _)
      | (apply P_store; rfl; (focus (repeat first | exact .z | apply SetAt.s | apply SetAtF.s)); iterate 4 rfl) | apply EL.nil | ((with_reducible apply EK.then_normal); apply EK.code)
      | (apply EC.cond_false; rfl) | (with_reducible first | apply EC.seq | apply EC.region | apply EC.skip | apply EC.block | apply EK.in_normal))
    refine EK.again ⟨(g', .mk kl kb kx, i, r, fu), e3, hi, fun c hc => hp c (e5 c hc), by dsimp only; omega, hch⟩ (by dsimp only; omega) ?_
    dsimp only
    rw [dItem]
    exact (Le.keep (by repeat first | exact trivial | refine ⟨rfl, ?_⟩) (by repeat first | exact List.nil_sublist _ | apply List.Sublist.cons_cons | apply List.Sublist.cons) (by simp))
  ·
   obtain ⟨yl, yb, yx⟩ := y
   obtain rfl : yl = false := hl
   rw [dItem]
   by_cases hlt : i < q.length
   ·
    have hat : (q.map D.bs)[i]? = some (.bs q[i]) := by rw [List.getElem?_map, List.getElem?_eq_getElem hlt]; rfl
    rw [drop_cons hlt, chk_hash1 fu rfl] at hch
    rw [show bts (.mk false yb yx) = yb from rfl] at hch
    have hbl := hq _ (List.getElem_mem hlt)
    have hH := f_rHash q[i] (by omega)
    have hb := (bin_string (hash q[i]) yb).2
    have hce : cmpI .eql (i : Int) ((q.map D.bs).length : Int) = some false := by
     simp only [cmpI, Option.some.injEq, beq_eq_false_iff_ne]
     omega
    by_cases he : hash q[i] = yb
    ·
     rw [if_pos he] at hch
     rw [show (hash q[i] != yb) = false by simp [he]] at hb
     have hR := f_ReadRef q[i]
     have hgx := rdX_gdA q[i]
     have hI := f_isNode 40 (rdX q[i]) (by have := hgx.dep; omega) (by have := hgx.len; simp only [most] at this; omega)
     unfold readD at hR
     by_cases hok : rdE q[i] = 0 ∧ isN 40 (rdX q[i]) = true
     ·
      rw [if_pos hok] at hch
      rw [hok.1] at hR
      rw [hok.2] at hI
      have hD := f_down hgx hok.2 p hp
      have hst := step_dwn hgx hok.2 p hp
      unfold chkN at hch
      unfold downD at hD
      clear hok hgx
      generalize q[i] = qi at *
      generalize rdX qi = x at *
      obtain ⟨xl, xb, xx⟩ := x
      rw [dItem] at hR hI hD
      rcases hst with ⟨r, v, e1, e2, _⟩ | ⟨g', k, r, e1, _, e3, e4, e5⟩
      ·
       rw [e1, if_neg Bool.false_ne_true, e2] at hch
       rw [e1, e2] at hD
       generalize (dwn (.mk xl xb xx) p).1 = z1 at hD
       generalize (dwn (.mk xl xb xx) p).2.1 = z2 at hD
       obtain ⟨zl, zb, zx⟩ := z1
       rw [dItem] at hD
       rw [List.length_drop] at hch
       by_cases hlt1 : i + 1 < q.length
       ·
        rw [if_neg (by omega)] at hch
        subst hch
        have hcl : cmpI .lss ((i : Int) + 1) ((q.map D.bs).length : Int) = some true := by
         simp only [cmpI, Option.some.injEq, decide_eq_true_eq]
         omega
        repeat
         (first
          | (apply P_field; iterate 6 rfl) | (apply P_not; iterate 3 rfl)
          | (apply P_load; rfl; (first | exact I0 | exact I1 | exact I2 | exact I3 | exact I4 | exact I5 | exact I6); iterate 4 rfl) | (apply P_alloc; rfl; rfl; rfl; intro _)
          | (apply P_store; rfl; (focus (repeat first | exact .z | apply SetAt.s | apply SetAtF.s)); iterate 4 rfl) | apply EL.nil | ((with_reducible apply EK.then_normal); apply EK.code)
          | (apply EC.cond_true; rfl) | (with_reducible first | apply EC.seq | apply EC.region | apply EC.block))
        refine EC.draw 14 (by kernel_rfl) ?_
        simp only [List.take_succ_cons, List.take_zero, List.drop_succ_cons, List.drop_zero]
        repeat
         (first
          | (apply H_call (hH); rfl; exact RefineL.refl _ _; (focus (intro _ _; simp [go_sem]; done)); iterate 2 rfl)
          | (apply H_cmp (b := false); (iterate 2 rfl); exact hce; iterate 2 rfl)
          | (apply H_index; (iterate 4 rfl); exact ⟨by omega, by rw [Int.toNat_natCast]; exact hat⟩; iterate 2 rfl) | (apply H_move; iterate 3 rfl) | (apply H_field; iterate 6 rfl)
          | (apply H_loadpd; iterate 5 rfl) | (apply H_load; rfl; (first | exact I0 | exact I1 | exact I2 | exact I3 | exact I4 | exact I5 | exact I6); iterate 4 rfl)
          | (apply H_lensl; iterate 4 rfl) | (apply H_str; iterate 3 rfl) | ((with_reducible apply EH.nil); rfl))
        repeat
         (first
          | (apply P_bin; (iterate 2 rfl); exact hb; iterate 2 rfl) | (apply P_call (hR); rfl; exact RefineL.refl _ _; (focus (intro _ _; simp [go_sem]; done)); iterate 2 rfl)
          | (apply P_call (hI); rfl; exact RefineL.refl _ _; (focus (intro _ _; simp [go_sem]; done)); iterate 2 rfl)
          | (apply P_call (hD); rfl; exact RefineL.refl _ _; (focus (intro _ _; simp [go_sem]; done)); iterate 2 rfl)
          | (apply P_index; (iterate 4 rfl); exact ⟨by omega, by rw [Int.toNat_natCast]; exact hat⟩; iterate 2 rfl)
          | (apply P_cmp (b := true); (iterate 2 rfl); exact hcl; iterate 2 rfl) | (apply P_move; iterate 3 rfl) | (apply P_assign; iterate 3 rfl)
          | (apply P_extract; iterate 4 rfl) | (apply P_loadpd; iterate 5 rfl) | (apply P_pick; iterate 4 rfl) | (apply P_not; iterate 3 rfl)
          | (apply P_load; rfl; (first | exact I0 | exact I1 | exact I2 | exact I3 | exact I4 | exact I5 | exact I6); iterate 4 rfl)
          | (apply P_cmp (b := false); (iterate 2 rfl); (focus (first | (simp [cmpI]; done) | (simp [cmpI]; omega))); iterate 2 rfl)
          | (apply P_ar; (iterate 3 rfl); (focus omega); (focus omega); iterate 2 rfl) | (apply P_lensl; iterate 4 rfl) | (apply P_alloc; rfl; rfl; rfl; intro _)
          | (apply P_store; rfl; (focus (repeat first | exact .z | apply SetAt.s | apply SetAtF.s)); iterate 4 rfl) | apply EL.nil | ((with_reducible apply EK.then_normal); apply EK.code)
          | (apply EC.cond_true; rfl) | (apply EC.cond_false; rfl) | (with_reducible first | apply EC.seq | apply EC.region | apply EC.skip | apply EC.ret | apply EK.in_ret | apply EK.then_ret))
        exact EK.retM3 [] rfl rfl rfl rfl (by (repeat first | exact RefineL.refl _ _ | exact RL.nil | exact Rf.same | exact Rf.bs0 | exact Rf.sl0 | (apply Rf.fact; (focus (simp; done)); rfl) | apply Rf.tup | apply RL.cons)) (by (repeat first | exact RefineL.refl _ _ | exact RL.nil | exact Rf.same | exact Rf.bs0 | exact Rf.sl0 | (apply Rf.fact; (focus (simp; done)); rfl) | apply Rf.tup | apply RL.cons)) (by (repeat first | exact RefineL.refl _ _ | exact RL.nil | exact Rf.same | exact Rf.bs0 | exact Rf.sl0 | (apply Rf.fact; (focus (simp; done)); rfl) | apply Rf.tup | apply RL.cons)) (List.nil_sublist _) ⟨rfl, rfl⟩
       ·
        rw [if_pos (by omega)] at hch
        subst hch
        have hcl : cmpI .lss ((i : Int) + 1) ((q.map D.bs).length : Int) = some false := by
         simp only [cmpI, Option.some.injEq, decide_eq_false_iff_not]
         omega
        dsimp only
        by_cases hv : 0 < v.length
        ·
         rw [show decide (0 < v.length) = true by simp [hv]]
         have hc0 : cmpI .gtr (v.length : Int) 0 = some true := by
          simp only [cmpI, Option.some.injEq, decide_eq_true_eq]
          omega
         repeat
          (first
           | (apply P_field; iterate 6 rfl) | (apply P_not; iterate 3 rfl)
           | (apply P_load; rfl; (first | exact I0 | exact I1 | exact I2 | exact I3 | exact I4 | exact I5 | exact I6); iterate 4 rfl) | (apply P_alloc; rfl; rfl; rfl; intro _)
           | (apply P_store; rfl; (focus (repeat first | exact .z | apply SetAt.s | apply SetAtF.s)); iterate 4 rfl) | apply EL.nil | ((with_reducible apply EK.then_normal); apply EK.code)
           | (apply EC.cond_true; rfl) | (with_reducible first | apply EC.seq | apply EC.region | apply EC.block))
         refine EC.draw 14 (by kernel_rfl) ?_
         simp only [List.take_succ_cons, List.take_zero, List.drop_succ_cons, List.drop_zero]
         repeat
          (first
           | (apply H_call (hH); rfl; exact RefineL.refl _ _; (focus (intro _ _; simp [go_sem]; done)); iterate 2 rfl)
           | (apply H_cmp (b := false); (iterate 2 rfl); exact hce; iterate 2 rfl)
           | (apply H_index; (iterate 4 rfl); exact ⟨by omega, by rw [Int.toNat_natCast]; exact hat⟩; iterate 2 rfl) | (apply H_move; iterate 3 rfl) | (apply H_field; iterate 6 rfl)
           | (apply H_loadpd; iterate 5 rfl) | (apply H_load; rfl; (first | exact I0 | exact I1 | exact I2 | exact I3 | exact I4 | exact I5 | exact I6); iterate 4 rfl)
           | (apply H_lensl; iterate 4 rfl) | (apply H_str; iterate 3 rfl) | ((with_reducible apply EH.nil); rfl))
         repeat
          (first
           | (apply P_bin; (iterate 2 rfl); exact hb; iterate 2 rfl) | (apply P_call (hR); rfl; exact RefineL.refl _ _; (focus (intro _ _; simp [go_sem]; done)); iterate 2 rfl)
           | (apply P_call (hI); rfl; exact RefineL.refl _ _; (focus (intro _ _; simp [go_sem]; done)); iterate 2 rfl)
           | (apply P_call (hD); rfl; exact RefineL.refl _ _; (focus (intro _ _; simp [go_sem]; done)); iterate 2 rfl)
           | (apply P_index; (iterate 4 rfl); exact ⟨by omega, by rw [Int.toNat_natCast]; exact hat⟩; iterate 2 rfl)
           | (apply P_cmp (b := false); (iterate 2 rfl); exact hcl; iterate 2 rfl) | (apply P_cmp (b := true); (iterate 2 rfl); exact hc0; iterate 2 rfl)
           | (apply P_move; iterate 3 rfl) | (apply P_assign; iterate 3 rfl) | (apply P_extract; iterate 4 rfl) | (apply P_loadpd; iterate 5 rfl)
           | (apply P_pick; iterate 4 rfl) | (apply P_not; iterate 3 rfl)
           | (apply P_load; rfl; (first | exact I0 | exact I1 | exact I2 | exact I3 | exact I4 | exact I5 | exact I6); iterate 4 rfl)
           | (apply P_cmp (b := false); (iterate 2 rfl); (focus (first | (simp [cmpI]; done) | (simp [cmpI]; omega))); iterate 2 rfl)
           | (apply P_ar; (iterate 3 rfl); (focus omega); (focus omega); iterate 2 rfl) | (apply P_lenbs; iterate 4 rfl) | (apply P_lensl; iterate 4 rfl)
           | (apply P_alloc; rfl; rfl; rfl; intro _) | (apply P_store; rfl; (focus (repeat first | exact .z | apply SetAt.s | apply SetAtF.s)); iterate 4 rfl) | apply EL.nil
           | ((with_reducible apply EK.then_normal); apply EK.code) | (apply EC.cond_true; rfl) | (apply EC.cond_false; rfl)
           | (with_reducible first | apply EC.seq | apply EC.region | apply EC.skip | apply EC.ret | apply EK.in_ret | apply EK.then_ret))
         exact EK.retM3 [] rfl rfl rfl rfl (by (repeat first | exact RefineL.refl _ _ | exact RL.nil | exact Rf.same | exact Rf.bs0 | exact Rf.sl0 | (apply Rf.fact; (focus (simp; done)); rfl) | apply Rf.tup | apply RL.cons)) (by (repeat first | exact RefineL.refl _ _ | exact RL.nil | exact Rf.same | exact Rf.bs0 | exact Rf.sl0 | (apply Rf.fact; (focus (simp; done)); rfl) | apply Rf.tup | apply RL.cons)) (by (repeat first | exact RefineL.refl _ _ | exact RL.nil | exact Rf.same | exact Rf.bs0 | exact Rf.sl0 | (apply Rf.fact; (focus (simp; done)); rfl) | apply Rf.tup | apply RL.cons)) (List.nil_sublist _) ⟨rfl, rfl⟩
        ·
         rw [show decide (0 < v.length) = false by simp [hv]]
         have hc0 : cmpI .gtr (v.length : Int) 0 = some false := by
          simp only [cmpI, Option.some.injEq, decide_eq_false_iff_not]
          omega
         repeat
          (first
           | (apply P_field; iterate 6 rfl) | (apply P_not; iterate 3 rfl)
           | (apply P_load; rfl; (first | exact I0 | exact I1 | exact I2 | exact I3 | exact I4 | exact I5 | exact I6); iterate 4 rfl) | (apply P_alloc; rfl; rfl; rfl; intro _)
           | (apply P_store; rfl; (focus (repeat first | exact .z | apply SetAt.s | apply SetAtF.s)); iterate 4 rfl) | apply EL.nil | ((with_reducible apply EK.then_normal); apply EK.code)
           | (apply EC.cond_true; rfl) | (with_reducible first | apply EC.seq | apply EC.region | apply EC.block))
         refine EC.draw 14 (by kernel_rfl) ?_
         simp only [List.take_succ_cons, List.take_zero, List.drop_succ_cons, List.drop_zero]
         repeat
          (first
           | (apply H_call (hH); rfl; exact RefineL.refl _ _; (focus (intro _ _; simp [go_sem]; done)); iterate 2 rfl)
           | (apply H_cmp (b := false); (iterate 2 rfl); exact hce; iterate 2 rfl)
           | (apply H_index; (iterate 4 rfl); exact ⟨by omega, by rw [Int.toNat_natCast]; exact hat⟩; iterate 2 rfl) | (apply H_move; iterate 3 rfl) | (apply H_field; iterate 6 rfl)
           | (apply H_loadpd; iterate 5 rfl) | (apply H_load; rfl; (first | exact I0 | exact I1 | exact I2 | exact I3 | exact I4 | exact I5 | exact I6); iterate 4 rfl)
           | (apply H_lensl; iterate 4 rfl) | (apply H_str; iterate 3 rfl) | ((with_reducible apply EH.nil); rfl))
         repeat
          (first
           | (apply P_bin; (iterate 2 rfl); exact hb; iterate 2 rfl) | (apply P_call (hR); rfl; exact RefineL.refl _ _; (focus (intro _ _; simp [go_sem]; done)); iterate 2 rfl)
           | (apply P_call (hI); rfl; exact RefineL.refl _ _; (focus (intro _ _; simp [go_sem]; done)); iterate 2 rfl)
           | (apply P_call (hD); rfl; exact RefineL.refl _ _; (focus (intro _ _; simp [go_sem]; done)); iterate 2 rfl)
           | (apply P_index; (iterate 4 rfl); exact ⟨by omega, by rw [Int.toNat_natCast]; exact hat⟩; iterate 2 rfl)
           | (apply P_cmp (b := false); (iterate 2 rfl); (first | exact hcl | exact hc0); iterate 2 rfl) | (apply P_move; iterate 3 rfl) | (apply P_assign; iterate 3 rfl)
           | (apply P_extract; iterate 4 rfl) | (apply P_loadpd; iterate 5 rfl) | (apply P_pick; iterate 4 rfl) | (apply P_not; iterate 3 rfl)
           | (apply P_load; rfl; (first | exact I0 | exact I1 | exact I2 | exact I3 | exact I4 | exact I5 | exact I6); iterate 4 rfl)
           | (apply P_cmp (b := false); (iterate 2 rfl); (focus (first | (simp [cmpI]; done) | (simp [cmpI]; omega))); iterate 2 rfl)
           | (apply P_ar; (iterate 3 rfl); (focus omega); (focus omega); iterate 2 rfl) | (apply P_lenbs; iterate 4 rfl) | (apply P_lensl; iterate 4 rfl)
           | (apply P_alloc; rfl; rfl; rfl; intro _) | (apply P_store; rfl; (focus (repeat first | exact .z | apply SetAt.s | apply SetAtF.s)); iterate 4 rfl) | apply EL.nil
           | ((with_reducible apply EK.then_normal); apply EK.code) | (apply EC.cond_true; rfl) | (apply EC.cond_false; rfl)
           | (with_reducible first | apply EC.seq | apply EC.region | apply EC.skip | apply EC.ret | apply EK.in_ret | apply EK.then_ret))
         exact EK.retM3 [] rfl rfl rfl rfl (by (repeat first | exact RefineL.refl _ _ | exact RL.nil | exact Rf.same | exact Rf.bs0 | exact Rf.sl0 | (apply Rf.fact; (focus (simp; done)); rfl) | apply Rf.tup | apply RL.cons)) (by (repeat first | exact RefineL.refl _ _ | exact RL.nil | exact Rf.same | exact Rf.bs0 | exact Rf.sl0 | (apply Rf.fact; (focus (simp; done)); rfl) | apply Rf.tup | apply RL.cons)) (by (repeat first | exact RefineL.refl _ _ | exact RL.nil | exact Rf.same | exact Rf.bs0 | exact Rf.sl0 | (apply Rf.fact; (focus (simp; done)); rfl) | apply Rf.tup | apply RL.cons)) (List.nil_sublist _) ⟨rfl, rfl⟩
      ·
       rw [e1, if_pos rfl] at hch
       rw [e1] at hD
       dsimp only at hch hD
       obtain ⟨kl, kb, kx⟩ := k
       rw [dItem] at hD
       repeat
        (first
         | (apply P_field; iterate 6 rfl) | (apply P_not; iterate 3 rfl)
         | (apply P_load; rfl; (first | exact I0 | exact I1 | exact I2 | exact I3 | exact I4 | exact I5 | exact I6); iterate 4 rfl) | (apply P_alloc; rfl; rfl; rfl; intro _)
         | (apply P_store; rfl; (focus (repeat first | exact .z | apply SetAt.s | apply SetAtF.s)); iterate 4 rfl) | apply EL.nil | ((with_reducible apply EK.then_normal); apply EK.code)
         | (apply EC.cond_true; rfl) | (with_reducible first | apply EC.seq | apply EC.region | apply EC.block))
       refine EC.draw 14 (by kernel_rfl) ?_
       simp only [List.take_succ_cons, List.take_zero, List.drop_succ_cons, List.drop_zero]
       repeat
        (first
         | (apply H_call (hH); rfl; exact RefineL.refl _ _; (focus (intro _ _; simp [go_sem]; done)); iterate 2 rfl)
         | (apply H_cmp (b := false); (iterate 2 rfl); exact hce; iterate 2 rfl)
         | (apply H_index; (iterate 4 rfl); exact ⟨by omega, by rw [Int.toNat_natCast]; exact hat⟩; iterate 2 rfl) | (apply H_move; iterate 3 rfl) | (apply H_field; iterate 6 rfl)
         | (apply H_loadpd; iterate 5 rfl) | (apply H_load; rfl; (first | exact I0 | exact I1 | exact I2 | exact I3 | exact I4 | exact I5 | exact I6); iterate 4 rfl)
         | (apply H_lensl; iterate 4 rfl) | (apply H_str; iterate 3 rfl) | ((with_reducible apply EH.nil); rfl))
       repeat
        (first
         | (apply P_bin; (iterate 2 rfl); exact hb; iterate 2 rfl) | (apply P_call (hR); rfl; exact RefineL.refl _ _; (focus (intro _ _; simp [go_sem]; done)); iterate 2 rfl)
         | (apply P_call (hI); rfl; exact RefineL.refl _ _; (focus (intro _ _; simp [go_sem]; done)); iterate 2 rfl)
         | (apply P_call (hD); rfl; exact RefineL.refl _ _; (focus (intro _ _; simp [go_sem]; done)); iterate 2 rfl)
         | (apply P_index; (iterate 4 rfl); exact ⟨by omega, by rw [Int.toNat_natCast]; exact hat⟩; iterate 2 rfl) | (apply P_move; iterate 3 rfl) | (apply P_assign; iterate 3 rfl)
         | (apply P_extract; iterate 4 rfl) | (apply P_loadpd; iterate 5 rfl) | (apply P_pick; iterate 4 rfl) | (apply P_not; iterate 3 rfl)
         | (apply P_load; rfl; (first | exact I0 | exact I1 | exact I2 | exact I3 | exact I4 | exact I5 | exact I6); iterate 4 rfl)
         | (apply P_cmp (b := false); (iterate 2 rfl); (focus (first | (simp [cmpI]; done) | (simp [cmpI]; omega))); iterate 2 rfl)
         | (apply P_ar; (iterate 3 rfl); (focus omega); (focus omega); iterate 2 rfl) | (apply P_alloc; rfl; rfl; rfl; intro _)
         | (apply P_store; rfl; (focus (repeat first | exact .z | apply SetAt.s | apply SetAtF.s)); iterate 4 rfl) | apply EL.nil | ((with_reducible apply EK.then_normal); apply EK.code)
         | (apply EC.cond_false; rfl) | (with_reducible first | apply EC.seq | apply EC.region | apply EC.skip | apply EK.in_normal))
       refine EK.again ⟨(g', .mk kl kb kx, i + 1, r, fu), e3, hlt, fun c hc => hp c (e5 c hc), by dsimp only; omega, hch⟩ (by dsimp only; omega) ?_
       dsimp only
       rw [dItem]
       simp only [Int.natCast_add]
       exact (Le.keep (by repeat first | exact trivial | refine ⟨rfl, ?_⟩) (by repeat first | exact List.nil_sublist _ | apply List.Sublist.cons_cons | apply List.Sublist.cons) (by simp))
     ·
      rw [if_neg hok] at hch
      subst hch
      by_cases he0 : rdE q[i] = 0
      ·
       have hnn : isN 40 (rdX q[i]) = false := Bool.eq_false_iff.2 fun h => hok ⟨he0, h⟩
       rw [he0] at hR
       rw [hnn] at hI
       clear hok hgx hnn
       generalize q[i] = qi at *
       generalize rdX qi = x at *
       obtain ⟨xl, xb, xx⟩ := x
       rw [dItem] at hR hI
       repeat
        (first
         | (apply P_field; iterate 6 rfl) | (apply P_not; iterate 3 rfl)
         | (apply P_load; rfl; (first | exact I0 | exact I1 | exact I2 | exact I3 | exact I4 | exact I5 | exact I6); iterate 4 rfl) | (apply P_alloc; rfl; rfl; rfl; intro _)
         | (apply P_store; rfl; (focus (repeat first | exact .z | apply SetAt.s | apply SetAtF.s)); iterate 4 rfl) | apply EL.nil | ((with_reducible apply EK.then_normal); apply EK.code)
         | (apply EC.cond_true; rfl) | (with_reducible first | apply EC.seq | apply EC.region | apply EC.block))
       refine EC.draw 14 (by kernel_rfl) ?_
       simp only [List.take_succ_cons, List.take_zero, List.drop_succ_cons, List.drop_zero]
       repeat
        (first
         | (apply H_call (hH); rfl; exact RefineL.refl _ _; (focus (intro _ _; simp [go_sem]; done)); iterate 2 rfl)
         | (apply H_cmp (b := false); (iterate 2 rfl); exact hce; iterate 2 rfl)
         | (apply H_index; (iterate 4 rfl); exact ⟨by omega, by rw [Int.toNat_natCast]; exact hat⟩; iterate 2 rfl) | (apply H_move; iterate 3 rfl) | (apply H_field; iterate 6 rfl)
         | (apply H_loadpd; iterate 5 rfl) | (apply H_load; rfl; (first | exact I0 | exact I1 | exact I2 | exact I3 | exact I4 | exact I5 | exact I6); iterate 4 rfl)
         | (apply H_lensl; iterate 4 rfl) | (apply H_str; iterate 3 rfl) | ((with_reducible apply EH.nil); rfl))
       repeat
        (first
         | (apply P_bin; (iterate 2 rfl); exact hb; iterate 2 rfl) | (apply P_call (hR); rfl; exact RefineL.refl _ _; (focus (intro _ _; simp [go_sem]; done)); iterate 2 rfl)
         | (apply P_call (hI); rfl; exact RefineL.refl _ _; (focus (intro _ _; simp [go_sem]; done)); iterate 2 rfl)
         | (apply P_index; (iterate 4 rfl); exact ⟨by omega, by rw [Int.toNat_natCast]; exact hat⟩; iterate 2 rfl) | (apply P_move; iterate 3 rfl) | (apply P_assign; iterate 3 rfl)
         | (apply P_extract; iterate 4 rfl) | (apply P_loadpd; iterate 5 rfl) | (apply P_pick; iterate 4 rfl) | (apply P_not; iterate 3 rfl)
         | (apply P_load; rfl; (first | exact I0 | exact I1 | exact I2 | exact I3 | exact I4 | exact I5 | exact I6); iterate 4 rfl)
         | (apply P_cmp (b := false); (iterate 2 rfl); (focus (first | (simp [cmpI]; done) | (simp [cmpI]; omega))); iterate 2 rfl)
         | (apply P_ar; (iterate 3 rfl); (focus omega); (focus omega); iterate 2 rfl) | (apply P_alloc; rfl; rfl; rfl; intro _)
         | (apply P_store; rfl; (focus (repeat first | exact .z | apply SetAt.s | apply SetAtF.s)); iterate 4 rfl) | apply EL.nil | ((with_reducible apply EK.then_normal); apply EK.code)
         | (apply EC.cond_true; rfl) | (apply EC.cond_false; rfl) | (with_reducible first | apply EC.seq | apply EC.region | apply EC.skip | apply EC.ret | apply EK.in_ret | apply EK.then_ret))
       exact EK.retM3 [] rfl rfl rfl rfl (by (repeat first | exact RefineL.refl _ _ | exact RL.nil | exact Rf.same | exact Rf.bs0 | exact Rf.sl0 | (apply Rf.fact; (focus (simp; done)); rfl) | apply Rf.tup | apply RL.cons)) (by (repeat first | exact RefineL.refl _ _ | exact RL.nil | exact Rf.same | exact Rf.bs0 | exact Rf.sl0 | (apply Rf.fact; (focus (simp; done)); rfl) | apply Rf.tup | apply RL.cons)) (by (repeat first | exact RefineL.refl _ _ | exact RL.nil | exact Rf.same | exact Rf.bs0 | exact Rf.sl0 | (apply Rf.fact; (focus (simp; done)); rfl) | apply Rf.tup | apply RL.cons)) (List.nil_sublist _) ⟨rfl, rfl⟩
      ·
       have hcn : cmpI .neq (rdE q[i] : Int) 0 = some true := by
        have : (rdE q[i] : Int) ≠ 0 := by omega
        simp only [cmpI, Option.some.injEq, bne_iff_ne]
        exact this
       clear hok hgx hI
       generalize q[i] = qi at *
       generalize rdX qi = x at *
       generalize rdE qi = e at *
       obtain ⟨xl, xb, xx⟩ := x
       rw [dItem] at hR
       repeat
        (first
         | (apply P_field; iterate 6 rfl) | (apply P_not; iterate 3 rfl)
         | (apply P_load; rfl; (first | exact I0 | exact I1 | exact I2 | exact I3 | exact I4 | exact I5 | exact I6); iterate 4 rfl) | (apply P_alloc; rfl; rfl; rfl; intro _)
         | (apply P_store; rfl; (focus (repeat first | exact .z | apply SetAt.s | apply SetAtF.s)); iterate 4 rfl) | apply EL.nil | ((with_reducible apply EK.then_normal); apply EK.code)
         | (apply EC.cond_true; rfl) | (with_reducible first | apply EC.seq | apply EC.region | apply EC.block))
       refine EC.draw 14 (by kernel_rfl) ?_
       simp only [List.take_succ_cons, List.take_zero, List.drop_succ_cons, List.drop_zero]
       repeat
        (first
         | (apply H_call (hH); rfl; exact RefineL.refl _ _; (focus (intro _ _; simp [go_sem]; done)); iterate 2 rfl)
         | (apply H_cmp (b := false); (iterate 2 rfl); exact hce; iterate 2 rfl)
         | (apply H_index; (iterate 4 rfl); exact ⟨by omega, by rw [Int.toNat_natCast]; exact hat⟩; iterate 2 rfl) | (apply H_move; iterate 3 rfl) | (apply H_field; iterate 6 rfl)
         | (apply H_loadpd; iterate 5 rfl) | (apply H_load; rfl; (first | exact I0 | exact I1 | exact I2 | exact I3 | exact I4 | exact I5 | exact I6); iterate 4 rfl)
         | (apply H_lensl; iterate 4 rfl) | (apply H_str; iterate 3 rfl) | ((with_reducible apply EH.nil); rfl))
       repeat
        (first
         | (apply P_skip; iterate 2 rfl) | (apply P_bin; (iterate 2 rfl); exact hb; iterate 2 rfl)
         | (apply P_call (hR); rfl; exact RefineL.refl _ _; (focus (intro _ _; simp [go_sem]; done)); iterate 2 rfl)
         | (apply P_index; (iterate 4 rfl); exact ⟨by omega, by rw [Int.toNat_natCast]; exact hat⟩; iterate 2 rfl)
         | (apply P_cmp (b := true); (iterate 2 rfl); exact hcn; iterate 2 rfl) | (apply P_move; iterate 3 rfl) | (apply P_assign; iterate 3 rfl)
         | (apply P_extract; iterate 4 rfl) | (apply P_loadpd; iterate 5 rfl) | (apply P_pick; iterate 4 rfl)
         | (apply P_ar; (iterate 3 rfl); (focus omega); (focus omega); iterate 2 rfl) | (apply P_alloc; rfl; rfl; rfl; intro _)
         | (apply P_store; rfl; (focus (repeat first | exact .z | apply SetAt.s | apply SetAtF.s)); iterate 4 rfl) | apply EL.nil | ((with_reducible apply EK.then_normal); apply EK.code)
         | (apply EC.cond_true; rfl) | (apply EC.cond_false; rfl) | (with_reducible first | apply EC.seq | apply EC.region | apply EC.skip | apply EC.ret | apply EK.in_ret | apply EK.then_ret))
       exact EK.retM3 [] rfl rfl rfl rfl (by (repeat first | exact RefineL.refl _ _ | exact RL.nil | exact Rf.same | exact Rf.bs0 | exact Rf.sl0 | (apply Rf.fact; (focus (simp; done)); rfl) | apply Rf.tup | apply RL.cons)) (by (repeat first | exact RefineL.refl _ _ | exact RL.nil | exact Rf.same | exact Rf.bs0 | exact Rf.sl0 | (apply Rf.fact; (focus (simp; done)); rfl) | apply Rf.tup | apply RL.cons)) (by (repeat first | exact RefineL.refl _ _ | exact RL.nil | exact Rf.same | exact Rf.bs0 | exact Rf.sl0 | (apply Rf.fact; (focus (simp; done)); rfl) | apply Rf.tup | apply RL.cons)) (List.nil_sublist _) ⟨rfl, rfl⟩
    ·
     rw [if_neg he] at hch
     subst hch
     rw [show (hash q[i] != yb) = true by simp [he]] at hb
     generalize q[i] = qi at *
     repeat
      (first
       | (apply P_field; iterate 6 rfl) | (apply P_not; iterate 3 rfl)
       | (apply P_load; rfl; (first | exact I0 | exact I1 | exact I2 | exact I3 | exact I4 | exact I5 | exact I6); iterate 4 rfl) | (apply P_alloc; rfl; rfl; rfl; intro _)
       | (apply P_store; rfl; (focus (repeat first | exact .z | apply SetAt.s | apply SetAtF.s)); iterate 4 rfl) | apply EL.nil | ((with_reducible apply EK.then_normal); apply EK.code)
       | (apply EC.cond_true; rfl) | (with_reducible first | apply EC.seq | apply EC.region | apply EC.block))
     refine EC.draw 14 (by kernel_rfl) ?_
     simp only [List.take_succ_cons, List.take_zero, List.drop_succ_cons, List.drop_zero]
     repeat
      (first
       | (apply H_call (hH); rfl; exact RefineL.refl _ _; (focus (intro _ _; simp [go_sem]; done)); iterate 2 rfl)
       | (apply H_cmp (b := false); (iterate 2 rfl); exact hce; iterate 2 rfl)
       | (apply H_index; (iterate 4 rfl); exact ⟨by omega, by rw [Int.toNat_natCast]; exact hat⟩; iterate 2 rfl) | (apply H_move; iterate 3 rfl) | (apply H_field; iterate 6 rfl)
       | (apply H_loadpd; iterate 5 rfl) | (apply H_load; rfl; (first | exact I0 | exact I1 | exact I2 | exact I3 | exact I4 | exact I5 | exact I6); iterate 4 rfl)
       | (apply H_lensl; iterate 4 rfl) | (apply H_str; iterate 3 rfl) | ((with_reducible apply EH.nil); rfl))
     repeat
      (first
       | (apply P_bin; (iterate 2 rfl); exact hb; iterate 2 rfl) | (apply P_assign; iterate 3 rfl) | (apply P_pick; iterate 4 rfl) | apply EL.nil
       | ((with_reducible apply EK.then_normal); apply EK.code) | (apply EC.cond_true; rfl) | (with_reducible first | apply EC.seq | apply EC.region | apply EC.ret | apply EK.in_ret | apply EK.then_ret))
     exact EK.retM3 [] rfl rfl rfl rfl (by (repeat first | exact RefineL.refl _ _ | exact RL.nil | exact Rf.same | exact Rf.bs0 | exact Rf.sl0 | (apply Rf.fact; (focus (simp; done)); rfl) | apply Rf.tup | apply RL.cons)) (by (repeat first | exact RefineL.refl _ _ | exact RL.nil | exact Rf.same | exact Rf.bs0 | exact Rf.sl0 | (apply Rf.fact; (focus (simp; done)); rfl) | apply Rf.tup | apply RL.cons)) (by (repeat first | exact RefineL.refl _ _ | exact RL.nil | exact Rf.same | exact Rf.bs0 | exact Rf.sl0 | (apply Rf.fact; (focus (simp; done)); rfl) | apply Rf.tup | apply RL.cons)) (List.nil_sublist _) ⟨rfl, rfl⟩
   ·
    obtain rfl : i = q.length := by omega
    rw [List.drop_length, chk_hash0 fu rfl] at hch
    subst hch
    have hce : cmpI .eql (q.length : Int) ((q.map D.bs).length : Int) = some true := by
     rw [hml]
     simp [cmpI]
    repeat
     (first
      | (apply P_field; iterate 6 rfl) | (apply P_not; iterate 3 rfl)
      | (apply P_load; rfl; (first | exact I0 | exact I1 | exact I2 | exact I3 | exact I4 | exact I5 | exact I6); iterate 4 rfl) | (apply P_alloc; rfl; rfl; rfl; intro _)
      | (apply P_store; rfl; (focus (repeat first | exact .z | apply SetAt.s | apply SetAtF.s)); iterate 4 rfl) | apply EL.nil | ((with_reducible apply EK.then_normal); apply EK.code)
      | (apply EC.cond_true; rfl) | (with_reducible first | apply EC.seq | apply EC.region | apply EC.block))
    refine EC.draw 14 (by kernel_rfl) ?_
    simp only [List.take_succ_cons, List.take_zero, List.drop_succ_cons, List.drop_zero]
    repeat
     (first
      | (apply H_skip; iterate 2 rfl) | (apply H_cmp (b := true); (iterate 2 rfl); exact hce; iterate 2 rfl) | (apply H_move; iterate 3 rfl)
      | (apply H_lensl; iterate 4 rfl) | ((with_reducible apply EH.nil); rfl))
    repeat
     (first
      | (apply P_skip; iterate 2 rfl) | (apply P_assign; iterate 3 rfl) | (apply P_pick; iterate 4 rfl) | apply EL.nil | ((with_reducible apply EK.then_normal); apply EK.code)
      | (apply EC.cond_true; rfl) | (with_reducible first | apply EC.seq | apply EC.region | apply EC.ret | apply EK.in_ret | apply EK.then_ret))
    exact EK.retM3 [] rfl rfl rfl rfl (by (repeat first | exact RefineL.refl _ _ | exact RL.nil | exact Rf.same | exact Rf.bs0 | exact Rf.sl0 | (apply Rf.fact; (focus (simp; done)); rfl) | apply Rf.tup | apply RL.cons)) (by (repeat first | exact RefineL.refl _ _ | exact RL.nil | exact Rf.same | exact Rf.bs0 | exact Rf.sl0 | (apply Rf.fact; (focus (simp; done)); rfl) | apply Rf.tup | apply RL.cons)) (by (repeat first | exact RefineL.refl _ _ | exact RL.nil | exact Rf.same | exact Rf.bs0 | exact Rf.sl0 | (apply Rf.fact; (focus (simp; done)); rfl) | apply Rf.tup | apply RL.cons)) (List.nil_sublist _) ⟨rfl, rfl⟩
end E
end Go.Proofs.Ytiledgojbpmoiaa
