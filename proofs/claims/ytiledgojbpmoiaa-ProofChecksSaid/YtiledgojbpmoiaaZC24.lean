/-
 Merged (wip/tools/merge.py): PF7, PF6, BCL.
 Conditions: none.
-/
import Derived.Test.YtiledgojbpmoiaaZC17
import Derived.Test.YtiledgojbpmoiaaZC18
import Derived.Test.YtiledgojbpmoiaaZC20
import Derived.Test.YtiledgojbpmoiaaZC23
import Derived.Test.YtiledgojbpmoiaaZC16
import Derived.Test.YtiledgojbpmoiaaZC19
import Derived.Test.YtiledgojbpmoiaaZC13
import Derived.Test.YtiledgojbpmoiaaZC11
import Derived.Test.YtiledgojbpmoiaaZC2
import Derived.Lib.SliceRun
/-
 The nodes of items: shape.branch, shape.node, shape.Read.
 Conditions: none.
-/
namespace Go.Proofs.Ytiledgojbpmoiaa
set_option linter.unusedVariables false
open Go.RowKit Mono Rlp
namespace E
theorem bin_nodeNe (t : Nd) : Bin .neq 41 (dN t) (.v .nilIface) (.bool !t.isNil) := by
 have key : ∀ T d, Bin .neq 41 (.ifc T d) (.v .nilIface) (.bool true) := fun T d => by
  refine ⟨rfl, fun ok w p q hp hq => ?_⟩
  obtain rfl := (readV_v.1 hq).2
  obtain ⟨cs, h1, rfl⟩ := hp
  rw [Reads] at h1
  obtain ⟨cs', rfl, _⟩ := h1
  exact ⟨fun x y => by simp [eqGuard, form, D.agg], run_neq_held_nil _ _ _ _ (by kernel_rfl)⟩
 cases t with
 | nil =>
  refine ⟨rfl, fun ok w p q hp hq => ?_⟩
  obtain rfl := (readV_v.1 hp).2
  obtain rfl := (readV_v.1 hq).2
  exact ⟨fun x y => by cases x <;> cases y <;> kernel_rfl, by kernel_rfl⟩
 | hash a => exact key _ _
 | leaf a b => exact key _ _
 | ext a b => exact key _ _
 | br a b => exact key _ _
theorem upd_N (t : Nd) (u : D) (h1 : u.size = 1) (h2 : u.agg = false) : (dN t).upd 0 u = some u := by
 cases t <;> (rw [dN]; simp [D.upd, h1, h2])
theorem sizes_N {ds : List D} (hs : ∀ e ∈ ds, ∃ s : Nd, e = dN s) : D.sizes ds = ds.length := by
 induction ds with
 | nil => rfl
 | cons e ds ih =>
  obtain ⟨s, rfl⟩ := hs e (by simp)
  rw [D.sizes, (dN_one s).1, ih fun e he => hs e (by simp [he]), List.length_cons, Nat.add_comm]
theorem upd_brN {ds : List D} {b : D} (k : Nat) (t : Nd) (hs : ∀ e ∈ ds, ∃ s : Nd, e = dN s) (hl : ds.length = 16) (hk : k < 16) : (D.tup [.tup ds, b]).upd k (dN t) = some (.tup [.tup (ds.set k (dN t)), b]) := by
 have hsz : D.sizes ds = 16 := by rw [sizes_N hs, hl]
 have h1 := (dN_one t).1
 have h2 := (dN_one t).2
 have h3 := upd_kids ds k (dN t) (fun e he => by
  obtain ⟨s, rfl⟩ := hs e he
  exact ⟨(dN_one s).1, (dN_one s).2, upd_N s⟩) (by omega) h1 h2
 rw [D.upd, if_neg (by rw [h2]; simp), D.updL, if_pos (by rw [D.size, hsz]; exact hk), D.upd, if_neg (by rw [h2]; simp), h3]
 rfl
theorem upd_valN {ds : List D} {b : D} (v : List UInt8) (hs : ∀ e ∈ ds, ∃ s : Nd, e = dN s) (hl : ds.length = 16) : (D.tup [.tup ds, .v (.slice none 0 0)]).upd 16 (.bs v) = some (.tup [.tup ds, .bs v]) := by
 have hsz : D.sizes ds = 16 := by rw [sizes_N hs, hl]
 simp [D.upd, D.updL, D.size, D.agg, hsz]
def kidsB (N : Raw → Nd × Bool) (xs : List Raw) (k : Nat) : List D := (List.range 16).map fun i => if i < k then dN (refF N (xs.getD i rawE)).1 else .v .nilIface
theorem kidsB_zero (N : Raw → Nd × Bool) (xs : List Raw) : kidsB N xs 0 = List.replicate 16 (.v .nilIface) := by
 unfold kidsB
 simp only [Nat.not_lt_zero, if_false]
 rfl
theorem kidsB_N (N : Raw → Nd × Bool) (xs : List Raw) (k : Nat) : (∀ e ∈ kidsB N xs k, ∃ s : Nd, e = dN s) ∧ (kidsB N xs k).length = 16 := by
 unfold kidsB
 refine ⟨fun e he => ?_, by simp⟩
 obtain ⟨i, _, rfl⟩ := List.mem_map.1 he
 by_cases h : i < k
 ·
  rw [if_pos h]
  exact ⟨_, rfl⟩
 ·
  rw [if_neg h]
  exact ⟨.nil, rfl⟩
theorem kidsB_succ (N : Raw → Nd × Bool) (xs : List Raw) (k : Nat) (hk : k < 16) : kidsB N xs (k + 1) = (kidsB N xs k).set k (dN (refF N (xs.getD k rawE)).1) := by
 unfold kidsB
 refine List.ext_getElem? fun d => ?_
 rw [List.getElem?_set]
 by_cases hd : k = d
 ·
  subst hd
  rw [if_pos rfl, if_pos (by simpa using hk), List.getElem?_map, List.getElem?_range hk, Option.map_some, if_pos (Nat.lt_succ_self _)]
 ·
  rw [if_neg hd, List.getElem?_map, List.getElem?_map]
  by_cases h16 : d < 16
  ·
   rw [List.getElem?_range h16, Option.map_some, Option.map_some]
   by_cases h1 : d < k
   · rw [if_pos h1, if_pos (by omega)]
   · rw [if_neg h1, if_neg (by omega)]
  ·
   rw [List.getElem?_eq_none (by simp; omega)]
   rfl
theorem kidsB_all (N : Raw → Nd × Bool) (xs : List Raw) : kidsB N xs 16 = (List.range 16).map fun i => dN (refF N (xs.getD i rawE)).1 := by
 unfold kidsB
 exact List.map_congr_left fun i hi => if_pos (List.mem_range.1 hi)
set_option maxRecDepth 20000 in
set_option maxHeartbeats 16000000 in
theorem f_sBranch (xs : List Raw) (N : Raw → Nd × Bool) (h17 : xs.length = 17) (H : ∀ y ∈ xs, isL y = true → Fn 29 [dItem y] (· = nodeD (N y))) : Fn 47 [.sl 3 (dItems xs)] (· = nodeD (brF N xs)) := by
 refine FnM.toFn ?_
 have hml : (dItems xs).length = 17 := by rw [dItems_map, List.length_map, h17]
 have hat : ∀ k, (hk : k < xs.length) → (dItems xs)[k]? = some (dItem xs[k]) := fun k hk => by rw [dItems_map, List.getElem?_map, List.getElem?_eq_getElem hk]; rfl
 have h16 := hat 16 (by omega)
 have hgd : ∀ k, (hk : k < xs.length) → xs.getD k rawE = xs[k] := fun k hk => getD_mem hk
 generalize hDs : dItems xs = Ds at hml hat h16
 refine FnM.walk 59 Try.func47 rfl Try.ntmps47 (by simp) fun X => ?_
 repeat
  (first
   | (apply P_move; iterate 3 rfl) | (apply P_assign; iterate 3 rfl) | (apply P_build; iterate 7 rfl) | (apply P_box; rfl; rfl; rfl; intro _) | apply EL.nil
   | ((with_reducible apply EK.then_normal); apply EK.code) | (with_reducible first | apply EC.seq | apply EC.region | apply EC.block))
 rename_i g
 refine EC.loop (ι := {k : Nat // k ≤ 16 ∧ (xs.take k).all (fun x => (refF N x).2) = true})
  (fun k => ⟨[(12, .val (.v (.int .i64 (k.1 : Int)))), (5, .val (.v (.int .i64 ((cntF N (xs.take k.1) : Nat) : Int)))), (4, .val (.v (.pointer (some ⟨g, 0, none⟩)))), (0, .val (.sl 3 Ds))], [.var g 84 (.tup [.tup (kidsB N xs k.1), .v (.slice none 0 0)])], []⟩)
  (fun k => 16 - k.1) ⟨0, Nat.zero_le _, rfl⟩ ?_ ?_
 ·
  dsimp only
  rw [kidsB_zero]
  exact (Le.keep (by repeat first | exact trivial | refine ⟨rfl, ?_⟩) (by repeat first | exact List.nil_sublist _ | apply List.Sublist.cons_cons | apply List.Sublist.cons) (by simp))
 rintro ⟨k, hk, hall⟩
 dsimp only at hk ⊢
 by_cases hlt : k < 16
 ·
  have hkx : k < xs.length := by omega
  have hd := hat k hkx
  have htk : xs.take (k + 1) = xs.take k ++ [xs[k]] := List.take_succ_eq_append_getElem hkx
  have hR := f_sRef xs[k] N (H xs[k] (List.getElem_mem hkx))
  have hno : (refF N xs[k]).2 = false → (xs.take 16).all (fun x => (refF N x).2) = false := fun h => by
   refine Bool.eq_false_iff.2 fun ha => ?_
   have := List.all_eq_true.1 ha xs[k] (List.mem_iff_getElem.2 ⟨k, by rw [List.length_take]; omega, by rw [List.getElem_take]⟩)
   rw [h] at this
   cases this
  have hks := kidsB_succ N xs k hlt
  rw [hgd k hkx] at hks
  have hkN := kidsB_N N xs k
  have hcn : cntF N (xs.take (k + 1)) = cntF N (xs.take k) + (if (refF N xs[k]).1.isNil then 0 else 1) := by
   unfold cntF
   rw [htk, List.filter_append, List.length_append]
   congr 1
   cases h : (refF N xs[k]).1.isNil with
   | true => rw [List.filter_cons_of_neg (by simp [h])]; rfl
   | false => rw [List.filter_cons_of_pos (by simp [h])]; rfl
  have hcl : cntF N (xs.take k) ≤ 16 := Nat.le_trans (List.length_filter_le _ _) (by rw [List.length_take]; omega)
  have hal1 : (refF N xs[k]).2 = true → (xs.take (k + 1)).all (fun x => (refF N x).2) = true := fun h => by
   rw [htk, List.all_append, hall]
   simp [h]
  generalize cntF N (xs.take k) = n at *
  generalize kidsB N xs k = K at *
  generalize xs[k] = y at *
  have hnn := bin_nodeNe (refF N y).1
  have hup := upd_brN (b := .v (.slice none 0 0)) k (refF N y).1 hkN.1 hkN.2 hlt
  have ho1 := (dN_one (refF N y).1).1
  have ho2 := (dN_one (refF N y).1).2
  unfold nodeD at hR
  obtain ⟨yl, yb, yx⟩ := y
  unfold dItem at hd hR
  generalize refF N (.mk yl yb yx) = r at *
  obtain ⟨c, ok⟩ := r
  dsimp only at *
  cases ok with
  | false =>
   have : brF N xs = (.nil, false) := by
    unfold brF
    rw [if_neg]
    rw [hno rfl]
    exact Bool.false_ne_true
   rw [this]
   repeat
    (first
     | (apply P_call (hR); rfl; exact RefineL.refl _ _; (focus (intro _ _; simp [go_sem]; done)); iterate 2 rfl)
     | (apply P_index (d := .tup [.v (.bool yl), .bs yb, .sl 3 (dItems yx)]); (iterate 4 rfl); exact ⟨by omega, by rw [Int.toNat_natCast]; exact hd⟩; iterate 2 rfl)
     | (apply P_move; iterate 3 rfl) | (apply P_assign; iterate 3 rfl) | (apply P_extract; iterate 4 rfl) | (apply P_loadpd; iterate 5 rfl)
     | (apply P_not; iterate 3 rfl) | (apply P_cmp (b := true); (iterate 2 rfl); (focus (first | (simp [cmpI]; done) | (simp [cmpI]; omega))); iterate 2 rfl) | apply EL.nil
     | ((with_reducible apply EK.then_normal); apply EK.code) | (apply EC.cond_true; rfl)
     | (with_reducible first | apply EC.seq | apply EC.region | apply EC.skip | apply EC.block | apply EC.ret | apply EK.in_ret | apply EK.then_ret))
   exact EK.retM2kS [] rfl rfl rfl (RL.cons Rf.same (RL.cons Rf.same RL.nil)) (List.nil_sublist _) ⟨rfl, rfl⟩
  | true =>
   cases hnil : c.isNil with
   | true =>
    rw [hnil] at hnn hcn
    rw [if_pos rfl, Nat.add_zero] at hcn
    repeat
     (first
      | (apply P_call (hR); rfl; exact RefineL.refl _ _; (focus (intro _ _; simp [go_sem]; done)); iterate 2 rfl) | (apply P_bin; (iterate 2 rfl); exact hnn; iterate 2 rfl)
      | (apply P_index (d := .tup [.v (.bool yl), .bs yb, .sl 3 (dItems yx)]); (iterate 4 rfl); exact ⟨by omega, by rw [Int.toNat_natCast]; exact hd⟩; iterate 2 rfl)
      | (apply P_indexptr; (iterate 3 rfl); exact ⟨by omega, by omega⟩; iterate 2 rfl)
      | (apply P_store; rfl; exact .z; rfl; exact (by rw [ho1, ho2]; rfl); exact (by rw [show 0 + 0 + (k : Int).toNat * 1 = k by omega]; exact hup); rfl)
      | (apply P_move; iterate 3 rfl) | (apply P_assign; iterate 3 rfl) | (apply P_field; iterate 6 rfl) | (apply P_extract; iterate 4 rfl)
      | (apply P_loadpd; iterate 5 rfl) | (apply P_not; iterate 3 rfl)
      | (apply P_cmp (b := true); (iterate 2 rfl); (focus (first | (simp [cmpI]; done) | (simp [cmpI]; omega))); iterate 2 rfl)
      | (apply P_ar; (iterate 3 rfl); (focus omega); (focus omega); iterate 2 rfl) | (apply P_nilck; iterate 3 rfl) | apply EL.nil
      | ((with_reducible apply EK.then_normal); apply EK.code) | (apply EC.cond_true; rfl) | (apply EC.cond_false; rfl)
      | (with_reducible first | apply EC.seq | apply EC.region | apply EC.skip | apply EC.block | apply EK.in_normal))
    refine EK.again ⟨k + 1, hlt, hal1 rfl⟩ (by dsimp only; omega) ?_
    dsimp only
    rw [hcn, hks]
    simp only [Int.natCast_add]
    exact (Le.keep (by repeat first | exact trivial | refine ⟨rfl, ?_⟩) (by repeat first | exact List.nil_sublist _ | apply List.Sublist.cons_cons | apply List.Sublist.cons) (by simp))
   | false =>
    rw [hnil] at hnn hcn
    rw [if_neg Bool.false_ne_true] at hcn
    repeat
     (first
      | (apply P_call (hR); rfl; exact RefineL.refl _ _; (focus (intro _ _; simp [go_sem]; done)); iterate 2 rfl) | (apply P_bin; (iterate 2 rfl); exact hnn; iterate 2 rfl)
      | (apply P_index (d := .tup [.v (.bool yl), .bs yb, .sl 3 (dItems yx)]); (iterate 4 rfl); exact ⟨by omega, by rw [Int.toNat_natCast]; exact hd⟩; iterate 2 rfl)
      | (apply P_indexptr; (iterate 3 rfl); exact ⟨by omega, by omega⟩; iterate 2 rfl)
      | (apply P_store; rfl; exact .z; rfl; exact (by rw [ho1, ho2]; rfl); exact (by rw [show 0 + 0 + (k : Int).toNat * 1 = k by omega]; exact hup); rfl)
      | (apply P_move; iterate 3 rfl) | (apply P_assign; iterate 3 rfl) | (apply P_field; iterate 6 rfl) | (apply P_extract; iterate 4 rfl)
      | (apply P_loadpd; iterate 5 rfl) | (apply P_not; iterate 3 rfl)
      | (apply P_cmp (b := true); (iterate 2 rfl); (focus (first | (simp [cmpI]; done) | (simp [cmpI]; omega))); iterate 2 rfl)
      | (apply P_ar; (iterate 3 rfl); (focus omega); (focus omega); iterate 2 rfl) | (apply P_nilck; iterate 3 rfl) | apply EL.nil
      | ((with_reducible apply EK.then_normal); apply EK.code) | (apply EC.cond_true; rfl) | (apply EC.cond_false; rfl)
      | (with_reducible first | apply EC.seq | apply EC.region | apply EC.skip | apply EC.block | apply EK.in_normal))
    refine EK.again ⟨k + 1, hlt, hal1 rfl⟩ (by dsimp only; omega) ?_
    dsimp only
    rw [hcn, hks]
    simp only [Int.natCast_add]
    exact (Le.keep (by repeat first | exact trivial | refine ⟨rfl, ?_⟩) (by repeat first | exact List.nil_sublist _ | apply List.Sublist.cons_cons | apply List.Sublist.cons) (by simp))
 ·
  have hke : k = 16 := by omega
  subst hke
  have hcl : cntF N (xs.take 16) ≤ 16 := Nat.le_trans (List.length_filter_le _ _) (by rw [List.length_take]; omega)
  unfold brF
  rw [if_pos hall, hgd 16 (by omega)]
  unfold nodeD
  dsimp only
  rw [dN, ← kidsB_all]
  have hkN := kidsB_N N xs 16
  generalize cntF N (xs.take 16) = n at *
  generalize kidsB N xs 16 = K at *
  generalize xs[16]'(by omega) = y at h16 ⊢
  obtain ⟨yl, yb, yx⟩ := y
  have hup := upd_valN (b := .v (.slice none 0 0)) yb hkN.1 hkN.2
  unfold dItem at h16
  rw [show isL (.mk yl yb yx) = yl from rfl, show bts (.mk yl yb yx) = yb from rfl]
  have hL : ∀ b : Bool, (n + (if b then 1 else 0) : Nat) = (if b then n + 1 else n) := fun b => by cases b <;> rfl
  by_cases h0 : 0 < yb.length
  ·
   rw [if_pos h0]
   have hc0 : cmpI .gtr (yb.length : Int) 0 = some true := by
    simp only [cmpI, Option.some.injEq, decide_eq_true_eq]
    omega
   cases yl with
   | true =>
    rw [Bool.not_true, Bool.false_and]
    repeat
     (first
      | (apply P_skip; iterate 2 rfl) | (apply P_index (d := .tup [.v (.bool true), .bs yb, .sl 3 (dItems yx)]); (iterate 4 rfl); exact ⟨by decide, h16⟩; iterate 2 rfl)
      | (apply P_cmp (b := true); (iterate 2 rfl); exact hc0; iterate 2 rfl)
      | (apply P_store; rfl; exact .s .z; rfl; rfl; exact hup; rfl; refine EL.le (Le.pin (p := 4) (pre := [_]) rfl rfl) ?_; simp only [List.cons_append, List.nil_append])
      | (apply P_move; iterate 3 rfl) | (apply P_assign; iterate 3 rfl) | (apply P_field; iterate 6 rfl) | (apply P_loadpd; iterate 5 rfl)
      | (apply P_pick; iterate 4 rfl) | (apply P_not; iterate 3 rfl)
      | (apply P_load; rfl; (first | exact I0 | exact I1 | exact I2 | exact I3 | exact I4 | exact I5 | exact I6); iterate 4 rfl)
      | (apply P_cmp (b := false); (iterate 2 rfl); (focus (first | (simp [cmpI]; done) | (simp [cmpI]; omega))); iterate 2 rfl)
      | (apply P_ar; (iterate 3 rfl); (focus omega); (focus omega); iterate 2 rfl) | (apply P_lenbs; iterate 4 rfl) | (apply P_nilck; iterate 3 rfl)
      | (apply P_mkifc; iterate 4 rfl) | (apply P_alloc; rfl; rfl; rfl; intro _)
      | (apply P_store; rfl; (focus (repeat first | exact .z | apply SetAt.s | apply SetAtF.s)); iterate 4 rfl) | apply EL.nil | ((with_reducible apply EK.then_normal); apply EK.code)
      | (apply EC.cond_true; rfl) | (apply EC.cond_false; rfl) | (with_reducible first | apply EC.seq | apply EC.region | apply EC.exit | apply EC.ret | apply EK.in_same | apply EK.then_exit))
    exact EK.retM2kS [] rfl rfl rfl (RL.cons Rf.same (RL.cons Rf.same RL.nil)) (List.nil_sublist _) ⟨rfl, rfl⟩
   | false =>
    rw [Bool.not_false, Bool.true_and]
    by_cases h1 : 1 < n + 1
    ·
     rw [decide_eq_true h1]
     repeat
      (first
       | (apply P_index (d := .tup [.v (.bool false), .bs yb, .sl 3 (dItems yx)]); (iterate 4 rfl); exact ⟨by decide, h16⟩; iterate 2 rfl)
       | (apply P_cmp (b := true); (iterate 2 rfl); exact hc0; iterate 2 rfl)
       | (apply P_store; rfl; exact .s .z; rfl; rfl; exact hup; rfl; refine EL.le (Le.pin (p := 4) (pre := [_]) rfl rfl) ?_; simp only [List.cons_append, List.nil_append])
       | (apply P_move; iterate 3 rfl) | (apply P_assign; iterate 3 rfl) | (apply P_field; iterate 6 rfl) | (apply P_loadpd; iterate 5 rfl)
       | (apply P_pick; iterate 4 rfl) | (apply P_not; iterate 3 rfl)
       | (apply P_load; rfl; (first | exact I0 | exact I1 | exact I2 | exact I3 | exact I4 | exact I5 | exact I6); iterate 4 rfl)
       | (apply P_cmp (b := true); (iterate 2 rfl); (focus (first | (simp [cmpI]; done) | (simp [cmpI]; omega))); iterate 2 rfl)
       | (apply P_cmp (b := false); (iterate 2 rfl); (focus (first | (simp [cmpI]; done) | (simp [cmpI]; omega))); iterate 2 rfl)
       | (apply P_ar; (iterate 3 rfl); (focus omega); (focus omega); iterate 2 rfl) | (apply P_lenbs; iterate 4 rfl) | (apply P_nilck; iterate 3 rfl)
       | (apply P_mkifc; iterate 4 rfl) | (apply P_alloc; rfl; rfl; rfl; intro _)
       | (apply P_store; rfl; (focus (repeat first | exact .z | apply SetAt.s | apply SetAtF.s)); iterate 4 rfl) | apply EL.nil | ((with_reducible apply EK.then_normal); apply EK.code)
       | (apply EC.cond_true; rfl) | (apply EC.cond_false; rfl) | (with_reducible first | apply EC.seq | apply EC.region | apply EC.exit | apply EC.ret | apply EK.in_same | apply EK.then_exit))
     exact EK.retM2kS [] rfl rfl rfl (RL.cons Rf.same (RL.cons Rf.same RL.nil)) (List.nil_sublist _) ⟨rfl, rfl⟩
    ·
     rw [decide_eq_false h1]
     repeat
      (first
       | (apply P_index (d := .tup [.v (.bool false), .bs yb, .sl 3 (dItems yx)]); (iterate 4 rfl); exact ⟨by decide, h16⟩; iterate 2 rfl)
       | (apply P_cmp (b := true); (iterate 2 rfl); exact hc0; iterate 2 rfl)
       | (apply P_store; rfl; exact .s .z; rfl; rfl; exact hup; rfl; refine EL.le (Le.pin (p := 4) (pre := [_]) rfl rfl) ?_; simp only [List.cons_append, List.nil_append])
       | (apply P_move; iterate 3 rfl) | (apply P_assign; iterate 3 rfl) | (apply P_field; iterate 6 rfl) | (apply P_loadpd; iterate 5 rfl)
       | (apply P_pick; iterate 4 rfl) | (apply P_not; iterate 3 rfl)
       | (apply P_load; rfl; (first | exact I0 | exact I1 | exact I2 | exact I3 | exact I4 | exact I5 | exact I6); iterate 4 rfl)
       | (apply P_cmp (b := false); (iterate 2 rfl); (focus (first | (simp [cmpI]; done) | (simp [cmpI]; omega))); iterate 2 rfl)
       | (apply P_ar; (iterate 3 rfl); (focus omega); (focus omega); iterate 2 rfl) | (apply P_lenbs; iterate 4 rfl) | (apply P_nilck; iterate 3 rfl)
       | (apply P_mkifc; iterate 4 rfl) | (apply P_alloc; rfl; rfl; rfl; intro _)
       | (apply P_store; rfl; (focus (repeat first | exact .z | apply SetAt.s | apply SetAtF.s)); iterate 4 rfl) | apply EL.nil | ((with_reducible apply EK.then_normal); apply EK.code)
       | (apply EC.cond_true; rfl) | (apply EC.cond_false; rfl) | (with_reducible first | apply EC.seq | apply EC.region | apply EC.exit | apply EC.ret | apply EK.in_same | apply EK.then_exit))
     exact EK.retM2kS [] rfl rfl rfl (RL.cons Rf.same (RL.cons Rf.same RL.nil)) (List.nil_sublist _) ⟨rfl, rfl⟩
  ·
   rw [if_neg h0, Nat.add_zero]
   have hc0 : cmpI .gtr (yb.length : Int) 0 = some false := by
    simp only [cmpI, Option.some.injEq, decide_eq_false_iff_not]
    omega
   cases yl with
   | true =>
    rw [Bool.not_true, Bool.false_and]
    repeat
     (first
      | (apply P_skip; iterate 2 rfl) | (apply P_index (d := .tup [.v (.bool true), .bs yb, .sl 3 (dItems yx)]); (iterate 4 rfl); exact ⟨by decide, h16⟩; iterate 2 rfl)
      | (apply P_cmp (b := false); (iterate 2 rfl); exact hc0; iterate 2 rfl)
      | (apply P_store; rfl; exact .s .z; rfl; rfl; exact hup; rfl; refine EL.le (Le.pin (p := 4) (pre := [_]) rfl rfl) ?_; simp only [List.cons_append, List.nil_append])
      | (apply P_move; iterate 3 rfl) | (apply P_assign; iterate 3 rfl) | (apply P_field; iterate 6 rfl) | (apply P_loadpd; iterate 5 rfl)
      | (apply P_pick; iterate 4 rfl) | (apply P_not; iterate 3 rfl)
      | (apply P_load; rfl; (first | exact I0 | exact I1 | exact I2 | exact I3 | exact I4 | exact I5 | exact I6); iterate 4 rfl)
      | (apply P_cmp (b := false); (iterate 2 rfl); (focus (first | (simp [cmpI]; done) | (simp [cmpI]; omega))); iterate 2 rfl) | (apply P_lenbs; iterate 4 rfl)
      | (apply P_nilck; iterate 3 rfl) | (apply P_mkifc; iterate 4 rfl) | (apply P_alloc; rfl; rfl; rfl; intro _)
      | (apply P_store; rfl; (focus (repeat first | exact .z | apply SetAt.s | apply SetAtF.s)); iterate 4 rfl) | apply EL.nil | ((with_reducible apply EK.then_normal); apply EK.code)
      | (apply EC.cond_false; rfl) | (with_reducible first | apply EC.seq | apply EC.region | apply EC.skip | apply EC.exit | apply EC.ret | apply EK.in_same | apply EK.then_exit))
    exact EK.retM2kS [] rfl rfl rfl (RL.cons Rf.same (RL.cons Rf.same RL.nil)) (List.nil_sublist _) ⟨rfl, rfl⟩
   | false =>
    rw [Bool.not_false, Bool.true_and]
    by_cases h1 : 1 < n
    ·
     rw [decide_eq_true h1]
     repeat
      (first
       | (apply P_index (d := .tup [.v (.bool false), .bs yb, .sl 3 (dItems yx)]); (iterate 4 rfl); exact ⟨by decide, h16⟩; iterate 2 rfl)
       | (apply P_cmp (b := false); (iterate 2 rfl); exact hc0; iterate 2 rfl)
       | (apply P_store; rfl; exact .s .z; rfl; rfl; exact hup; rfl; refine EL.le (Le.pin (p := 4) (pre := [_]) rfl rfl) ?_; simp only [List.cons_append, List.nil_append])
       | (apply P_move; iterate 3 rfl) | (apply P_assign; iterate 3 rfl) | (apply P_field; iterate 6 rfl) | (apply P_loadpd; iterate 5 rfl)
       | (apply P_pick; iterate 4 rfl) | (apply P_not; iterate 3 rfl)
       | (apply P_load; rfl; (first | exact I0 | exact I1 | exact I2 | exact I3 | exact I4 | exact I5 | exact I6); iterate 4 rfl)
       | (apply P_cmp (b := true); (iterate 2 rfl); (focus (first | (simp [cmpI]; done) | (simp [cmpI]; omega))); iterate 2 rfl)
       | (apply P_cmp (b := false); (iterate 2 rfl); (focus (first | (simp [cmpI]; done) | (simp [cmpI]; omega))); iterate 2 rfl) | (apply P_lenbs; iterate 4 rfl)
       | (apply P_nilck; iterate 3 rfl) | (apply P_mkifc; iterate 4 rfl) | (apply P_alloc; rfl; rfl; rfl; intro _)
       | (apply P_store; rfl; (focus (repeat first | exact .z | apply SetAt.s | apply SetAtF.s)); iterate 4 rfl) | apply EL.nil | ((with_reducible apply EK.then_normal); apply EK.code)
       | (apply EC.cond_false; rfl) | (with_reducible first | apply EC.seq | apply EC.region | apply EC.skip | apply EC.exit | apply EC.ret | apply EK.in_same | apply EK.then_exit))
     exact EK.retM2kS [] rfl rfl rfl (RL.cons Rf.same (RL.cons Rf.same RL.nil)) (List.nil_sublist _) ⟨rfl, rfl⟩
    ·
     rw [decide_eq_false h1]
     repeat
      (first
       | (apply P_index (d := .tup [.v (.bool false), .bs yb, .sl 3 (dItems yx)]); (iterate 4 rfl); exact ⟨by decide, h16⟩; iterate 2 rfl)
       | (apply P_cmp (b := false); (iterate 2 rfl); exact hc0; iterate 2 rfl)
       | (apply P_store; rfl; exact .s .z; rfl; rfl; exact hup; rfl; refine EL.le (Le.pin (p := 4) (pre := [_]) rfl rfl) ?_; simp only [List.cons_append, List.nil_append])
       | (apply P_move; iterate 3 rfl) | (apply P_assign; iterate 3 rfl) | (apply P_field; iterate 6 rfl) | (apply P_loadpd; iterate 5 rfl)
       | (apply P_pick; iterate 4 rfl) | (apply P_not; iterate 3 rfl)
       | (apply P_load; rfl; (first | exact I0 | exact I1 | exact I2 | exact I3 | exact I4 | exact I5 | exact I6); iterate 4 rfl)
       | (apply P_cmp (b := false); (iterate 2 rfl); (focus (first | (simp [cmpI]; done) | (simp [cmpI]; omega))); iterate 2 rfl) | (apply P_lenbs; iterate 4 rfl)
       | (apply P_nilck; iterate 3 rfl) | (apply P_mkifc; iterate 4 rfl) | (apply P_alloc; rfl; rfl; rfl; intro _)
       | (apply P_store; rfl; (focus (repeat first | exact .z | apply SetAt.s | apply SetAtF.s)); iterate 4 rfl) | apply EL.nil | ((with_reducible apply EK.then_normal); apply EK.code)
       | (apply EC.cond_false; rfl) | (with_reducible first | apply EC.seq | apply EC.region | apply EC.skip | apply EC.exit | apply EC.ret | apply EK.in_same | apply EK.then_exit))
     exact EK.retM2kS [] rfl rfl rfl (RL.cons Rf.same (RL.cons Rf.same RL.nil)) (List.nil_sublist _) ⟨rfl, rfl⟩
set_option maxRecDepth 20000 in
set_option maxHeartbeats 8000000 in
theorem f_sNode : ∀ (f : Nat) (x : Raw), dep x < f → Gd x → Fn 29 [dItem x] (· = nodeD (nodeF f x)) := by
 intro f
 induction f with
 | zero => exact fun x h _ => absurd h (Nat.not_lt_zero _)
 | succ f IH =>
 rintro ⟨l, b, xs⟩ h hE
 cases l with
 | false =>
  rw [nodeF, dItem]
  refine FnM.toFn ?_
  refine FnM.walk 34 Try.func29 rfl Try.ntmps29 (by simp) fun X => ?_
  repeat
   (first
    | (apply P_assign; iterate 3 rfl) | (apply P_field; iterate 6 rfl) | (apply P_not; iterate 3 rfl)
    | (apply P_load; rfl; (first | exact I0 | exact I1 | exact I2 | exact I3 | exact I4 | exact I5 | exact I6); iterate 4 rfl) | (apply P_box; rfl; rfl; rfl; intro _)
    | apply EL.nil | ((with_reducible apply EK.then_normal); apply EK.code) | (apply EC.cond_true; rfl)
    | (with_reducible first | apply EC.seq | apply EC.region | apply EC.skip | apply EC.block | apply EC.ret | apply EK.in_normal))
  exact EK.retM2kS [] rfl rfl rfl (RL.cons Rf.same (RL.cons Rf.same RL.nil)) (List.nil_sublist _) ⟨rfl, rfl⟩
 | true =>
  have ih : ∀ y ∈ xs, isL y = true → Fn 29 [dItem y] (· = nodeD (nodeF f y)) := fun y hy _ => IH y (by have := dep_mem hy; rw [dep] at h; omega) (hE.kid hy)
  rw [nodeF]
  have hml : (dItems xs).length = xs.length := by rw [dItems_map, List.length_map]
  by_cases h2 : xs.length = 2
  ·
   rw [if_pos h2]
   match xs, h2 with
   | [x, y], _ =>
    have hgx := hE.kid (y := x) List.mem_cons_self
    have hx0 : (bts x).length ≤ 536870912 := by
     obtain ⟨xl, xb, xx⟩ := x
     show xb.length ≤ _
     cases xl with
     | false =>
      have h1 := hgx.len
      rw [Rlp.E] at h1
      have := EB_ge xb
      simp only [most] at h1
      omega
     | true =>
      have h1 := hgx.nrm
      rw [norm] at h1
      injection h1 with _ h1 _
      rw [← h1]
      exact Nat.zero_le _
    have hP := f_sPair x y (nodeF f) hx0 (ih y (List.mem_cons_of_mem _ List.mem_cons_self))
    rw [show [x, y].getD 0 rawE = x from rfl, show [x, y].getD 1 rawE = y from rfl]
    unfold nodeD at hP ⊢
    generalize pairF (nodeF f) x y = r at hP ⊢
    rw [dItem, dItems, dItems, dItems]
    refine FnM.toFn ?_
    refine FnM.walk 34 Try.func29 rfl Try.ntmps29 (by simp) fun X => ?_
    obtain ⟨xl, xb, xx⟩ := x
    obtain ⟨yl, yb, yx⟩ := y
    rw [dItem, dItem] at hP ⊢
    repeat
     (first
      | (apply P_assign; iterate 3 rfl) | (apply P_field; iterate 6 rfl) | (apply P_not; iterate 3 rfl)
      | (apply P_load; rfl; (first | exact I0 | exact I1 | exact I2 | exact I3 | exact I4 | exact I5 | exact I6); iterate 4 rfl)
      | (apply P_cmp (b := true); (iterate 2 rfl); (focus (first | (simp [cmpI]; done) | (simp [cmpI]; omega))); iterate 2 rfl) | (apply P_lensl; iterate 4 rfl)
      | (apply P_box; rfl; rfl; rfl; intro _) | apply EL.nil | ((with_reducible apply EK.then_normal); apply EK.code) | (apply EC.cond_true; rfl) | (apply EC.cond_false; rfl)
      | (with_reducible first | apply EC.seq | apply EC.region | apply EC.block))
    refine EC.draw 11 (by kernel_rfl) ?_
    simp only [List.take_succ_cons, List.take_zero, List.drop_succ_cons, List.drop_zero]
    repeat
     (first
      | (apply H_call (hP); rfl; exact RefineL.refl _ _; (focus (intro _ _; simp [go_sem]; done)); iterate 2 rfl) | (apply H_field; iterate 6 rfl)
      | (apply H_extract; iterate 4 rfl) | (apply H_loadpd; iterate 5 rfl)
      | (apply H_load; rfl; (first | exact I0 | exact I1 | exact I2 | exact I3 | exact I4 | exact I5 | exact I6); iterate 4 rfl)
      | (apply H_index; (iterate 4 rfl); (focus (first | exact ⟨by decide, rfl⟩ | (refine ⟨by omega, ?_⟩; rw [Int.toNat_natCast]; assumption))); iterate 2 rfl)
      | ((with_reducible apply EH.nil); rfl))
    repeat
     (first
      | (apply P_assign; iterate 3 rfl) | apply EL.nil | ((with_reducible apply EK.then_normal); apply EK.code) | (with_reducible first | apply EC.ret | apply EK.in_ret | apply EK.then_ret))
    exact EK.retM2kS [] rfl rfl rfl (RL.cons Rf.same (RL.cons Rf.same RL.nil)) (List.nil_sublist _) ⟨rfl, rfl⟩
  ·
   rw [if_neg h2]
   have hc2 : cmpI .eql ((dItems xs).length : Int) 2 = some false := by
    simp only [cmpI, Option.some.injEq, beq_eq_false_iff_ne]
    omega
   by_cases h17 : xs.length = 17
   ·
    rw [if_pos h17]
    have hB := f_sBranch xs (nodeF f) h17 ih
    unfold nodeD at hB ⊢
    generalize brF (nodeF f) xs = r at hB ⊢
    rw [dItem]
    refine FnM.toFn ?_
    refine FnM.walk 34 Try.func29 rfl Try.ntmps29 (by simp) fun X => ?_
    repeat
     (first
      | (apply P_call (hB); rfl; exact RefineL.refl _ _; (focus (intro _ _; simp [go_sem]; done)); iterate 2 rfl)
      | (apply P_cmp (b := false); (iterate 2 rfl); exact hc2; iterate 2 rfl) | (apply P_assign; iterate 3 rfl) | (apply P_field; iterate 6 rfl)
      | (apply P_extract; iterate 4 rfl) | (apply P_not; iterate 3 rfl)
      | (apply P_load; rfl; (first | exact I0 | exact I1 | exact I2 | exact I3 | exact I4 | exact I5 | exact I6); iterate 4 rfl)
      | (apply P_cmp (b := true); (iterate 2 rfl); (focus (first | (simp [cmpI]; done) | (simp [cmpI]; omega))); iterate 2 rfl) | (apply P_lensl; iterate 4 rfl)
      | (apply P_box; rfl; rfl; rfl; intro _) | apply EL.nil | ((with_reducible apply EK.then_normal); apply EK.code) | (apply EC.cond_true; rfl) | (apply EC.cond_false; rfl)
      | (with_reducible first | apply EC.seq | apply EC.region | apply EC.block | apply EC.ret | apply EK.in_ret | apply EK.then_ret))
    exact EK.retM2kS [] rfl rfl rfl (RL.cons Rf.same (RL.cons Rf.same RL.nil)) (List.nil_sublist _) ⟨rfl, rfl⟩
   ·
    rw [if_neg h17]
    have hc17 : cmpI .eql ((dItems xs).length : Int) 17 = some false := by
     simp only [cmpI, Option.some.injEq, beq_eq_false_iff_ne]
     omega
    rw [dItem]
    refine FnM.toFn ?_
    refine FnM.walk 34 Try.func29 rfl Try.ntmps29 (by simp) fun X => ?_
    repeat
     (first
      | (apply P_cmp (b := false); (iterate 2 rfl); (first | exact hc2 | exact hc17); iterate 2 rfl) | (apply P_assign; iterate 3 rfl) | (apply P_field; iterate 6 rfl)
      | (apply P_not; iterate 3 rfl) | (apply P_load; rfl; (first | exact I0 | exact I1 | exact I2 | exact I3 | exact I4 | exact I5 | exact I6); iterate 4 rfl)
      | (apply P_lensl; iterate 4 rfl) | (apply P_box; rfl; rfl; rfl; intro _) | apply EL.nil | ((with_reducible apply EK.then_normal); apply EK.code)
      | (apply EC.cond_false; rfl) | (with_reducible first | apply EC.seq | apply EC.region | apply EC.skip | apply EC.block | apply EC.ret | apply EK.in_normal))
    exact EK.retM2kS [] rfl rfl rfl (RL.cons Rf.same (RL.cons Rf.same RL.nil)) (List.nil_sublist _) ⟨rfl, rfl⟩
theorem rdX_gdA (b : List UInt8) : Gd (rdX b) := by
 unfold rdX
 cases hr : readR b with
 | ok x => exact readR_gd hr
 | error e => exact gd_rawE
def rdNd (b : List UInt8) : Nd × Bool := if rdE b = 0 ∧ isN 40 (rdX b) = true then nodeF 40 (rdX b) else (.nil, false)
set_option maxRecDepth 20000 in
set_option maxHeartbeats 8000000 in
theorem f_sRead (b : List UInt8) : Fn 13 [.bs b] (· = nodeD (rdNd b)) := by
 have h1 := f_Read b
 have hg := rdX_gdA b
 have h2 := f_sNode 40 (rdX b) (by have := hg.dep; omega) hg
 have h3 := nodeF_isN 40 (rdX b) hg
 unfold rdNd
 unfold readD at h1
 unfold nodeD at h2 ⊢
 generalize nodeF 40 (rdX b) = r at h2 h3 ⊢
 generalize isN 40 (rdX b) = q at h3 ⊢
 generalize rdX b = x at h1 h2
 generalize rdE b = e at h1 ⊢
 obtain ⟨xl, xb, xx⟩ := x
 rw [dItem] at h1 h2
 obtain ⟨n, ok⟩ := r
 obtain rfl : ok = q := h3
 refine FnM.toFn ?_
 refine FnM.walk 23 Try.func13 rfl Try.ntmps13 (by simp) fun X => ?_
 by_cases he : e = 0
 ·
  subst he
  cases ok with
  | true =>
   rw [if_pos ⟨rfl, rfl⟩]
   dsimp only at h2 ⊢
   repeat
    (first
     | (apply P_call (h1); rfl; exact RefineL.refl _ _; (focus (intro _ _; simp [go_sem]; done)); iterate 2 rfl)
     | (apply P_call (h2); rfl; exact RefineL.refl _ _; (focus (intro _ _; simp [go_sem]; done)); iterate 2 rfl) | (apply P_move; iterate 3 rfl)
     | (apply P_assign; iterate 3 rfl) | (apply P_extract; iterate 4 rfl) | (apply P_not; iterate 3 rfl)
     | (apply P_load; rfl; (first | exact I0 | exact I1 | exact I2 | exact I3 | exact I4 | exact I5 | exact I6); iterate 4 rfl)
     | (apply P_cmp (b := false); (iterate 2 rfl); (focus (first | (simp [cmpI]; done) | (simp [cmpI]; omega))); iterate 2 rfl) | (apply P_alloc; rfl; rfl; rfl; intro _)
     | (apply P_store; rfl; (focus (repeat first | exact .z | apply SetAt.s | apply SetAtF.s)); iterate 4 rfl) | apply EL.nil | ((with_reducible apply EK.then_normal); apply EK.code)
     | (apply EC.cond_false; rfl) | (with_reducible first | apply EC.seq | apply EC.region | apply EC.skip | apply EC.ret))
   exact EK.retM2kS [] rfl rfl rfl (RL.cons Rf.same (RL.cons Rf.same RL.nil)) (List.nil_sublist _) ⟨rfl, rfl⟩
  | false =>
   rw [if_neg fun h => Bool.false_ne_true h.2]
   dsimp only at h2 ⊢
   repeat
    (first
     | (apply P_call (h1); rfl; exact RefineL.refl _ _; (focus (intro _ _; simp [go_sem]; done)); iterate 2 rfl)
     | (apply P_call (h2); rfl; exact RefineL.refl _ _; (focus (intro _ _; simp [go_sem]; done)); iterate 2 rfl) | (apply P_move; iterate 3 rfl)
     | (apply P_assign; iterate 3 rfl) | (apply P_extract; iterate 4 rfl) | (apply P_not; iterate 3 rfl)
     | (apply P_load; rfl; (first | exact I0 | exact I1 | exact I2 | exact I3 | exact I4 | exact I5 | exact I6); iterate 4 rfl)
     | (apply P_cmp (b := false); (iterate 2 rfl); (focus (first | (simp [cmpI]; done) | (simp [cmpI]; omega))); iterate 2 rfl) | (apply P_alloc; rfl; rfl; rfl; intro _)
     | (apply P_store; rfl; (focus (repeat first | exact .z | apply SetAt.s | apply SetAtF.s)); iterate 4 rfl) | apply EL.nil | ((with_reducible apply EK.then_normal); apply EK.code)
     | (apply EC.cond_true; rfl) | (apply EC.cond_false; rfl) | (with_reducible first | apply EC.seq | apply EC.region | apply EC.skip | apply EC.ret | apply EK.then_ret))
   exact EK.retM2kS [] rfl rfl rfl (RL.cons Rf.same (RL.cons Rf.same RL.nil)) (List.nil_sublist _) ⟨rfl, rfl⟩
 ·
  rw [if_neg fun h => he h.1]
  have hc : cmpI .neq (e : Int) 0 = some true := by
   have : (e : Int) ≠ 0 := by omega
   simp only [cmpI, Option.some.injEq, bne_iff_ne]
   exact this
  repeat
   (first
    | (apply P_call (h1); rfl; exact RefineL.refl _ _; (focus (intro _ _; simp [go_sem]; done)); iterate 2 rfl)
    | (apply P_cmp (b := true); (iterate 2 rfl); exact hc; iterate 2 rfl) | (apply P_move; iterate 3 rfl) | (apply P_assign; iterate 3 rfl)
    | (apply P_extract; iterate 4 rfl) | (apply P_alloc; rfl; rfl; rfl; intro _)
    | (apply P_store; rfl; (focus (repeat first | exact .z | apply SetAt.s | apply SetAtF.s)); iterate 4 rfl) | apply EL.nil | ((with_reducible apply EK.then_normal); apply EK.code)
    | (apply EC.cond_true; rfl) | (with_reducible first | apply EC.seq | apply EC.region | apply EC.ret | apply EK.then_ret))
  exact EK.retM2kS [] rfl rfl rfl (RL.cons Rf.same (RL.cons Rf.same RL.nil)) (List.nil_sublist _) ⟨rfl, rfl⟩
end E
end Go.Proofs.Ytiledgojbpmoiaa
/-
 What a proof proves (plain).
 Conditions: none.
-/
namespace Go.Proofs.Ytiledgojbpmoiaa
set_option linter.unusedVariables false
open Go.RowKit Mono Rlp
namespace E
def stepN : Nd → List UInt8 → Nd × List UInt8 × List UInt8
 | .leaf q v, p => if q = p then (.nil, [], v) else (.nil, [], [])
 | .ext q k, p => if q = p.take q.length then (k, p.drop q.length, []) else (.nil, [], [])
 | .br _ v, [] => (.nil, [], v)
 | .br ks _, c :: r => (ks c.toNat, r, [])
 | _, _ => (.nil, [], [])
theorem stepN_leaf (q v p : List UInt8) : stepN (.leaf q v) p = if q = p then (.nil, [], v) else (.nil, [], []) := by cases p <;> rfl
theorem stepN_ext (q : List UInt8) (k : Nd) (p : List UInt8) : stepN (.ext q k) p = if q = p.take q.length then (k, p.drop q.length, []) else (.nil, [], []) := by cases p <;> rfl
theorem stepN_br (ks : Nat → Nd) (v : List UInt8) (c : UInt8) (r : List UInt8) : stepN (.br ks v) (c :: r) = (ks c.toNat, r, []) := rfl
def dwn (x : Raw) (p : List UInt8) : Raw × List UInt8 × List UInt8 × Bool :=
 if (its x).length = 17 then
  match p with
  | [] => (rawE, [], bts ((its x).getD 16 rawE), false)
  | c :: r => if !isL ((its x).getD c.toNat rawE) && decide ((bts ((its x).getD c.toNat rawE)).length = 0) then (rawE, [], [], false) else ((its x).getD c.toNat rawE, r, [], true)
 else match rdP (bts ((its x).getD 0 rawE)) with
  | some (q, true) => if p = q then (rawE, [], bts ((its x).getD 1 rawE), false) else (rawE, [], [], false)
  | some (q, false) => if common p q < q.length then (rawE, [], [], false) else ((its x).getD 1 rawE, p.drop q.length, [], true)
  | none => if common p [] < ([] : List UInt8).length then (rawE, [], [], false) else ((its x).getD 1 rawE, p.drop 0, [], true)
theorem common_geP : ∀ (n : Nat) (a b : List UInt8), a.take n = b.take n → n ≤ a.length → n ≤ b.length → n ≤ common a b
 | 0, _, _, _, _, _ => Nat.zero_le _
 | n + 1, [], b, _, h, _ => by simp at h
 | n + 1, _ :: _, [], _, _, h => by simp at h
 | n + 1, x :: a, y :: b, e, h1, h2 => by
  simp only [List.take_succ_cons, List.cons.injEq] at e
  rw [common, if_pos e.1]
  have := common_geP n a b e.2 (by simpa using h1) (by simpa using h2)
  omega
theorem common_pre (p q : List UInt8) : q = p.take q.length ↔ ¬ common p q < q.length := by
 obtain ⟨h1, h2, h3⟩ := common_take p q
 constructor
 ·
  intro e
  have hl : q.length ≤ p.length := by
   have := congrArg List.length e
   rw [List.length_take] at this
   omega
  have := common_geP q.length p q (by rw [List.take_length]; exact e.symm) hl (Nat.le_refl _)
  omega
 ·
  intro h
  have : common p q = q.length := by omega
  rw [this, List.take_length] at h1
  exact h1.symm
def GoodR (f : Nat) (x : Raw) : Prop := Gd x ∧ ((isL x = true ∧ isN f x = true ∧ (Rlp.E x).length < 32) ∨ (isL x = false ∧ (bts x).length = 32))
theorem good_of {f : Nat} {x : Raw} {b : Bool} (hx : Gd x) (h : rfB (isN f) b x = true) (hne : (!isL x && decide ((bts x).length = 0)) = false) : GoodR f x := by
 refine ⟨hx, ?_⟩
 obtain ⟨l, c, xs⟩ := x
 cases l with
 | true =>
  rw [rfB_list, hx.pkB] at h
  obtain ⟨h1, h2⟩ := Bool.and_eq_true_iff.1 h
  exact .inl ⟨rfl, h2, of_decide_eq_true h1⟩
 | false =>
  refine .inr ⟨rfl, ?_⟩
  rw [rfB_bytes] at h
  show c.length = 32
  have h0 : c.length ≠ 0 := by simpa [isL, bts] using hne
  rcases Bool.or_eq_true_iff.1 h with h | h
  · exact of_decide_eq_true h
  · exact absurd (of_decide_eq_true (Bool.and_eq_true_iff.1 h).2) h0
theorem rdP_cases (b : List UInt8) : rdP b = none ∨ (∃ q, rdP b = some (q, true)) ∨ ∃ q, rdP b = some (q, false) := by
 cases h : rdP b with
 | none => exact .inl rfl
 | some x =>
  obtain ⟨q, l⟩ := x
  cases l with
  | true => exact .inr (.inl ⟨q, rfl⟩)
  | false => exact .inr (.inr ⟨q, rfl⟩)
theorem step_dwn {f : Nat} {x : Raw} (hx : Gd x) (hn : isN f x = true) (p : List UInt8) (hp : ∀ c ∈ p, c.toNat < 16) :
  (∃ r v, (dwn x p).2.2.2 = false ∧ (dwn x p).2.2.1 = v ∧ stepN (nodeF f x).1 p = (.nil, r, v)) ∨
  (∃ g k r, (dwn x p) = (k, r, [], true) ∧ stepN (nodeF f x).1 p = ((refF (nodeF g) k).1, r, []) ∧ GoodR g k ∧ r.length < p.length ∧ (∀ c ∈ r, c ∈ p)) := by
 have hok : (nodeF f x).2 = true := by rw [nodeF_isN f x hx, hn]
 match f, x with
 | 0, x => cases hn
 | _ + 1, .mk false _ _ => cases hn
 | f + 1, .mk true b xs =>
  rw [isN] at hn
  rw [nodeF] at hok ⊢
  unfold dwn
  rw [show its (.mk true b xs) = xs from rfl]
  by_cases h17 : xs.length = 17
  ·
   have h2 : ¬ xs.length = 2 := by omega
   rw [if_pos h17] at hn
   rw [if_neg h2, if_pos h17] at hok ⊢
   rw [if_pos h17]
   unfold brF at hok ⊢
   cases hall : (xs.take 16).all (fun x => (refF (nodeF f) x).2) with
   | false =>
    rw [hall] at hok
    cases hok
   | true =>
    rw [if_pos rfl]
    cases p with
    | nil => exact .inl ⟨[], _, rfl, rfl, rfl⟩
    | cons c r =>
     have hc := hp c List.mem_cons_self
     have hcx : c.toNat < xs.length := by omega
     have hmem : xs.getD c.toNat rawE ∈ xs := by
      rw [List.getD_eq_getElem?_getD, List.getElem?_eq_getElem hcx]
      exact List.getElem_mem hcx
     have hmt : xs.getD c.toNat rawE ∈ xs.take 16 := by
      rw [List.getD_eq_getElem?_getD, List.getElem?_eq_getElem hcx]
      exact List.mem_iff_getElem.2 ⟨c.toNat, by rw [List.length_take]; omega, by rw [List.getElem_take]; rfl⟩
     unfold brB at hn
     have hrf : rfB (isN f) true (xs.getD c.toNat rawE) = true := List.all_eq_true.1 (Bool.and_eq_true_iff.1 (Bool.and_eq_true_iff.1 hn).1).1 _ hmt
     have hg := hx.kid hmem
     rw [stepN_br]
     dsimp only
     generalize xs.getD c.toNat rawE = y at hrf hg ⊢
     cases hz : (!isL y && decide ((bts y).length = 0)) with
     | true =>
      rw [if_pos rfl]
      refine .inl ⟨r, [], rfl, rfl, ?_⟩
      obtain ⟨z1, z2⟩ := Bool.and_eq_true_iff.1 hz
      show ((refF (nodeF f) y).1, r, ([] : List UInt8)) = _
      unfold refF
      rw [if_neg (by simpa using z1), if_pos (of_decide_eq_true z2)]
     | false =>
      rw [if_neg Bool.false_ne_true]
      exact .inr ⟨f, y, r, rfl, rfl, good_of hg hrf hz, by simp, fun d hd => List.mem_cons_of_mem _ hd⟩
  ·
   rw [if_neg h17] at hn
   rw [if_neg h17]
   by_cases h2 : xs.length = 2
   ·
    rw [if_pos h2] at hn hok ⊢
    match xs, h2 with
    | [a, y], _ =>
     have hg := hx.kid (y := y) (List.mem_cons_of_mem _ List.mem_cons_self)
     rw [show [a, y].getD 0 rawE = a from rfl, show [a, y].getD 1 rawE = y from rfl] at *
     unfold prB at hn
     unfold pairF at hok ⊢
     obtain ⟨ha, hn⟩ := Bool.and_eq_true_iff.1 hn
     have ha : isL a = false := by simpa using ha
     rcases rdP_cases (bts a) with hr | ⟨q, hr⟩ | ⟨q, hr⟩
     ·
      rw [hr] at hn
      cases hn
     ·
      rw [hr] at hn hok ⊢
      dsimp only at hn hok ⊢
      rw [ha, if_neg Bool.false_ne_true, if_pos rfl]
      by_cases hq : p = q
      ·
       rw [if_pos hq]
       refine .inl ⟨[], _, rfl, rfl, ?_⟩
       rw [stepN_leaf, if_pos hq.symm]
      ·
       rw [if_neg hq]
       refine .inl ⟨[], _, rfl, rfl, ?_⟩
       rw [stepN_leaf, if_neg fun e => hq e.symm]
     ·
      rw [hr] at hn hok ⊢
      dsimp only at hn hok ⊢
      rw [ha, if_neg Bool.false_ne_true, if_neg Bool.false_ne_true] at hok ⊢
      obtain ⟨hn1, hn2⟩ := Bool.and_eq_true_iff.1 hn
      obtain ⟨hn0, hn1⟩ := Bool.and_eq_true_iff.1 hn1
      have hq0 := of_decide_eq_true hn0
      cases hbh : (refF (nodeF f) y).1.isBH with
      | false =>
       rw [hbh, if_neg Bool.false_ne_true] at hok
       cases hok
      | true =>
       rw [if_pos rfl]
       have hne : (!isL y && decide ((bts y).length = 0)) = false := by
        cases hz : (!isL y && decide ((bts y).length = 0)) with
        | false => rfl
        | true =>
         obtain ⟨z1, z2⟩ := Bool.and_eq_true_iff.1 hz
         unfold refF at hbh
         rw [if_neg (by simpa using z1), if_pos (of_decide_eq_true z2)] at hbh
         cases hbh
       have hcp := common_pre p q
       by_cases hcm : common p q < q.length
       ·
        rw [if_pos hcm]
        refine .inl ⟨[], _, rfl, rfl, ?_⟩
        rw [stepN_ext, if_neg fun e => hcp.1 e hcm]
       ·
        rw [if_neg hcm]
        refine .inr ⟨f, y, p.drop q.length, rfl, ?_, good_of hg hn1 hne, ?_, fun d hd => List.mem_of_mem_drop hd⟩
        · rw [stepN_ext, if_pos (hcp.2 hcm)]
        ·
         have := (common_take p q).2.1
         rw [List.length_drop]
         omega
   ·
    rw [if_neg h2] at hn
    cases hn
def nxt (x : Raw) (l : List (List UInt8)) : Except Nat (Raw × List (List UInt8)) := if isL x then .ok (x, l) else match l with
 | [] => .error 5
 | q :: l' => if hash q = bts x then (if rdE q = 0 ∧ isN 40 (rdX q) = true then .ok (rdX q, l') else .error 4) else .error 5
def chk : Nat → Raw → List UInt8 → List (List UInt8) → List UInt8 × Nat
 | 0, _, _, _ => ([], 0)
 | f + 1, x, p, l => match nxt x l with
  | .error e => ([], e)
  | .ok (i, l') => if (dwn i p).2.2.2 then chk f (dwn i p).1 (dwn i p).2.1 l' else if l'.length = 0 then ((dwn i p).2.2.1, 0) else ([], 3)
def chkP (root key : List UInt8) (l : List (List UInt8)) : List UInt8 × Nat := if root = root0 then (if l.length = 0 then ([], 0) else ([], 3)) else chk 400 (.mk false root []) (split key) l
def chkN (g : Nat) (x : Raw) (p : List UInt8) (q : List (List UInt8)) : List UInt8 × Nat := if (dwn x p).2.2.2 then chk g (dwn x p).1 (dwn x p).2.1 q else if q.length = 0 then ((dwn x p).2.2.1, 0) else ([], 3)
theorem chk_succ (g : Nat) (x : Raw) (p : List UInt8) (l : List (List UInt8)) : chk (g + 1) x p l = match nxt x l with
  | .error e => ([], e)
  | .ok (i, l') => chkN g i p l' := rfl
theorem chk_list (g : Nat) {x : Raw} (h : isL x = true) (p : List UInt8) (l : List (List UInt8)) : chk (g + 1) x p l = chkN g x p l := by
 rw [chk_succ]
 unfold nxt
 rw [if_pos h]
theorem chk_hash0 (g : Nat) {x : Raw} (h : isL x = false) (p : List UInt8) : chk (g + 1) x p [] = ([], 5) := by
 rw [chk_succ]
 unfold nxt
 rw [h, if_neg Bool.false_ne_true]
theorem chk_hash1 (g : Nat) {x : Raw} (h : isL x = false) (p : List UInt8) (b : List UInt8) (l : List (List UInt8)) : chk (g + 1) x p (b :: l) = if hash b = bts x then (if rdE b = 0 ∧ isN 40 (rdX b) = true then chkN g (rdX b) p l else ([], 4)) else ([], 5) := by
 rw [chk_succ]
 unfold nxt
 rw [h, if_neg Bool.false_ne_true]
 dsimp only
 by_cases h1 : hash b = bts x
 ·
  rw [if_pos h1, if_pos h1]
  by_cases h2 : rdE b = 0 ∧ isN 40 (rdX b) = true
  · rw [if_pos h2, if_pos h2]
  · rw [if_neg h2, if_neg h2]
 · rw [if_neg h1, if_neg h1]
end E
end Go.Proofs.Ytiledgojbpmoiaa
/-
 bytes.Clone.
 Conditions: none.
-/
namespace Go.Proofs.Ytiledgojbpmoiaa
set_option linter.unusedVariables false
open Go.RowKit Mono Rlp
set_option maxHeartbeats 1000000 in
theorem clone0 (v : Value) (l : List UInt8) (w : World) (h : IsB w v l) (hl : l.length ≤ 140737488355328) : Calls Try.prog 15 #[v] w (Ret (fun v w' => OwnB w' w.heap.size v l) w) := by
 obtain ⟨A, c, rfl, hc1, hc2, hr⟩ := h
 cases A with
 | none =>
  have hl0 : l = [] := by
   by_cases hn : bvs l = []
   · simpa [bvs] using hn
   ·
    obtain ⟨b, o, e, _⟩ := hr hn
    cases e
  subst hl0
  clear hr
  have hq := Lib.run_eql_slice_nil w 24 5 none 0 c 0 0 Try.underlying24
  go_enter Try.func15, Try.ntmps15
  go_wp2
  refine bodyPost_ret (results_tmp rfl _ _ _) rfl ?_
  exact ⟨_, rfl, Gr.refl _, OwnB.nil _ _⟩
 | some a =>
  have HR := Lib.hid hr
  clear hr
  have hq := Lib.run_eql_slice_nil w 24 5 (some a) l.length c 0 0 Try.underlying24
  go_enter Try.func15, Try.ntmps15
  go_wp2_with (at_builtin; refine wpL_append (.tmp 5) (.tmp 6) 24 slT_bytes (base := w.heap.size) _ 0 [] _ l.length c w.heap.size (bvs l) rfl rfl rfl rfl (own_lit w #[] 5 1 0 w.heap.size w.heap.size rfl (Nat.le_refl _) (by simp [maxLen]) rfl) (HR.out.below ((Below.refl _ _).alloc (Nat.le_refl _) _)) (by simp [bvs]) (bvs_one _) (by simp only [maxLen]; omega) (by omega) (by simp) ?_; intro A2 c2 w2 hown2 hg2 _)
  refine bodyPost_ret (results_tmp rfl _ _ _) rfl ?_
  refine ⟨_, rfl, ((Below.refl _ _).alloc (Nat.le_refl _) _).grown hg2 (by simp) (fun j hj => by cases hj; exact Nat.le_refl _), ?_⟩
  rw [Nat.zero_add, List.nil_append] at hown2
  exact hown2
namespace E
theorem f_Clone (l : List UInt8) (hl : l.length ≤ 140737488355328) : Fn 15 [.bs l] (· = .val (.bs l)) := ⟨fun ok w xs hok hr => by
 obtain ⟨x, _, rfl, hx, rfl⟩ := hr
 refine (clone0 x l w (isB_of hok hx) hl).mono ?_
 rintro e w' ⟨v, rfl, hg, ho⟩
 exact ⟨hg, v, .val (.bs l), rfl, rfl, (readV_one rfl).2 (by rw [Reads]; exact ⟨v, rfl, IsBP.mono (ownB_P ho) (fun b hb => ⟨.inr hb.1, hb.2⟩) fun _ _ => rfl⟩)⟩⟩
end E
end Go.Proofs.Ytiledgojbpmoiaa
