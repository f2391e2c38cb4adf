/-
  Merged (wip/tools/merge.py): TP9, AN5, KecHash.
  Conditions: none.
-/
import Derived.Test.YtmlajcbabimkjaaZR19
import Derived.Test.YtmlajcbabimkjaaZR17
import Derived.Test.YtmlajcbabimkjaaZR12
/-
  trie.Tree, trie.Root.
  Conditions: none.
-/
namespace Go.Proofs.Ytmlajcbabimkjaa
set_option linter.unusedVariables false
open Go.RowKit Mono Rlp
namespace E
theorem nib_hiT (x : UInt8) : (x >>> 4).toNat = x.toNat / 16 := by rw [UInt8.toNat_shiftRight]; simp [Nat.shiftRight_eq_div_pow]
theorem nib_loT (x : UInt8) : (x &&& 15).toNat = x.toNat % 16 := by rw [UInt8.toNat_and]; exact Nat.and_two_pow_sub_one_eq_mod _ 4
theorem split_smallT (l : List UInt8) : ∀ x ∈ split l, x.toNat ≤ 15 := by
  intro x hx
  obtain ⟨y, _, hy⟩ := List.mem_flatMap.1 hx
  simp only [List.mem_cons, List.not_mem_nil, or_false] at hy
  rcases hy with rfl | rfl
  · rw [nib_hiT]; have := y.toNat_lt; omega
  · rw [nib_loT]; omega
theorem bd_ok : ∀ (f : Nat) (l : List Pr) (at_ : Nat), (∀ x ∈ l, x.1.length ≤ 536870912) → (bdF f l at_).ok := by
  intro f
  induction f with
  | zero => intro l at_ h; exact trivial
  | succ f ih =>
    intro l at_ h
    match l with
    | [] => exact trivial
    | [x] =>
      show (x.1.drop at_).length ≤ 536870912
      have := h x (by simp)
      rw [List.length_drop]
      omega
    | x :: y :: r =>
      have hx := h x (by simp)
      rw [bdF]
      split
      · refine ⟨?_, ih _ _ h⟩
        rw [List.length_take, List.length_drop]
        omega
      · split
        · exact fun i => ih _ _ fun z hz => h z (List.mem_cons_of_mem _ ((List.mem_filter.1 hz).1))
        · exact fun i => ih _ _ fun z hz => h z ((List.mem_filter.1 hz).1)
def errP (l : List Pr) : Nat := if 100000 < l.length ∨ l.any lg = true then 3 else if l.any (·.2.isEmpty) = true then 1 else if ((l.map sp).map (·.1)).Nodup then 0 else 1
def treeT (l : List Pr) : Tn := bdF 200 (srt (l.map sp)) 0
theorem pairsF_ok {l : List Pr} (h : errP l = 0) : pairsF l = .tpl [.sl 2 ((srt (l.map sp)).map dPr), .v (.int .i64 0)] ∧ l.any lg = false ∧ ((l.map sp).map (·.1)).Nodup := by
  unfold errP at h
  unfold pairsF
  split at h
  · cases h
  · rename_i h1
    rw [if_neg h1]
    split at h
    · cases h
    · rename_i h2
      rw [if_neg h2]
      split at h
      · rename_i h3
        rw [if_pos h3]
        exact ⟨rfl, by simpa using fun e => h1 (.inr e), h3⟩
      · cases h
theorem pairsF_err {l : List Pr} (h : errP l ≠ 0) : pairsF l = .tpl [.v (.slice none 0 0), .v (.int .i64 (errP l : Int))] := by
  unfold errP at h ⊢
  unfold pairsF
  split
  · rfl
  · rename_i h1
    rw [if_neg h1] at h
    split
    · rfl
    · rename_i h2
      rw [if_neg h2] at h
      split
      · rename_i h3
        rw [if_pos h3] at h
        exact absurd rfl h
      · rfl
theorem rise_srt {l : List Pr} (hn : ((l.map sp).map (·.1)).Nodup) : Rise 0 (srt (l.map sp)) := by
  refine ⟨?_, fun x _ => Nat.zero_le _, fun x _ y _ => rfl, fun x hx b hb => ?_⟩
  · have h1 := srt_sorted (l.map sp)
    have h2 : ((srt (l.map sp)).map (·.1)).Nodup := ((srt_perm (l.map sp)).map (·.1)).nodup_iff.2 hn
    unfold List.Nodup at h2
    rw [List.pairwise_map] at h2
    refine (h1.and h2).imp fun h => ?_
    exact Classical.byContradiction fun hn => h.2 (List.le_antisymm h.1 (List.not_lt.1 hn))
  · obtain ⟨y, _, rfl⟩ := List.mem_map.1 ((srt_perm (l.map sp)).mem_iff.1 hx)
    have := split_smallT y.1 b hb
    omega
set_option maxRecDepth 20000 in
set_option maxHeartbeats 4000000 in
theorem f_Tree (l : List Pr) : Fn 32 [.sl 2 (l.map dPr)] (· = .tpl [if errP l = 0 then dT (treeT l) else .v .nilIface, .v (.int .i64 (errP l : Int))]) := by
  have h1 := f_pairs l
  refine Fn.walk 16 Try.func32 rfl Try.ntmps32 (by simp) fun X => ?_
  by_cases he : errP l = 0
  · obtain ⟨e1, e2, e3⟩ := pairsF_ok he
    rw [e1] at h1
    rw [if_pos he, he]
    have hlen : ∀ x ∈ srt (l.map sp), x.1.length ≤ 128 := fun x hx => by
      obtain ⟨y, hy, rfl⟩ := List.mem_map.1 ((srt_perm (l.map sp)).mem_iff.1 hx)
      have := not_long e2 hy
      show (split y.1).length ≤ 128
      rw [split_length]
      omega
    have h2 := f_build 200 (srt (l.map sp)) 0 (rise_srt e3) (fun x hx => by have := hlen x hx; omega) (fun x hx => by have := hlen x hx; omega)
    repeat
      (first
       | (apply P_call (h1); exact rfl; (focus (repeat first | exact RefineL.refl _ _ | exact RL.nil | exact Rf.same | exact Rf.bs0 | exact Rf.sl0 | (apply Rf.fact; (focus (simp; done)); exact rfl) | apply Rf.tup | apply RL.cons)); (focus (intro _ _; simp [go_sem]; done)); (iterate 2 exact rfl))
       | (apply P_call (h2); exact rfl; (focus (repeat first | exact RefineL.refl _ _ | exact RL.nil | exact Rf.same | exact Rf.bs0 | exact Rf.sl0 | (apply Rf.fact; (focus (simp; done)); exact rfl) | apply Rf.tup | apply RL.cons)); (focus (intro _ _; simp [go_sem]; done)); (iterate 2 exact rfl))
       | (apply P_move; (iterate 3 exact rfl)) | (apply P_assign; (iterate 3 exact rfl)) | (apply P_extract; (iterate 4 exact rfl))
       | (apply P_cmp (b := false); (iterate 2 exact rfl); (focus (first | (simp [cmpI]; done) | (simp [cmpI]; omega))); (iterate 2 exact rfl)) | apply EL.nil
       | ((with_reducible apply EK.then_normal); apply EK.code) | (apply EC.cond_false; exact rfl)
       | (with_reducible first | apply EC.seq | apply EC.region | apply EC.skip | apply EC.label | apply EC.block | apply EC.exit | apply EC.ret | apply EK.in_normal | apply EK.in_same | apply EK.in_ret | apply EK.then_ret | apply EK.then_exit))
    exact EK.ret2 rfl rfl rfl rfl
  · rw [pairsF_err he] at h1
    rw [if_neg he]
    have hne : (errP l : Int) ≠ 0 := by omega
    repeat
      (first
       | (apply P_call (h1); exact rfl; (focus (repeat first | exact RefineL.refl _ _ | exact RL.nil | exact Rf.same | exact Rf.bs0 | exact Rf.sl0 | (apply Rf.fact; (focus (simp; done)); exact rfl) | apply Rf.tup | apply RL.cons)); (focus (intro _ _; simp [go_sem]; done)); (iterate 2 exact rfl))
       | (apply P_move; (iterate 3 exact rfl)) | (apply P_assign; (iterate 3 exact rfl)) | (apply P_extract; (iterate 4 exact rfl))
       | (apply P_cmp (b := true); (iterate 2 exact rfl); (focus (first | (simp [cmpI]; done) | (simp [cmpI]; omega))); (iterate 2 exact rfl)) | apply EL.nil
       | ((with_reducible apply EK.then_normal); apply EK.code) | (apply EC.cond_true; exact rfl)
       | (with_reducible first | apply EC.seq | apply EC.region | apply EC.skip | apply EC.label | apply EC.block | apply EC.exit | apply EC.ret | apply EK.in_normal | apply EK.in_same | apply EK.in_ret | apply EK.then_ret | apply EK.then_exit))
    exact EK.ret2 rfl rfl rfl rfl
theorem tree_ok {l : List Pr} (h : errP l = 0) : (treeT l).ok := bd_ok _ _ _ fun x hx => by
  obtain ⟨y, hy, rfl⟩ := List.mem_map.1 ((srt_perm (l.map sp)).mem_iff.1 hx)
  have := not_long (pairsF_ok h).2.1 hy
  show (split y.1).length ≤ _
  rw [split_length]
  omega
def rootP (l : List Pr) : List UInt8 := if errP l = 0 then sumT (treeT l) else zero32
set_option maxRecDepth 20000 in
set_option maxHeartbeats 4000000 in
theorem f_Root (l : List Pr) : Fn 12 [.sl 2 (l.map dPr)] (· = .tpl [.arr 32 (rootP l), .v (.int .i64 (errP l : Int))]) := by
  have h1 := f_Tree l
  unfold rootP
  refine Fn.walk 17 Try.func12 rfl Try.ntmps12 (by simp) fun X => ?_
  by_cases he : errP l = 0
  · have h2 := f_Sum (treeT l) (tree_ok he)
    rw [if_pos he, he] at h1 ⊢
    repeat
      (first
       | (apply P_call (h1); exact rfl; (focus (repeat first | exact RefineL.refl _ _ | exact RL.nil | exact Rf.same | exact Rf.bs0 | exact Rf.sl0 | (apply Rf.fact; (focus (simp; done)); exact rfl) | apply Rf.tup | apply RL.cons)); (focus (intro _ _; simp [go_sem]; done)); (iterate 2 exact rfl))
       | (apply P_call (h2); exact rfl; (focus (repeat first | exact RefineL.refl _ _ | exact RL.nil | exact Rf.same | exact Rf.bs0 | exact Rf.sl0 | (apply Rf.fact; (focus (simp; done)); exact rfl) | apply Rf.tup | apply RL.cons)); (focus (intro _ _; simp [go_sem]; done)); (iterate 2 exact rfl))
       | (apply P_move; (iterate 3 exact rfl)) | (apply P_assign; (iterate 3 exact rfl)) | (apply P_extract; (iterate 4 exact rfl))
       | (apply P_cmp (b := false); (iterate 2 exact rfl); (focus (first | (simp [cmpI]; done) | (simp [cmpI]; omega))); (iterate 2 exact rfl)) | (apply P_alloc; exact rfl; exact rfl; exact rfl; intro _)
       | (apply P_store; exact rfl; (focus (repeat first | exact .z | apply SetAt.s | apply SetAtF.s)); (iterate 4 exact rfl)) | apply EL.nil | ((with_reducible apply EK.then_normal); apply EK.code)
       | (apply EC.cond_false; exact rfl)
       | (with_reducible first | apply EC.seq | apply EC.region | apply EC.skip | apply EC.label | apply EC.block | apply EC.exit | apply EC.ret | apply EK.in_normal | apply EK.in_same | apply EK.in_ret | apply EK.then_ret | apply EK.then_exit))
    refine EK.retc2r 0 rfl rfl rfl rfl rfl ?_ rfl
    (repeat first | exact RefineL.refl _ _ | exact RL.nil | exact Rf.same | exact Rf.bs0 | exact Rf.sl0 | (apply Rf.fact; (focus (simp; done)); exact rfl) | apply Rf.tup | apply RL.cons)
  · rw [if_neg he] at h1 ⊢
    have hne : (errP l : Int) ≠ 0 := by omega
    repeat
      (first
       | (apply P_call (h1); exact rfl; (focus (repeat first | exact RefineL.refl _ _ | exact RL.nil | exact Rf.same | exact Rf.bs0 | exact Rf.sl0 | (apply Rf.fact; (focus (simp; done)); exact rfl) | apply Rf.tup | apply RL.cons)); (focus (intro _ _; simp [go_sem]; done)); (iterate 2 exact rfl))
       | (apply P_move; (iterate 3 exact rfl)) | (apply P_assign; (iterate 3 exact rfl)) | (apply P_extract; (iterate 4 exact rfl))
       | (apply P_cmp (b := true); (iterate 2 exact rfl); (focus (first | (simp [cmpI]; done) | (simp [cmpI]; omega))); (iterate 2 exact rfl)) | (apply P_build0; (iterate 5 exact rfl))
       | (apply P_alloc; exact rfl; exact rfl; exact rfl; intro _) | (apply P_store; exact rfl; (focus (repeat first | exact .z | apply SetAt.s | apply SetAtF.s)); (iterate 4 exact rfl)) | apply EL.nil
       | ((with_reducible apply EK.then_normal); apply EK.code) | (apply EC.cond_true; exact rfl)
       | (with_reducible first | apply EC.seq | apply EC.region | apply EC.skip | apply EC.label | apply EC.block | apply EC.exit | apply EC.ret | apply EK.in_normal | apply EK.in_same | apply EK.in_ret | apply EK.then_ret | apply EK.then_exit))
    refine EK.retc2r 0 rfl rfl rfl rfl rfl ?_ rfl
    (repeat first | exact RefineL.refl _ _ | exact RL.nil | exact Rf.same | exact Rf.bs0 | exact Rf.sl0 | (apply Rf.fact; (focus (simp; done)); exact rfl) | apply Rf.tup | apply RL.cons)
end E
end Go.Proofs.Ytmlajcbabimkjaa
/-
  trie.Nodes.
  Conditions: none.
-/
namespace Go.Proofs.Ytmlajcbabimkjaa
set_option linter.unusedVariables false
open Go.RowKit Mono Rlp
namespace E
theorem EK.retM2kN {N : Nat} {X : Cx N} {fn : Func} {Φ : R → List Obj → Prop} {S : St} {t u : Tmp} {d e d' e' : D} (os' : List Obj) (hres : fn.results = #[.tmp t, .tmp u]) (hl : look S.regs t = some (.val d)) (hk : look S.regs u = some (.val e)) (hR : RefineL S.facts [d, e] [d', e']) (ho : os'.Sublist S.objs) (hΦ : Φ (.tpl [d', e']) os') : EK X (bodyPost Try.prog fn (OutM X Φ) .ret) S := by
  refine EK.le (S' := ⟨S.regs, os', S.facts⟩) ?_ (EK.retM2r hres hl hk hR hΦ)
  exact fun a w h => ⟨h.mem.less ho (fun f hf => hf), fun t r ht => ReadR.mono (fun b hb => ok_less ho hb) (fun _ _ => rfl) (h.regs t r ht), h.size, h.defers⟩
theorem getE_someN : ∀ {es : List Ent} {k : List UInt8}, k ∈ es.map (·.2.1) → ∃ d, getE es k = some d
  | [], _, h => by cases h
  | e :: es, k, h => by
    rw [getE]
    cases he : e.2.1 == k with
    | true => exact ⟨_, if_pos rfl⟩
    | false =>
      rw [List.map_cons, List.mem_cons] at h
      obtain ⟨d, hd⟩ := getE_someN (h.resolve_left fun e' => by rw [e'] at he; simp at he)
      exact ⟨d, by rw [if_neg (by decide), hd]⟩
theorem setE_lenN : ∀ (es : List Ent) (l : List UInt8) (d : D), (setE es l d).length = es.length
  | [], _, _ => rfl
  | x :: es, l, d => by
    rw [setE]
    split
    · rfl
    · rw [List.length_cons, List.length_cons, setE_lenN es l d]
theorem putE_lenN (c : Nat) (es : List Ent) (l : List UInt8) (d : D) : (putE c es l d).length ≤ es.length + 1 := by
  unfold putE
  split
  · rw [setE_lenN]
    omega
  · simp
theorem packed_leN {x : Raw} {b : List UInt8} (h : packed x = some b) : b.length ≤ most := by
  rw [packed_ref] at h
  split at h
  · cases h
  · split at h
    · split at h
      · cases h
      · cases h
        omega
    · cases h
theorem pkB_le (x : Raw) : (pkB x).length ≤ most := by
  unfold pkB
  cases h : packed x with
  | none => exact Nat.zero_le _
  | some b => exact packed_leN h
def Tbl (s : Mp) : Prop := ∀ k d, getE s.2 k = some d → ∃ b, d = .bs b ∧ hash b = k ∧ b.length ≤ most
theorem Tbl.put {s : Mp} (h : Tbl s) (t : Tn) (r : Bool) : Tbl (ifput t r s) := by
  unfold ifput
  split
  · intro k d hk
    dsimp only at hk
    rw [getE_putE] at hk
    split at hk
    · rename_i e
      cases hk
      exact ⟨_, rfl, e, pkB_le _⟩
    · exact h k d hk
  · exact h
theorem Tbl.col : ∀ (t : Tn) (r : Bool) {s : Mp}, Tbl s → Tbl (colT t r s) := by
  intro t
  induction t with
  | nil => exact fun r s h => h.put .nil r
  | leaf p v => exact fun r s h => h.put (.leaf p v) r
  | ext p k ih => exact fun r s h => ih false (h.put (.ext p k) r)
  | br ks v ih =>
    intro r s h
    rw [colT]
    have : ∀ (l : List Nat) (s : Mp), Tbl s → Tbl (l.foldl (fun s i => if (ks i).isNil then s else colT (ks i) false s) s) := fun l => by
      induction l with
      | nil => exact fun s h => h
      | cons i l ihl =>
        intro s h
        rw [List.foldl_cons]
        refine ihl _ ?_
        split
        · exact h
        · exact ih i false h
    exact this _ _ (h.put (.br ks v) r)
def cntT : Tn → Nat
  | .nil => 0
  | .leaf _ _ => 1
  | .ext _ k => 1 + cntT k
  | .br ks _ => 1 + ((List.range 16).map fun i => cntT (ks i)).sum
theorem ifput_le (t : Tn) (r : Bool) (s : Mp) : (ifput t r s).2.length ≤ s.2.length + 1 := by
  unfold ifput
  split
  · exact putE_lenN _ _ _ _
  · omega
theorem col_le : ∀ (t : Tn) (s : Mp), (t.isNil = false → ∀ r, (colT t r s).2.length ≤ s.2.length + cntT t) := by
  intro t
  induction t with
  | nil => intro s h; cases h
  | leaf p v => exact fun s _ r => ifput_le _ r s
  | ext p k ih =>
    intro s _ r
    rw [colT, cntT]
    have h1 := ifput_le (.ext p k) r s
    cases hn : k.isNil with
    | false =>
      have h2 := ih (ifput (.ext p k) r s) hn false
      omega
    | true =>
      cases k with
      | nil =>
        rw [colT]
        have : ifput .nil false (ifput (.ext p .nil) r s) = ifput (.ext p .nil) r s := by
          rw [ifput, if_neg (by decide +kernel)]
        rw [this]
        omega
      | leaf _ _ => cases hn
      | ext _ _ => cases hn
      | br _ _ => cases hn
  | br ks v ih =>
    intro s _ r
    rw [colT, cntT]
    have h1 := ifput_le (.br ks v) r s
    have : ∀ (l : List Nat) (s : Mp), (l.foldl (fun s i => if (ks i).isNil then s else colT (ks i) false s) s).2.length ≤ s.2.length + (l.map fun i => cntT (ks i)).sum := fun l => by
      induction l with
      | nil => exact fun s => Nat.le_refl _
      | cons i l ihl =>
        intro s
        rw [List.foldl_cons, List.map_cons, List.sum_cons]
        have h2 := ihl (if (ks i).isNil then s else colT (ks i) false s)
        have h3 : (if (ks i).isNil then s else colT (ks i) false s).2.length ≤ s.2.length + cntT (ks i) := by
          split
          · omega
          · rename_i hn
            exact ih i s (by simpa using hn) false
        omega
    have h2 := this (List.range 16) (ifput (.br ks v) r s)
    omega
theorem sum_filter {α : Type} (g : α → Nat) (l : List α) (c : Nat) : ∀ n, ((List.range n).map fun d => c * (l.filter fun z => g z == d).length).sum + c * (l.filter fun z => decide (n ≤ g z)).length ≤ c * l.length
  | 0 => by
    rw [List.filter_eq_self.2 (by simp)]
    simp
  | n + 1 => by
    have ih := sum_filter g l c n
    have h : (l.filter fun z => g z == n).length + (l.filter fun z => decide (n + 1 ≤ g z)).length = (l.filter fun z => decide (n ≤ g z)).length := by
      clear ih
      induction l with
      | nil => rfl
      | cons x l ihl =>
        simp only [List.filter_cons]
        by_cases h1 : g x = n
        · rw [if_pos (by simp [h1]), if_neg (by simp [h1]), if_pos (by simp [h1]), List.length_cons, List.length_cons]
          omega
        · by_cases h2 : n + 1 ≤ g x
          · rw [if_neg (by simp [h1]), if_pos (by simp [h2]), if_pos (by simp; omega), List.length_cons, List.length_cons]
            omega
          · rw [if_neg (by simp [h1]), if_neg (by simp; omega), if_neg (by simp; omega)]
            omega
    rw [List.range_succ, List.map_append, List.map_cons, List.map_nil, List.sum_append, List.sum_cons, List.sum_nil]
    rw [← h, Nat.mul_add] at ih
    omega
theorem sum_le {α : Type} {f g : α → Nat} : ∀ {l : List α}, (∀ x ∈ l, f x ≤ g x) → (l.map f).sum ≤ (l.map g).sum
  | [], _ => Nat.le_refl _
  | x :: l, h => by
    rw [List.map_cons, List.map_cons, List.sum_cons, List.sum_cons]
    exact Nat.add_le_add (h x (by simp)) (sum_le fun y hy => h y (List.mem_cons_of_mem _ hy))
theorem cnt_bd : ∀ (f : Nat) (l : List Pr) (at_ : Nat), cntT (bdF f l at_) ≤ f * l.length
  | 0, l, at_ => by simp [bdF, cntT]
  | f + 1, [], at_ => by simp [bdF, cntT]
  | f + 1, [x], at_ => by
    rw [bd_one, cntT]
    simp
  | f + 1, x :: y :: r, at_ => by
    have hm : (f + 1) * (x :: y :: r).length = f * (x :: y :: r).length + (x :: y :: r).length := by rw [Nat.add_mul, Nat.one_mul]
    have hp : 1 ≤ (x :: y :: r).length := by simp
    rw [hm]
    rw [bdF]
    split
    · rw [cntT]
      have := cnt_bd f (x :: y :: r) (at_ + common (x.1.drop at_) (((y :: r).getLast (by simp)).1.drop at_))
      omega
    · split
      · rw [cntT]
        have h1 := sum_le (l := List.range 16) (f := fun i => cntT (bdF f ((y :: r).filter fun z => (nibA at_ z).toNat == i) (at_ + 1))) (g := fun i => f * ((y :: r).filter fun z => (nibA at_ z).toNat == i).length) fun i _ => cnt_bd f _ _
        have h2 := sum_filter (fun z => (nibA at_ z).toNat) (y :: r) f 16
        have h3 : f * (y :: r).length ≤ f * (x :: y :: r).length := Nat.mul_le_mul_left _ (by simp)
        omega
      · rw [cntT]
        have h1 := sum_le (l := List.range 16) (f := fun i => cntT (bdF f ((x :: y :: r).filter fun z => (nibA at_ z).toNat == i) (at_ + 1))) (g := fun i => f * ((x :: y :: r).filter fun z => (nibA at_ z).toNat == i).length) fun i _ => cnt_bd f _ _
        have h2 := sum_filter (fun z => (nibA at_ z).toNat) (x :: y :: r) f 16
        omega
def bfOf (es : List Ent) (k : List UInt8) : List UInt8 := match getE es k with
  | some (.bs b) => b
  | _ => []
def nodesOf (es : List Ent) : List Pr := (sortL (es.map (·.2.1))).map fun k => (k, bfOf es k)
def nodesP (l : List Pr) : List Pr := if errP l = 0 then (if (treeT l).isNil then [] else nodesOf (colT (treeT l) true (0, [])).2) else []
theorem bin_isNilT (t : Tn) : Bin .eql 80 (dT t) (.v .nilIface) (.bool t.isNil) := by
  cases t with
  | nil => exact bin_inil
  | leaf a b => exact bin_ifc _ _
  | ext a b => exact bin_ifc _ _
  | br a b => exact bin_ifc _ _
theorem errP_len {l : List Pr} (h : errP l = 0) : l.length ≤ 100000 := by
  unfold errP at h
  split at h
  · cases h
  · rename_i h1
    have : ¬ 100000 < l.length := fun e => h1 (.inl e)
    omega
set_option maxRecDepth 20000 in
set_option maxHeartbeats 8000000 in
theorem f_Nodes (l : List Pr) : Fn 19 [.sl 2 (l.map dPr)] (· = .tpl [.sl 33 ((nodesP l).map dNd), .v (.int .i64 (errP l : Int))]) := by
  have hT := f_Tree l
  unfold nodesP
  refine FnM.toFn ?_
  refine FnM.walk 25 Try.func19 rfl Try.ntmps19 (by simp) fun X => ?_
  by_cases he : errP l = 0
  · rw [if_pos he] at hT ⊢
    rw [he] at hT ⊢
    have hb := bin_isNilT (treeT l)
    have hok := tree_ok he
    have hcnt := cnt_bd 200 (srt (l.map sp)) 0
    rw [(srt_perm _).length_eq, List.length_map] at hcnt
    have hl := errP_len he
    rw [show bdF 200 (srt (l.map sp)) 0 = treeT l from rfl] at hcnt
    cases hn : (treeT l).isNil with
    | true =>
      rw [hn] at hb
      rw [if_pos rfl]
      repeat
        (first
         | (apply P_call (hT); exact rfl; (focus (repeat first | exact RefineL.refl _ _ | exact RL.nil | exact Rf.same | exact Rf.bs0 | exact Rf.sl0 | (apply Rf.fact; (focus (simp; done)); exact rfl) | apply Rf.tup | apply RL.cons)); (focus (intro _ _; simp [go_sem]; done)); (iterate 2 exact rfl))
         | (apply P_bin; (iterate 2 exact rfl); exact hb; (iterate 2 exact rfl)) | (apply P_move; (iterate 3 exact rfl)) | (apply P_assign; (iterate 3 exact rfl)) | (apply P_extract; (iterate 4 exact rfl))
         | (apply P_pick; (iterate 4 exact rfl)) | (apply P_cmp (b := false); (iterate 2 exact rfl); (focus (first | (simp [cmpI]; done) | (simp [cmpI]; omega))); (iterate 2 exact rfl)) | apply EL.nil
         | ((with_reducible apply EK.then_normal); apply EK.code) | (apply EC.cond_true; exact rfl)
         | (with_reducible first | apply EC.seq | apply EC.region | apply EC.skip | apply EC.label | apply EC.block | apply EC.exit | apply EC.ret | apply EK.in_normal | apply EK.in_same | apply EK.in_ret | apply EK.then_ret | apply EK.then_exit))
      exact EK.retM2kN [] rfl rfl rfl (RL.cons Rf.sl0 (RL.cons Rf.same RL.nil)) (List.nil_sublist _) ⟨rfl, rfl⟩
    | false =>
      rw [hn] at hb
      rw [if_neg (by decide)]
      have hle := col_le (treeT l) (0, []) hn true
      have htb : Tbl (colT (treeT l) true (0, [])) := Tbl.col _ true fun k d h => by simp [getE] at h
      have hC := fun m => f_collect m (treeT l) hok true (0, [])
      generalize colT (treeT l) true (0, []) = sx at hle htb hC ⊢
      obtain ⟨c, es⟩ := sx
      dsimp only at hle
      have hL := fun m => f_List m c es (bfOf es) (fun k hk => by
        obtain ⟨d, hd⟩ := getE_someN hk
        obtain ⟨b, rfl, _, _⟩ := htb k d hd
        unfold bfOf
        rw [hd]) (fun k => by
        unfold bfOf
        split
        · rename_i b hb2
          obtain ⟨b', e, _, hb3⟩ := htb k _ hb2
          cases e
          simp only [most] at hb3
          omega
        · simp) (by
        simp at hle
        omega)
      have hmm : (nodesOf es).map dNd = (sortL (es.map (·.2.1))).map fun k => dNd (k, bfOf es k) := by
        unfold nodesOf
        rw [List.map_map]
        rfl
      dsimp only
      rw [hmm]
      repeat
        (first
         | (apply P_call (hT); exact rfl; (focus (repeat first | exact RefineL.refl _ _ | exact RL.nil | exact Rf.same | exact Rf.bs0 | exact Rf.sl0 | (apply Rf.fact; (focus (simp; done)); exact rfl) | apply Rf.tup | apply RL.cons)); (focus (intro _ _; simp [go_sem]; done)); (iterate 2 exact rfl))
         | (apply P_bin; (iterate 2 exact rfl); exact hb; (iterate 2 exact rfl)) | (apply P_move; (iterate 3 exact rfl)) | (apply P_assign; (iterate 3 exact rfl)) | (apply P_extract; (iterate 4 exact rfl))
         | (apply P_pick; (iterate 4 exact rfl)) | (apply P_cmp (b := false); (iterate 2 exact rfl); (focus (first | (simp [cmpI]; done) | (simp [cmpI]; omega))); (iterate 2 exact rfl))
         | (apply P_makeMap; exact rfl; exact rfl; exact rfl; intro _) | apply EL.nil | ((with_reducible apply EK.then_normal); apply EK.code) | (apply EC.cond_false; exact rfl)
         | (with_reducible first | apply EC.seq | apply EC.region | apply EC.skip | apply EC.label | apply EC.block | apply EC.exit | apply EC.ret | apply EK.in_normal | apply EK.in_same | apply EK.in_ret | apply EK.then_ret | apply EK.then_exit))
      rename_i m
      refine P_callM (os := [mpO m (0, [])]) (hC m) rfl rfl (RefineL.refl _ _) (by intro _ _; simp [go_sem]) rfl rfl ?_
      rintro _ _ ⟨rfl, rfl⟩
      simp only [List.cons_append, List.nil_append]
      repeat
        (first
         | (apply P_move; (iterate 3 exact rfl)) | apply EL.nil | ((with_reducible apply EK.then_normal); apply EK.code)
         | (with_reducible first | apply EC.seq | apply EC.region | apply EC.skip | apply EC.label | apply EC.block | apply EC.exit | apply EC.ret | apply EK.in_normal | apply EK.in_same | apply EK.in_ret | apply EK.then_ret | apply EK.then_exit))
      refine P_callM (os := [.map m 32 c es]) (hL m) rfl rfl (RefineL.refl _ _) (by intro _ _; simp [go_sem]) rfl rfl ?_
      rintro _ _ ⟨rfl, rfl⟩
      simp only [List.cons_append, List.nil_append]
      repeat
        (first
         | (apply P_assign; (iterate 3 exact rfl)) | apply EL.nil | ((with_reducible apply EK.then_normal); apply EK.code)
         | (with_reducible first | apply EC.seq | apply EC.region | apply EC.skip | apply EC.label | apply EC.block | apply EC.exit | apply EC.ret | apply EK.in_normal | apply EK.in_same | apply EK.in_ret | apply EK.then_ret | apply EK.then_exit))
      exact EK.retM2kN [] rfl rfl rfl (RefineL.refl _ _) (List.nil_sublist _) ⟨rfl, rfl⟩
  · rw [if_neg he] at hT ⊢
    have hne : (errP l : Int) ≠ 0 := by omega
    repeat
      (first
       | (apply P_skip; (iterate 2 exact rfl))
       | (apply P_call (hT); exact rfl; (focus (repeat first | exact RefineL.refl _ _ | exact RL.nil | exact Rf.same | exact Rf.bs0 | exact Rf.sl0 | (apply Rf.fact; (focus (simp; done)); exact rfl) | apply Rf.tup | apply RL.cons)); (focus (intro _ _; simp [go_sem]; done)); (iterate 2 exact rfl))
       | (apply P_move; (iterate 3 exact rfl)) | (apply P_assign; (iterate 3 exact rfl)) | (apply P_extract; (iterate 4 exact rfl)) | (apply P_pick; (iterate 4 exact rfl))
       | (apply P_cmp (b := true); (iterate 2 exact rfl); (focus (first | (simp [cmpI]; done) | (simp [cmpI]; omega))); (iterate 2 exact rfl)) | apply EL.nil
       | ((with_reducible apply EK.then_normal); apply EK.code) | (apply EC.cond_true; exact rfl)
       | (with_reducible first | apply EC.seq | apply EC.region | apply EC.skip | apply EC.label | apply EC.block | apply EC.exit | apply EC.ret | apply EK.in_normal | apply EK.in_same | apply EK.in_ret | apply EK.then_ret | apply EK.then_exit))
    exact EK.retM2kN [] rfl rfl rfl (RL.cons Rf.sl0 (RL.cons Rf.same RL.nil)) (List.nil_sublist _) ⟨rfl, rfl⟩
end E
end Go.Proofs.Ytmlajcbabimkjaa
/-
  Keccak in plain words: the sums of no bytes and of 'abc', round by round.
  Conditions: none. No program is named here. Printed by wip/tools/kechash.py.
-/
namespace Go.Proofs.Ytmlajcbabimkjaa.Kec
def ofL (l : List L) : St := fun k => l.getD k 0
def a0 : List L := [0x1, 0x0, 0x0, 0x0, 0x0, 0x0, 0x0, 0x0, 0x0, 0x0, 0x0, 0x0, 0x0, 0x0, 0x0, 0x0, 0x8000000000000000, 0x0, 0x0, 0x0, 0x0, 0x0, 0x0, 0x0, 0x0]
def a1 : List L := [0x40000000001, 0x100000000000, 0x40000008000, 0x0, 0x100000008000, 0x8, 0x300000200000, 0x1000000000000008, 0x300000000000, 0x1000000000200000, 0x2, 0x220, 0x40000, 0x202, 0x40020, 0x10000400, 0x1000004000, 0x400, 0x10004000, 0x1000000000, 0x2000010000000000, 0x20000000000, 0x10000000004, 0x2000020000000000, 0x4]
def a2 : List L := [0x36305230006404e6, 0x10c339b88b760106, 0x2c31260010309901, 0xb402598888e60461, 0x8ec12c0011141902, 0x479c441202162, 0xa9834204a1850002, 0x8002a96207243bf4, 0x2986b00442e20013, 0x88030ae2a44318c5, 0x40002504a452186c, 0x298438083b9f34, 0x14c09a8c9df0c04b, 0x382e3020480c46, 0x54d1819819b14311, 0x1bc065087388d40, 0x254056d141076300, 0x442c006724388184, 0x22881640e2122040, 0x425040a620050f84, 0x10250ab408141191, 0xea18c00a90a046e2, 0x2252e3040181054, 0xd800c8a408a061a1, 0x2218340ad024160e]
def a3 : List L := [0x7308cf19f675a28c, 0x24c8413593a231e3, 0x9f099d478b237977, 0x2ab7f95c8ac310b3, 0x8e28a10fc66873fc, 0x5d32e773b2b55c7d, 0x7d33980232045c83, 0xe28a2b70205085a5, 0xcc2cd7e324d2468e, 0xb74a863bf2536585, 0x5d369d3c79ba85a5, 0x22ed7119e3c4e384, 0x4bcc0c935097f374, 0x2e5dc77a860ca66f, 0x2dbeea71f1e35a7a, 0xc669dec7291539ab, 0x9f80d8ac374bb6cd, 0x91c77afe0262c26d, 0x2de8dbd4dcde6fb1, 0x46c24c7c739d6870, 0x783e0513afeccc1a, 0xa29ac517088ad63a, 0x1d20df7ecb8e7067, 0x655b7bf46aae9a3c, 0x43c735309c4e1439]
def a4 : List L := [0x7eec1012f66baee6, 0xe6d2e4458cac18a9, 0x5096c520535f288f, 0x5adf5824750696d5, 0x2867f1088b8fd658, 0xaccfdcb0bd9bcea8, 0x5fd9797e9164980, 0x44a2cbf947e16cee, 0xaceb2429db2cd55d, 0x6a48fc23515ee2a8, 0xb94607983d4705bf, 0x1b1bd3901a486275, 0xf1c146f6afe51ec3, 0x10de9de4ef506c58, 0x6ac0b280c3c395bb, 0xf97c5fbe14ff3bc6, 0x19cb20108c838c96, 0x982b0cf11854f22c, 0xd75032de9743a238, 0x27f400cc90c3447, 0xf2facacde688afb6, 0x682013742aa1e73d, 0xce5665bb2df4e84, 0x279226377095e8d6, 0x634646675441ce51]
def a5 : List L := [0x2ca78d1fb0a64dc7, 0x6450dd6a88cd74e3, 0x6cce78e37be7ccf9, 0x5f5144ba9082b898, 0x50bd6ebb1a526d89, 0x6b68cee4f00b096, 0x1d0fd475cb63df7b, 0xb871c02c5547e2ee, 0x54e2ff6b9c6e656e, 0xac2400ff8481b1e8, 0x484fb645561a4af9, 0x5b2d34b2fa6df33c, 0x85ee3ce0c5e41191, 0x19852566623a33e5, 0x5623446d9c77334d, 0xc0041cd3a2e7cde2, 0x268a41a57a642f48, 0x7f274ee5a657e34e, 0x23cb54ee34c79a96, 0x4087455b7b69c9a0, 0x3c4eee45f0e96635, 0xf60516babe614702, 0xdd5dc346837e8117, 0x14a0e647eb74e246, 0x6875306431036be1]
def a9 : List L := [0xe6793e2397506542, 0x1ddb637d149a8a06, 0x5b35a54e14bcffff, 0xcb5aa90388eba654, 0xa3a4bfc5a60473eb, 0x386aee2b513a1936, 0x6513d1f1219cb90f, 0xb8ec554e5f878440, 0x3580a2caed41269, 0x385bdf5eee3b532d, 0xd41099a6aef35b05, 0x262bc24121ebed31, 0x258932bf7f92e37d, 0x57cf2d18c4cd4f90, 0x1bf18ba20cfb0ba5, 0x9d56828b652f2b44, 0x8a1abfdf9d671216, 0xd32d5e80ee56ead9, 0x38c279ac8674cd62, 0x8e6b4f19f3ab9e48, 0xa101a4b68570f00b, 0x3646245c26b464b4, 0x1a0312ee4becc874, 0xcb1c53d72f8f5bde, 0xa5533594f4a600fc]
def a22 : List L := [0x67a6b668b7823e97, 0x6836c186c6896c37, 0x5228a82d35ea443d, 0x1147f1f0d89e6089, 0x9e61b976def8787e, 0x425268b17d929984, 0xbb647912c69e8767, 0x7dfe5dcd8c02e555, 0x7d8a497e88d5bc58, 0x1fa3ea82647afdfd, 0xd716262751ecd3f, 0xaddf2b6362a74ade, 0xd1ae1668ee1f7b6b, 0x22e411de1ce7ae26, 0xb573b3fa09ab1497, 0x8a84d26fc954382a, 0x97ac3379cd19e543, 0x95b0a4d5625a494a, 0x1e25db0b8cba4e17, 0xd342634463487e3b, 0x5ab2266e5f4f1133, 0x29ed02739defd2a4, 0x5ff62da7fb015c4a, 0xc488556b6dd3a215, 0x24b8bdcde0e9ebd8]
def b0 : List L := [0x1636261, 0x0, 0x0, 0x0, 0x0, 0x0, 0x0, 0x0, 0x0, 0x0, 0x0, 0x0, 0x0, 0x0, 0x0, 0x0, 0x8000000000000000, 0x0, 0x0, 0x0, 0x0, 0x0, 0x0, 0x0, 0x0]
def b1 : List L := [0x40001636261, 0x3626100000000016, 0x4b1b1308000, 0x436260, 0x362610b1b1308016, 0x8, 0x6c4c1c6c4c200024, 0x1000000000000008, 0x6c4c30000000002c, 0x10002c6c4c200000, 0x2c6c4c2, 0x2c6c4c220, 0x0, 0x2c40606c2, 0x40020, 0x1636239d898400, 0x1000004000, 0x58d898400, 0x16362610004000, 0x1000000000, 0x4362610000000001, 0x20000000000, 0x63626100058d8985, 0x2000020000000000, 0x58d8984]
def b2 : List L := [0xb6b21630dc026e64, 0x52ba4c56c5443c02, 0xded88d32d221a9bb, 0x535904cb1907aa56, 0xe991b3eb3a57a2ac, 0xeb855fc9f3e0a146, 0xc8dc57e61ea49e20, 0xc79089c798424af5, 0x27b647be0009fc0a, 0x744d8cf0e8f16279, 0x6f3510a79cc66f45, 0x1723ff0092b34376, 0x5e59853074605839, 0x918e737fd5e1ebc6, 0x94433808356fc6f1, 0x90a84b0c6728e506, 0xd4188ab88f232267, 0x2a670ca60fa64406, 0x11d916f3e7a3c06f, 0xac1fbeff27ca0496, 0xbca7ccc0ecc6a273, 0xd1aab11697c8054e, 0x870bd6f6841f1f6, 0x9326ada5ccef36e0, 0xd4ca5839a234e7ce]
def b3 : List L := [0xc61779d91d24b16d, 0x6cefc4cdde848952, 0xa15378cc82c99dd7, 0xaea845d98752cd7c, 0xfbd0cd045a2d2bcb, 0x8c48d4e2154cad66, 0xab8aec7f7604bc0f, 0x7c7274eaf4518220, 0xeb07e061a78e4bc6, 0x97066857e55a4bd, 0xad7721e6cca59f3c, 0x1e981ba123872c56, 0xf6b4e45d717e6b09, 0x9bdbc6096c8d2bc2, 0x5e24ae020cd1508a, 0x1c61295aa9750d20, 0x48ec4c90ba0816d1, 0x94121d34c7b4eb2c, 0xe2e3c08ce6a836da, 0xbd18315e115166f1, 0xa2657100b036c63a, 0x6bc8115a14660210, 0xae05dc7782050c51, 0xfd5982e51a3dc97f, 0xe3c3caa7f63fc4c]
def b4 : List L := [0xe0c2c79192c46b5, 0x5c76741a579886e1, 0x3a0180758acbf2ec, 0x2b459935eb34a4ae, 0xbc2d1c2ce932df28, 0xee8b9c4fdc46a6c0, 0xe1371e96fbaf5e5b, 0x2befb93d67f60fc2, 0xcb3c671c994edf25, 0x1bcc5eb3db7d9cba, 0x9f8f1c348c2bef4c, 0x4d6e61b6248ed041, 0xaf41a881e57332ef, 0xa3318d1b85e6baee, 0xd346917643b931df, 0xd8afef82fc4fdfac, 0x88553b2645021058, 0xa4a4c3fb8b5cfdc2, 0x182265eae5acd485, 0x7e838b9f32755c81, 0x320c917b3189056b, 0x1bc40b84fddc62e1, 0x83c91087c997ea27, 0xc8a268a4e77b364b, 0x6603c31ff29c66c]
theorem perm_congr {a b : St} (h : Same a b) : ∀ k, Same (perm a k) (perm b k)
  | 0 => h
  | k + 1 => round_same (perm_congr h k) (rc k)
end Go.Proofs.Ytmlajcbabimkjaa.Kec
