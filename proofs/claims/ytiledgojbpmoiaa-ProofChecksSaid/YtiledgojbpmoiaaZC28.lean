/-
 Merged (wip/tools/merge.py): PFB.
 Conditions: none.
-/
import Derived.Test.YtiledgojbpmoiaaZC27
/-
 proof.Check.
 Conditions: none.
-/
namespace Go.Proofs.Ytiledgojbpmoiaa
set_option linter.unusedVariables false
open Go.RowKit Mono Rlp
namespace E
theorem nodeF_nohash : ∀ (f : Nat) (x : Raw) (w : List UInt8), (nodeF f x).1 ≠ .hash w
 | 0, x, w => fun h => by cases h
 | _ + 1, .mk false _ _, w => fun h => by cases h
 | f + 1, .mk true b xs, w => fun h => by
  rw [nodeF] at h
  split at h
  ·
   unfold pairF at h
   split at h
   · cases h
   ·
    split at h
    · cases h
    ·
     split at h
     · cases h
     · split at h <;> cases h
  ·
   split at h
   ·
    unfold brF at h
    split at h <;> cases h
   · cases h
theorem dN_ifc {t : Nd} (h : t.isNil = false) (h2 : ∀ w, t ≠ .hash w) : ∃ T d, dN t = .ifc T d ∧ Nat.beq T 42 = false := by
 cases t with
 | nil => cases h
 | hash w => exact absurd rfl (h2 w)
 | leaf p v => exact ⟨_, _, by rw [dN], rfl⟩
 | ext p k => exact ⟨_, _, by rw [dN], rfl⟩
 | br ks v => exact ⟨_, _, by rw [dN], rfl⟩
def ChkI (tot : List UInt8 × Nat) (n : Nd) (p v : List UInt8) (q : List (List UInt8)) : Prop :=
 (n = .nil ∧ (if q.length = 0 then (v, 0) else ([], 3)) = tot ∧ v.length ≤ 16777216) ∨ ∃ f y fu, GoodR f y ∧ n = (refF (nodeF f) y).1 ∧ chk fu y p q = tot ∧ p.length < fu ∧ ∀ c ∈ p, c.toNat < 16
theorem bts_len {x : Raw} (h : Gd x) : (bts x).length ≤ 16777216 := by
 obtain ⟨l, b, xs⟩ := x
 show b.length ≤ _
 cases l with
 | false =>
  have h1 := h.len
  rw [Rlp.E] at h1
  have := EB_ge b
  simp only [most] at h1
  omega
 | true =>
  have h1 := h.nrm
  rw [norm] at h1
  injection h1 with _ h1 _
  rw [← h1]
  exact Nat.zero_le _
theorem getD_gd {b : List UInt8} {l : Bool} {xs : List Raw} (h : Gd (.mk l b xs)) (k : Nat) : (bts (xs.getD k rawE)).length ≤ 16777216 := by
 cases l with
 | true =>
  rw [List.getD_eq_getElem?_getD]
  cases hk : xs[k]? with
  | none => exact Nat.zero_le _
  | some y => exact bts_len (h.kid (List.mem_of_getElem? hk))
 | false =>
  have h1 := h.nrm
  rw [norm] at h1
  injection h1 with _ _ h1
  rw [← h1]
  exact Nat.zero_le _
theorem dwn_len {x : Raw} (h : Gd x) (p : List UInt8) : (dwn x p).2.2.1.length ≤ 16777216 := by
 obtain ⟨l, b, xs⟩ := x
 unfold dwn
 rw [show its (.mk l b xs) = xs from rfl]
 split
 ·
  cases p with
  | nil => exact getD_gd h 16
  | cons c r =>
   dsimp only
   split <;> exact Nat.zero_le _
 ·
  split
  ·
   split
   · exact getD_gd h 1
   · exact Nat.zero_le _
  · split <;> exact Nat.zero_le _
  · split <;> exact Nat.zero_le _
theorem chkI_next {tot : List UInt8 × Nat} {f fu : Nat} {x : Raw} {p : List UInt8} {q : List (List UInt8)} (hx : Gd x) (hn : isN f x = true) (hp : ∀ c ∈ p, c.toNat < 16) (hpf : p.length < fu + 1) (h : chkN fu x p q = tot) : ChkI tot (stepN (nodeF f x).1 p).1 (stepN (nodeF f x).1 p).2.1 (stepN (nodeF f x).1 p).2.2 q ∧ ((stepN (nodeF f x).1 p).1.isNil = true ∨ (stepN (nodeF f x).1 p).2.1.length < p.length) := by
 unfold chkN at h
 rcases step_dwn hx hn p hp with ⟨r, v, e1, e2, e3⟩ | ⟨g', k, r, e1, e2, e3, e4, e5⟩
 ·
  rw [e1, e2, if_neg Bool.false_ne_true] at h
  rw [e3]
  exact ⟨.inl ⟨rfl, h, by have := dwn_len hx p; rw [e2] at this; exact this⟩, .inl rfl⟩
 ·
  rw [e1, if_pos rfl] at h
  rw [e2]
  exact ⟨.inr ⟨g', k, fu, e3, rfl, h, by dsimp only; omega, fun c hc => hp c (e5 c hc)⟩, .inr e4⟩
def msN (n : Nd) (p : List UInt8) : Nat := if n.isNil then 0 else p.length + 1
set_option maxRecDepth 20000 in
set_option maxHeartbeats 32000000 in
theorem f_pCheck (root key : List UInt8) (q : List (List UInt8)) (hr : root.length = 32) (hk : key.length ≤ 150) : Fn 5 [.arr 32 root, .bs key, .sl 1 (q.map D.bs)] (· = prfD (chkP root key q)) := by
 have hE := f_shEmpty
 have hw := (bin_word root root0).1
 have hS := f_pSplit key (by omega)
 have hnib : ∀ c ∈ split key, c.toNat < 16 := fun c hc => by
  obtain ⟨y, _, hy⟩ := List.mem_flatMap.1 hc
  simp only [List.mem_cons, List.not_mem_nil, or_false] at hy
  rcases hy with rfl | rfl
  ·
   rw [UInt8.toNat_shiftRight]
   have := y.toNat_lt
   simp [Nat.shiftRight_eq_div_pow]
   omega
  ·
   rw [UInt8.toNat_and]
   have := Nat.and_two_pow_sub_one_eq_mod y.toNat 4
   simp at this ⊢
   omega
 have hsl := split_length key
 refine FnM.toFn ?_
 unfold prfD
 generalize htot : chkP root key q = tot
 have hI : ChkI tot (if root = root0 then .nil else .hash root) (split key) [] q := by
  unfold chkP at htot
  by_cases h0 : root = root0
  ·
   rw [if_pos h0] at htot ⊢
   exact .inl ⟨rfl, htot, Nat.zero_le _⟩
  ·
   rw [if_neg h0] at htot ⊢
   refine .inr ⟨40, .mk false root [], 400, good_root hr, ?_, htot, by omega, hnib⟩
   unfold refF
   rw [if_neg (show ¬ isL (.mk false root []) = true from Bool.false_ne_true), show bts (.mk false root []) = root from rfl, if_neg (by omega), if_pos hr]
 clear htot hk
 generalize split key = p0 at *
 refine FnM.walk 70 Try.func5 rfl Try.ntmps5 (by simp) fun X => ?_
 by_cases h0 : root = root0
 ·
  rw [if_pos h0] at hI
  rw [show (root == root0) = true by simp [h0]] at hw
  repeat
   (first
    | (apply P_box; rfl; rfl; rfl; intro g; refine EL.le (Le.pin (p := 3) (pre := []) rfl rfl) ?_; simp only [List.nil_append]) | (apply P_assign; iterate 3 rfl)
    | (apply P_loadpd; iterate 5 rfl) | (apply P_mkifc; iterate 4 rfl) | apply EL.nil | ((with_reducible apply EK.then_normal); apply EK.code)
    | (with_reducible first | apply EC.seq | apply EC.region))
  refine EC.draw 2 (by kernel_rfl) ?_
  simp only [List.take_succ_cons, List.take_zero, List.drop_succ_cons, List.drop_zero]
  repeat
   (first
    | (apply H_call (hE); rfl; exact RefineL.refl _ _; (focus (intro _ _; simp [go_sem]; done)); iterate 2 rfl) | (apply H_loadpd; iterate 5 rfl)
    | ((with_reducible apply EH.nil); rfl))
  repeat
   (first
    | (apply P_bin; (iterate 2 rfl); exact hw; iterate 2 rfl) | (apply P_call (hS); rfl; exact RefineL.refl _ _; (focus (intro _ _; simp [go_sem]; done)); iterate 2 rfl)
    | (apply P_move; iterate 3 rfl) | (apply P_assign; iterate 3 rfl) | apply EL.nil | ((with_reducible apply EK.then_normal); apply EK.code) | (apply EC.cond_true; rfl)
    | (with_reducible first | apply EC.seq | apply EC.region | apply EC.block))
  refine EC.le (Le.refine (t := 10) (d' := .bs []) rfl Rf.bs0) ?_
  refine EC.loop (ι := {x : Nd × List UInt8 × List UInt8 × List (List UInt8) // ChkI tot x.1 x.2.1 x.2.2.1 x.2.2.2})
   (fun x => ⟨[(9, .val (dN x.1.1)), (11, .val (.bs x.1.2.1)), (10, .val (.bs x.1.2.2.1)), (2, .val (.sl 1 (x.1.2.2.2.map D.bs)))], [], []⟩)
   (fun x => msN x.1.1 x.1.2.1) ⟨(.nil, p0, [], q), hI⟩ ?_ ?_
  ·
   dsimp only
   rw [dN]
   exact (Le.keep (by repeat first | exact trivial | refine ⟨rfl, ?_⟩) (by repeat first | exact List.nil_sublist _ | apply List.Sublist.cons_cons | apply List.Sublist.cons) (by simp))
  rintro ⟨⟨n, p, v, q⟩, hc⟩
  dsimp only at hc ⊢
  have hml : (q.map D.bs).length = q.length := List.length_map _
  have hnn := bin_nodeNe n
  rcases hc with ⟨rfl, ht, hvl⟩ | ⟨f, y, fu, ⟨hg, hyy⟩, hny, hch, hpf, hp⟩
  ·
   rw [show Nd.nil.isNil = true from rfl] at hnn
   rw [dN] at hnn ⊢
   by_cases hz : q.length = 0
   ·
    rw [if_pos hz] at ht
    subst ht
    obtain rfl : q = [] := List.eq_nil_of_length_eq_zero hz
    have hCl := f_Clone v (by omega)
    dsimp only
    by_cases hv : 0 < v.length
    ·
     rw [show decide (0 < v.length) = true by simp [hv]]
     have hc0 : cmpI .gtr (v.length : Int) 0 = some true := by
      simp only [cmpI, Option.some.injEq, decide_eq_true_eq]
      omega
     repeat
      (first
       | (apply P_bin; (iterate 2 rfl); exact hnn; iterate 2 rfl) | (apply P_call (hCl); rfl; exact RefineL.refl _ _; (focus (intro _ _; simp [go_sem]; done)); iterate 2 rfl)
       | (apply P_cmp (b := true); (iterate 2 rfl); exact hc0; iterate 2 rfl) | (apply P_move; iterate 3 rfl) | (apply P_assign; iterate 3 rfl)
       | (apply P_cmp (b := false); (iterate 2 rfl); (focus (first | (simp [cmpI]; done) | (simp [cmpI]; omega))); iterate 2 rfl) | (apply P_lenbs; iterate 4 rfl)
       | (apply P_lensl; iterate 4 rfl) | apply EL.nil | ((with_reducible apply EK.then_normal); apply EK.code) | (apply EC.cond_false; rfl)
       | (with_reducible first | apply EC.seq | apply EC.region | apply EC.skip | apply EC.exit | apply EC.ret | apply EK.in_same | apply EK.then_exit))
     exact EK.retM3 [] rfl rfl rfl rfl (by (repeat first | exact RefineL.refl _ _ | exact RL.nil | exact Rf.same | exact Rf.bs0 | exact Rf.sl0 | (apply Rf.fact; (focus (simp; done)); rfl) | apply Rf.tup | apply RL.cons)) (by (repeat first | exact RefineL.refl _ _ | exact RL.nil | exact Rf.same | exact Rf.bs0 | exact Rf.sl0 | (apply Rf.fact; (focus (simp; done)); rfl) | apply Rf.tup | apply RL.cons)) (by (repeat first | exact RefineL.refl _ _ | exact RL.nil | exact Rf.same | exact Rf.bs0 | exact Rf.sl0 | (apply Rf.fact; (focus (simp; done)); rfl) | apply Rf.tup | apply RL.cons)) (List.nil_sublist _) ⟨rfl, rfl⟩
    ·
     rw [show decide (0 < v.length) = false by simp [hv]]
     have hc0 : cmpI .gtr (v.length : Int) 0 = some false := by
      simp only [cmpI, Option.some.injEq, decide_eq_false_iff_not]
      omega
     repeat
      (first
       | (apply P_bin; (iterate 2 rfl); exact hnn; iterate 2 rfl) | (apply P_call (hCl); rfl; exact RefineL.refl _ _; (focus (intro _ _; simp [go_sem]; done)); iterate 2 rfl)
       | (apply P_cmp (b := false); (iterate 2 rfl); exact hc0; iterate 2 rfl) | (apply P_move; iterate 3 rfl) | (apply P_assign; iterate 3 rfl)
       | (apply P_cmp (b := false); (iterate 2 rfl); (focus (first | (simp [cmpI]; done) | (simp [cmpI]; omega))); iterate 2 rfl) | (apply P_lenbs; iterate 4 rfl)
       | (apply P_lensl; iterate 4 rfl) | apply EL.nil | ((with_reducible apply EK.then_normal); apply EK.code) | (apply EC.cond_false; rfl)
       | (with_reducible first | apply EC.seq | apply EC.region | apply EC.skip | apply EC.exit | apply EC.ret | apply EK.in_same | apply EK.then_exit))
     exact EK.retM3 [] rfl rfl rfl rfl (by (repeat first | exact RefineL.refl _ _ | exact RL.nil | exact Rf.same | exact Rf.bs0 | exact Rf.sl0 | (apply Rf.fact; (focus (simp; done)); rfl) | apply Rf.tup | apply RL.cons)) (by (repeat first | exact RefineL.refl _ _ | exact RL.nil | exact Rf.same | exact Rf.bs0 | exact Rf.sl0 | (apply Rf.fact; (focus (simp; done)); rfl) | apply Rf.tup | apply RL.cons)) (by (repeat first | exact RefineL.refl _ _ | exact RL.nil | exact Rf.same | exact Rf.bs0 | exact Rf.sl0 | (apply Rf.fact; (focus (simp; done)); rfl) | apply Rf.tup | apply RL.cons)) (List.nil_sublist _) ⟨rfl, rfl⟩
   ·
    rw [if_neg hz] at ht
    subst ht
    have hc0 : cmpI .gtr ((q.map D.bs).length : Int) 0 = some true := by
     simp only [cmpI, Option.some.injEq, decide_eq_true_eq]
     omega
    repeat
     (first
      | (apply P_bin; (iterate 2 rfl); exact hnn; iterate 2 rfl) | (apply P_cmp (b := true); (iterate 2 rfl); exact hc0; iterate 2 rfl) | (apply P_move; iterate 3 rfl)
      | (apply P_assign; iterate 3 rfl) | (apply P_lensl; iterate 4 rfl) | apply EL.nil | ((with_reducible apply EK.then_normal); apply EK.code) | (apply EC.cond_true; rfl)
      | (apply EC.cond_false; rfl) | (with_reducible first | apply EC.seq | apply EC.region | apply EC.exit | apply EC.ret | apply EK.in_same | apply EK.then_ret | apply EK.then_exit))
    exact EK.retM3 [] rfl rfl rfl rfl (by (repeat first | exact RefineL.refl _ _ | exact RL.nil | exact Rf.same | exact Rf.bs0 | exact Rf.sl0 | (apply Rf.fact; (focus (simp; done)); rfl) | apply Rf.tup | apply RL.cons)) (by (repeat first | exact RefineL.refl _ _ | exact RL.nil | exact Rf.same | exact Rf.bs0 | exact Rf.sl0 | (apply Rf.fact; (focus (simp; done)); rfl) | apply Rf.tup | apply RL.cons)) (by (repeat first | exact RefineL.refl _ _ | exact RL.nil | exact Rf.same | exact Rf.bs0 | exact Rf.sl0 | (apply Rf.fact; (focus (simp; done)); rfl) | apply Rf.tup | apply RL.cons)) (List.nil_sublist _) ⟨rfl, rfl⟩
  ·
   obtain ⟨fu, rfl⟩ : ∃ n, fu = n + 1 := ⟨fu - 1, by omega⟩
   rcases hyy with ⟨hl, hn, h32⟩ | ⟨hl, h32⟩
   ·
    have hrf : (refF (nodeF f) y).1 = (nodeF f y).1 := by rw [refF_list hg hl, if_pos h32]
    obtain rfl := hny.trans hrf
    rw [chk_list fu hl] at hch
    have hok : (nodeF f y).2 = true := by rw [nodeF_isN f y hg, hn]
    have hni := nodeF_some f y hok
    have hst := f_step (nodeF f y).1 p hp
    obtain ⟨hnx, hms⟩ := chkI_next hg hn hp (by omega) hch
    obtain ⟨T, d, ed, hne⟩ := dN_ifc hni (nodeF_nohash f y)
    have hmm : msN (stepN (nodeF f y).1 p).1 (stepN (nodeF f y).1 p).2.1 < msN (nodeF f y).1 p := by
     unfold msN
     rw [hni, if_neg Bool.false_ne_true]
     rcases hms with h | h
     ·
      rw [if_pos h]
      omega
     · split <;> omega
    rw [hni] at hnn
    rw [ed] at hst hnn ⊢
    unfold stepD at hst
    generalize stepN (nodeF f y).1 p = s at *
    obtain ⟨n2, p2, v2⟩ := s
    dsimp only at hst hnx hmm
    repeat
     (first
      | (apply P_bin; (iterate 2 rfl); exact hnn; iterate 2 rfl) | (apply P_call (hst); rfl; exact RefineL.refl _ _; (focus (intro _ _; simp [go_sem]; done)); iterate 2 rfl)
      | (apply P_asNo; rfl; rfl; exact hne; iterate 3 rfl) | (apply P_move; iterate 3 rfl) | (apply P_assign; iterate 3 rfl) | (apply P_extract; iterate 4 rfl)
      | (apply P_alloc; rfl; rfl; rfl; intro _) | (apply P_store; rfl; (focus (repeat first | exact .z | apply SetAt.s | apply SetAtF.s)); iterate 4 rfl) | apply EL.nil
      | ((with_reducible apply EK.then_normal); apply EK.code) | (apply EC.cond_true; rfl) | (apply EC.cond_false; rfl)
      | (with_reducible first | apply EC.seq | apply EC.region | apply EC.skip | apply EC.block | apply EK.in_normal))
    refine EK.again ⟨(n2, p2, v2, q), hnx⟩ (by exact hmm) ?_
    exact (Le.keep (by repeat first | exact trivial | refine ⟨rfl, ?_⟩) (by repeat first | exact List.nil_sublist _ | apply List.Sublist.cons_cons | apply List.Sublist.cons) (by simp))
   ·
    have hrf : (refF (nodeF f) y).1 = .hash (bts y) := by
     unfold refF
     rw [hl, if_neg Bool.false_ne_true, if_neg (by omega), if_pos h32]
    obtain rfl := hny.trans hrf
    rw [show (Nd.hash (bts y)).isNil = false from rfl] at hnn
    rw [dN] at hnn ⊢
    cases q with
    | nil =>
     rw [chk_hash0 fu hl] at hch
     subst hch
     repeat
      (first
       | (apply P_bin; (iterate 2 rfl); exact hnn; iterate 2 rfl) | (apply P_move; iterate 3 rfl) | (apply P_assign; iterate 3 rfl) | (apply P_extract; iterate 4 rfl)
       | (apply P_asYes; iterate 4 rfl) | (apply P_alloc; rfl; rfl; rfl; intro _)
       | (apply P_store; rfl; (focus (repeat first | exact .z | apply SetAt.s | apply SetAtF.s)); iterate 4 rfl) | apply EL.nil | ((with_reducible apply EK.then_normal); apply EK.code)
       | (apply EC.cond_true; rfl) | (with_reducible first | apply EC.seq | apply EC.region | apply EC.skip | apply EC.block))
     refine EC.draw 10 (by kernel_rfl) ?_
     simp only [List.take_succ_cons, List.take_zero, List.drop_succ_cons, List.drop_zero]
     repeat
      (first
       | (apply H_skip; iterate 2 rfl) | (apply H_move; iterate 3 rfl)
       | (apply H_cmp (b := true); (iterate 2 rfl); (focus (first | (simp [cmpI]; done) | (simp [cmpI]; omega))); iterate 2 rfl) | (apply H_lensl; iterate 4 rfl)
       | ((with_reducible apply EH.nil); rfl))
     repeat
      (first
       | (apply P_skip; iterate 2 rfl) | (apply P_assign; iterate 3 rfl) | (apply P_pick; iterate 4 rfl) | apply EL.nil | ((with_reducible apply EK.then_normal); apply EK.code)
       | (apply EC.cond_true; rfl) | (with_reducible first | apply EC.seq | apply EC.region | apply EC.ret | apply EK.in_ret | apply EK.then_ret))
     exact EK.retM3 [] rfl rfl rfl rfl (by (repeat first | exact RefineL.refl _ _ | exact RL.nil | exact Rf.same | exact Rf.bs0 | exact Rf.sl0 | (apply Rf.fact; (focus (simp; done)); rfl) | apply Rf.tup | apply RL.cons)) (by (repeat first | exact RefineL.refl _ _ | exact RL.nil | exact Rf.same | exact Rf.bs0 | exact Rf.sl0 | (apply Rf.fact; (focus (simp; done)); rfl) | apply Rf.tup | apply RL.cons)) (by (repeat first | exact RefineL.refl _ _ | exact RL.nil | exact Rf.same | exact Rf.bs0 | exact Rf.sl0 | (apply Rf.fact; (focus (simp; done)); rfl) | apply Rf.tup | apply RL.cons)) (List.nil_sublist _) ⟨rfl, rfl⟩
    | cons b q =>
     rw [chk_hash1 fu hl] at hch
     have hK := f_kSum1 b
     have hb := (bin_word (hash b) (bts y)).2
     have hce : cmpI .eql (((b :: q).map D.bs).length : Int) 0 = some false := by
      have : ((b :: q).map D.bs).length = q.length + 1 := by simp
      simp only [cmpI, Option.some.injEq, beq_eq_false_iff_ne]
      omega
     have hat : ((b :: q).map D.bs)[0]? = some (.bs b) := rfl
     have hdr : ((b :: q).map D.bs).drop 1 = q.map D.bs := rfl
     by_cases he : hash b = bts y
     ·
      rw [if_pos he] at hch
      rw [show (hash b != bts y) = false by simp [he]] at hb
      have hR := f_sRead b
      have hgx := rdX_gdA b
      by_cases hok : rdE b = 0 ∧ isN 40 (rdX b) = true
      ·
       rw [if_pos hok] at hch
       have hrd : rdNd b = ((nodeF 40 (rdX b)).1, true) := by
        unfold rdNd
        rw [if_pos hok, ← hok.2, ← nodeF_isN 40 (rdX b) hgx]
       rw [hrd] at hR
       unfold nodeD at hR
       obtain ⟨hnx, hms⟩ := chkI_next hgx hok.2 hp (by omega) hch
       have hst := f_step (nodeF 40 (rdX b)).1 p hp
       have hmm : msN (stepN (nodeF 40 (rdX b)).1 p).1 (stepN (nodeF 40 (rdX b)).1 p).2.1 < msN (.hash (bts y)) p := by
        unfold msN
        rw [show (Nd.hash (bts y)).isNil = false from rfl, if_neg Bool.false_ne_true]
        rcases hms with h | h
        ·
         rw [if_pos h]
         omega
        · split <;> omega
       dsimp only at hR
       unfold stepD at hst
       generalize stepN (nodeF 40 (rdX b)).1 p = s at *
       generalize (nodeF 40 (rdX b)).1 = nd at *
       obtain ⟨n2, p2, v2⟩ := s
       dsimp only at hst hnx hmm
       repeat
        (first
         | (apply P_bin; (iterate 2 rfl); exact hnn; iterate 2 rfl) | (apply P_move; iterate 3 rfl) | (apply P_assign; iterate 3 rfl) | (apply P_extract; iterate 4 rfl)
         | (apply P_asYes; iterate 4 rfl) | (apply P_alloc; rfl; rfl; rfl; intro _)
         | (apply P_store; rfl; (focus (repeat first | exact .z | apply SetAt.s | apply SetAtF.s)); iterate 4 rfl) | apply EL.nil | ((with_reducible apply EK.then_normal); apply EK.code)
         | (apply EC.cond_true; rfl) | (with_reducible first | apply EC.seq | apply EC.region | apply EC.skip | apply EC.block))
       refine EC.draw 10 (by kernel_rfl) ?_
       simp only [List.take_succ_cons, List.take_zero, List.drop_succ_cons, List.drop_zero]
       repeat
        (first
         | (apply H_call (hK); rfl; exact RefineL.refl _ _; (focus (intro _ _; simp [go_sem]; done)); iterate 2 rfl)
         | (apply H_cmp (b := false); (iterate 2 rfl); exact hce; iterate 2 rfl) | (apply H_move; iterate 3 rfl) | (apply H_loadpd; iterate 5 rfl)
         | (apply H_load; rfl; (first | exact I0 | exact I1 | exact I2 | exact I3 | exact I4 | exact I5 | exact I6); iterate 4 rfl) | (apply H_lensl; iterate 4 rfl)
         | (apply H_index; (iterate 4 rfl); (focus (first | exact ⟨by decide, rfl⟩ | (refine ⟨by omega, ?_⟩; rw [Int.toNat_natCast]; assumption))); iterate 2 rfl)
         | (apply H_lit; iterate 9 rfl) | ((with_reducible apply EH.nil); rfl))
       repeat
        (first
         | (apply P_bin; (iterate 2 rfl); exact hb; iterate 2 rfl) | (apply P_call (hR); rfl; exact RefineL.refl _ _; (focus (intro _ _; simp [go_sem]; done)); iterate 2 rfl)
         | (apply P_index; (iterate 4 rfl); exact ⟨by decide, hat⟩; iterate 2 rfl) | (apply P_move; iterate 3 rfl) | (apply P_assign; iterate 3 rfl)
         | (apply P_extract; iterate 4 rfl) | (apply P_loadpd; iterate 5 rfl) | (apply P_pick; iterate 4 rfl) | (apply P_not; iterate 3 rfl) | apply EL.nil
         | ((with_reducible apply EK.then_normal); apply EK.code) | (apply EC.cond_false; rfl) | (with_reducible first | apply EC.seq | apply EC.region | apply EC.skip))
       refine EC.draw 4 (by kernel_rfl) ?_
       simp only [List.take_succ_cons, List.take_zero, List.drop_succ_cons, List.drop_zero]
       repeat
        (first
         | (apply H_slfrom; (iterate 3 rfl); exact ⟨by decide, (by simp)⟩; iterate 2 rfl) | (apply H_move; iterate 3 rfl) | (apply H_assign; iterate 3 rfl)
         | ((with_reducible apply EH.nil); rfl))
       repeat
        (first
         | (apply P_call (hst); rfl; exact RefineL.refl _ _; (focus (intro _ _; simp [go_sem]; done)); iterate 2 rfl) | (apply P_move; iterate 3 rfl)
         | (apply P_assign; iterate 3 rfl) | (apply P_extract; iterate 4 rfl) | apply EL.nil | ((with_reducible apply EK.then_normal); apply EK.code)
         | (with_reducible first | apply EC.region | apply EK.in_normal))
       refine EK.again ⟨(n2, p2, v2, q), hnx⟩ (by exact hmm) ?_
       exact (Le.keep (by repeat first | exact trivial | refine ⟨rfl, ?_⟩) (by repeat first | exact List.nil_sublist _ | apply List.Sublist.cons_cons | apply List.Sublist.cons) (by simp))
      ·
       rw [if_neg hok] at hch
       subst hch
       have hrd : rdNd b = (.nil, false) := by
        unfold rdNd
        rw [if_neg hok]
       rw [hrd] at hR
       unfold nodeD at hR
       dsimp only at hR
       repeat
        (first
         | (apply P_bin; (iterate 2 rfl); exact hnn; iterate 2 rfl) | (apply P_move; iterate 3 rfl) | (apply P_assign; iterate 3 rfl) | (apply P_extract; iterate 4 rfl)
         | (apply P_asYes; iterate 4 rfl) | (apply P_alloc; rfl; rfl; rfl; intro _)
         | (apply P_store; rfl; (focus (repeat first | exact .z | apply SetAt.s | apply SetAtF.s)); iterate 4 rfl) | apply EL.nil | ((with_reducible apply EK.then_normal); apply EK.code)
         | (apply EC.cond_true; rfl) | (with_reducible first | apply EC.seq | apply EC.region | apply EC.skip | apply EC.block))
       refine EC.draw 10 (by kernel_rfl) ?_
       simp only [List.take_succ_cons, List.take_zero, List.drop_succ_cons, List.drop_zero]
       repeat
        (first
         | (apply H_call (hK); rfl; exact RefineL.refl _ _; (focus (intro _ _; simp [go_sem]; done)); iterate 2 rfl)
         | (apply H_cmp (b := false); (iterate 2 rfl); exact hce; iterate 2 rfl) | (apply H_move; iterate 3 rfl) | (apply H_loadpd; iterate 5 rfl)
         | (apply H_load; rfl; (first | exact I0 | exact I1 | exact I2 | exact I3 | exact I4 | exact I5 | exact I6); iterate 4 rfl) | (apply H_lensl; iterate 4 rfl)
         | (apply H_index; (iterate 4 rfl); (focus (first | exact ⟨by decide, rfl⟩ | (refine ⟨by omega, ?_⟩; rw [Int.toNat_natCast]; assumption))); iterate 2 rfl)
         | (apply H_lit; iterate 9 rfl) | ((with_reducible apply EH.nil); rfl))
       repeat
        (first
         | (apply P_bin; (iterate 2 rfl); exact hb; iterate 2 rfl) | (apply P_call (hR); rfl; exact RefineL.refl _ _; (focus (intro _ _; simp [go_sem]; done)); iterate 2 rfl)
         | (apply P_index; (iterate 4 rfl); exact ⟨by decide, hat⟩; iterate 2 rfl) | (apply P_move; iterate 3 rfl) | (apply P_assign; iterate 3 rfl)
         | (apply P_extract; iterate 4 rfl) | (apply P_loadpd; iterate 5 rfl) | (apply P_pick; iterate 4 rfl) | (apply P_not; iterate 3 rfl) | apply EL.nil
         | ((with_reducible apply EK.then_normal); apply EK.code) | (apply EC.cond_true; rfl) | (apply EC.cond_false; rfl)
         | (with_reducible first | apply EC.seq | apply EC.region | apply EC.skip | apply EC.ret | apply EK.in_ret | apply EK.then_ret))
       exact EK.retM3 [] rfl rfl rfl rfl (by (repeat first | exact RefineL.refl _ _ | exact RL.nil | exact Rf.same | exact Rf.bs0 | exact Rf.sl0 | (apply Rf.fact; (focus (simp; done)); rfl) | apply Rf.tup | apply RL.cons)) (by (repeat first | exact RefineL.refl _ _ | exact RL.nil | exact Rf.same | exact Rf.bs0 | exact Rf.sl0 | (apply Rf.fact; (focus (simp; done)); rfl) | apply Rf.tup | apply RL.cons)) (by (repeat first | exact RefineL.refl _ _ | exact RL.nil | exact Rf.same | exact Rf.bs0 | exact Rf.sl0 | (apply Rf.fact; (focus (simp; done)); rfl) | apply Rf.tup | apply RL.cons)) (List.nil_sublist _) ⟨rfl, rfl⟩
     ·
      rw [if_neg he] at hch
      subst hch
      rw [show (hash b != bts y) = true by simp [he]] at hb
      repeat
       (first
        | (apply P_bin; (iterate 2 rfl); exact hnn; iterate 2 rfl) | (apply P_move; iterate 3 rfl) | (apply P_assign; iterate 3 rfl) | (apply P_extract; iterate 4 rfl)
        | (apply P_asYes; iterate 4 rfl) | (apply P_alloc; rfl; rfl; rfl; intro _)
        | (apply P_store; rfl; (focus (repeat first | exact .z | apply SetAt.s | apply SetAtF.s)); iterate 4 rfl) | apply EL.nil | ((with_reducible apply EK.then_normal); apply EK.code)
        | (apply EC.cond_true; rfl) | (with_reducible first | apply EC.seq | apply EC.region | apply EC.skip | apply EC.block))
      refine EC.draw 10 (by kernel_rfl) ?_
      simp only [List.take_succ_cons, List.take_zero, List.drop_succ_cons, List.drop_zero]
      repeat
       (first
        | (apply H_call (hK); rfl; exact RefineL.refl _ _; (focus (intro _ _; simp [go_sem]; done)); iterate 2 rfl)
        | (apply H_cmp (b := false); (iterate 2 rfl); exact hce; iterate 2 rfl) | (apply H_move; iterate 3 rfl) | (apply H_loadpd; iterate 5 rfl)
        | (apply H_load; rfl; (first | exact I0 | exact I1 | exact I2 | exact I3 | exact I4 | exact I5 | exact I6); iterate 4 rfl) | (apply H_lensl; iterate 4 rfl)
        | (apply H_index; (iterate 4 rfl); (focus (first | exact ⟨by decide, rfl⟩ | (refine ⟨by omega, ?_⟩; rw [Int.toNat_natCast]; assumption))); iterate 2 rfl)
        | (apply H_lit; iterate 9 rfl) | ((with_reducible apply EH.nil); rfl))
      repeat
       (first
        | (apply P_bin; (iterate 2 rfl); exact hb; iterate 2 rfl) | (apply P_assign; iterate 3 rfl) | (apply P_pick; iterate 4 rfl) | apply EL.nil
        | ((with_reducible apply EK.then_normal); apply EK.code) | (apply EC.cond_true; rfl) | (with_reducible first | apply EC.seq | apply EC.region | apply EC.ret | apply EK.in_ret | apply EK.then_ret))
      exact EK.retM3 [] rfl rfl rfl rfl (by (repeat first | exact RefineL.refl _ _ | exact RL.nil | exact Rf.same | exact Rf.bs0 | exact Rf.sl0 | (apply Rf.fact; (focus (simp; done)); rfl) | apply Rf.tup | apply RL.cons)) (by (repeat first | exact RefineL.refl _ _ | exact RL.nil | exact Rf.same | exact Rf.bs0 | exact Rf.sl0 | (apply Rf.fact; (focus (simp; done)); rfl) | apply Rf.tup | apply RL.cons)) (by (repeat first | exact RefineL.refl _ _ | exact RL.nil | exact Rf.same | exact Rf.bs0 | exact Rf.sl0 | (apply Rf.fact; (focus (simp; done)); rfl) | apply Rf.tup | apply RL.cons)) (List.nil_sublist _) ⟨rfl, rfl⟩
 ·
  rw [if_neg h0] at hI
  rw [show (root == root0) = false by simp [h0]] at hw
  repeat
   (first
    | (apply P_box; rfl; rfl; rfl; intro g; refine EL.le (Le.pin (p := 3) (pre := []) rfl rfl) ?_; simp only [List.nil_append]) | (apply P_assign; iterate 3 rfl)
    | (apply P_loadpd; iterate 5 rfl) | (apply P_mkifc; iterate 4 rfl) | apply EL.nil | ((with_reducible apply EK.then_normal); apply EK.code)
    | (with_reducible first | apply EC.seq | apply EC.region))
  refine EC.draw 2 (by kernel_rfl) ?_
  simp only [List.take_succ_cons, List.take_zero, List.drop_succ_cons, List.drop_zero]
  repeat
   (first
    | (apply H_call (hE); rfl; exact RefineL.refl _ _; (focus (intro _ _; simp [go_sem]; done)); iterate 2 rfl) | (apply H_loadpd; iterate 5 rfl)
    | ((with_reducible apply EH.nil); rfl))
  repeat
   (first
    | (apply P_bin; (iterate 2 rfl); exact hw; iterate 2 rfl) | (apply P_call (hS); rfl; exact RefineL.refl _ _; (focus (intro _ _; simp [go_sem]; done)); iterate 2 rfl)
    | (apply P_move; iterate 3 rfl) | (apply P_assign; iterate 3 rfl) | apply EL.nil | ((with_reducible apply EK.then_normal); apply EK.code) | (apply EC.cond_false; rfl)
    | (with_reducible first | apply EC.seq | apply EC.region | apply EC.skip | apply EC.block))
  refine EC.le (Le.refine (t := 10) (d' := .bs []) rfl Rf.bs0) ?_
  refine EC.loop (ι := {x : Nd × List UInt8 × List UInt8 × List (List UInt8) // ChkI tot x.1 x.2.1 x.2.2.1 x.2.2.2})
   (fun x => ⟨[(9, .val (dN x.1.1)), (11, .val (.bs x.1.2.1)), (10, .val (.bs x.1.2.2.1)), (2, .val (.sl 1 (x.1.2.2.2.map D.bs)))], [], []⟩)
   (fun x => msN x.1.1 x.1.2.1) ⟨(.hash root, p0, [], q), hI⟩ ?_ ?_
  ·
   dsimp only
   rw [dN]
   exact (Le.keep (by repeat first | exact trivial | refine ⟨rfl, ?_⟩) (by repeat first | exact List.nil_sublist _ | apply List.Sublist.cons_cons | apply List.Sublist.cons) (by simp))
  rintro ⟨⟨n, p, v, q⟩, hc⟩
  dsimp only at hc ⊢
  have hml : (q.map D.bs).length = q.length := List.length_map _
  have hnn := bin_nodeNe n
  rcases hc with ⟨rfl, ht, hvl⟩ | ⟨f, y, fu, ⟨hg, hyy⟩, hny, hch, hpf, hp⟩
  ·
   rw [show Nd.nil.isNil = true from rfl] at hnn
   rw [dN] at hnn ⊢
   by_cases hz : q.length = 0
   ·
    rw [if_pos hz] at ht
    subst ht
    obtain rfl : q = [] := List.eq_nil_of_length_eq_zero hz
    have hCl := f_Clone v (by omega)
    dsimp only
    by_cases hv : 0 < v.length
    ·
     rw [show decide (0 < v.length) = true by simp [hv]]
     have hc0 : cmpI .gtr (v.length : Int) 0 = some true := by
      simp only [cmpI, Option.some.injEq, decide_eq_true_eq]
      omega
     repeat
      (first
       | (apply P_bin; (iterate 2 rfl); exact hnn; iterate 2 rfl) | (apply P_call (hCl); rfl; exact RefineL.refl _ _; (focus (intro _ _; simp [go_sem]; done)); iterate 2 rfl)
       | (apply P_cmp (b := true); (iterate 2 rfl); exact hc0; iterate 2 rfl) | (apply P_move; iterate 3 rfl) | (apply P_assign; iterate 3 rfl)
       | (apply P_cmp (b := false); (iterate 2 rfl); (focus (first | (simp [cmpI]; done) | (simp [cmpI]; omega))); iterate 2 rfl) | (apply P_lenbs; iterate 4 rfl)
       | (apply P_lensl; iterate 4 rfl) | apply EL.nil | ((with_reducible apply EK.then_normal); apply EK.code) | (apply EC.cond_false; rfl)
       | (with_reducible first | apply EC.seq | apply EC.region | apply EC.skip | apply EC.exit | apply EC.ret | apply EK.in_same | apply EK.then_exit))
     exact EK.retM3 [] rfl rfl rfl rfl (by (repeat first | exact RefineL.refl _ _ | exact RL.nil | exact Rf.same | exact Rf.bs0 | exact Rf.sl0 | (apply Rf.fact; (focus (simp; done)); rfl) | apply Rf.tup | apply RL.cons)) (by (repeat first | exact RefineL.refl _ _ | exact RL.nil | exact Rf.same | exact Rf.bs0 | exact Rf.sl0 | (apply Rf.fact; (focus (simp; done)); rfl) | apply Rf.tup | apply RL.cons)) (by (repeat first | exact RefineL.refl _ _ | exact RL.nil | exact Rf.same | exact Rf.bs0 | exact Rf.sl0 | (apply Rf.fact; (focus (simp; done)); rfl) | apply Rf.tup | apply RL.cons)) (List.nil_sublist _) ⟨rfl, rfl⟩
    ·
     rw [show decide (0 < v.length) = false by simp [hv]]
     have hc0 : cmpI .gtr (v.length : Int) 0 = some false := by
      simp only [cmpI, Option.some.injEq, decide_eq_false_iff_not]
      omega
     repeat
      (first
       | (apply P_bin; (iterate 2 rfl); exact hnn; iterate 2 rfl) | (apply P_call (hCl); rfl; exact RefineL.refl _ _; (focus (intro _ _; simp [go_sem]; done)); iterate 2 rfl)
       | (apply P_cmp (b := false); (iterate 2 rfl); exact hc0; iterate 2 rfl) | (apply P_move; iterate 3 rfl) | (apply P_assign; iterate 3 rfl)
       | (apply P_cmp (b := false); (iterate 2 rfl); (focus (first | (simp [cmpI]; done) | (simp [cmpI]; omega))); iterate 2 rfl) | (apply P_lenbs; iterate 4 rfl)
       | (apply P_lensl; iterate 4 rfl) | apply EL.nil | ((with_reducible apply EK.then_normal); apply EK.code) | (apply EC.cond_false; rfl)
       | (with_reducible first | apply EC.seq | apply EC.region | apply EC.skip | apply EC.exit | apply EC.ret | apply EK.in_same | apply EK.then_exit))
     exact EK.retM3 [] rfl rfl rfl rfl (by (repeat first | exact RefineL.refl _ _ | exact RL.nil | exact Rf.same | exact Rf.bs0 | exact Rf.sl0 | (apply Rf.fact; (focus (simp; done)); rfl) | apply Rf.tup | apply RL.cons)) (by (repeat first | exact RefineL.refl _ _ | exact RL.nil | exact Rf.same | exact Rf.bs0 | exact Rf.sl0 | (apply Rf.fact; (focus (simp; done)); rfl) | apply Rf.tup | apply RL.cons)) (by (repeat first | exact RefineL.refl _ _ | exact RL.nil | exact Rf.same | exact Rf.bs0 | exact Rf.sl0 | (apply Rf.fact; (focus (simp; done)); rfl) | apply Rf.tup | apply RL.cons)) (List.nil_sublist _) ⟨rfl, rfl⟩
   ·
    rw [if_neg hz] at ht
    subst ht
    have hc0 : cmpI .gtr ((q.map D.bs).length : Int) 0 = some true := by
     simp only [cmpI, Option.some.injEq, decide_eq_true_eq]
     omega
    repeat
     (first
      | (apply P_bin; (iterate 2 rfl); exact hnn; iterate 2 rfl) | (apply P_cmp (b := true); (iterate 2 rfl); exact hc0; iterate 2 rfl) | (apply P_move; iterate 3 rfl)
      | (apply P_assign; iterate 3 rfl) | (apply P_lensl; iterate 4 rfl) | apply EL.nil | ((with_reducible apply EK.then_normal); apply EK.code) | (apply EC.cond_true; rfl)
      | (apply EC.cond_false; rfl) | (with_reducible first | apply EC.seq | apply EC.region | apply EC.exit | apply EC.ret | apply EK.in_same | apply EK.then_ret | apply EK.then_exit))
    exact EK.retM3 [] rfl rfl rfl rfl (by (repeat first | exact RefineL.refl _ _ | exact RL.nil | exact Rf.same | exact Rf.bs0 | exact Rf.sl0 | (apply Rf.fact; (focus (simp; done)); rfl) | apply Rf.tup | apply RL.cons)) (by (repeat first | exact RefineL.refl _ _ | exact RL.nil | exact Rf.same | exact Rf.bs0 | exact Rf.sl0 | (apply Rf.fact; (focus (simp; done)); rfl) | apply Rf.tup | apply RL.cons)) (by (repeat first | exact RefineL.refl _ _ | exact RL.nil | exact Rf.same | exact Rf.bs0 | exact Rf.sl0 | (apply Rf.fact; (focus (simp; done)); rfl) | apply Rf.tup | apply RL.cons)) (List.nil_sublist _) ⟨rfl, rfl⟩
  ·
   obtain ⟨fu, rfl⟩ : ∃ n, fu = n + 1 := ⟨fu - 1, by omega⟩
   rcases hyy with ⟨hl, hn, h32⟩ | ⟨hl, h32⟩
   ·
    have hrf : (refF (nodeF f) y).1 = (nodeF f y).1 := by rw [refF_list hg hl, if_pos h32]
    obtain rfl := hny.trans hrf
    rw [chk_list fu hl] at hch
    have hok : (nodeF f y).2 = true := by rw [nodeF_isN f y hg, hn]
    have hni := nodeF_some f y hok
    have hst := f_step (nodeF f y).1 p hp
    obtain ⟨hnx, hms⟩ := chkI_next hg hn hp (by omega) hch
    obtain ⟨T, d, ed, hne⟩ := dN_ifc hni (nodeF_nohash f y)
    have hmm : msN (stepN (nodeF f y).1 p).1 (stepN (nodeF f y).1 p).2.1 < msN (nodeF f y).1 p := by
     unfold msN
     rw [hni, if_neg Bool.false_ne_true]
     rcases hms with h | h
     ·
      rw [if_pos h]
      omega
     · split <;> omega
    rw [hni] at hnn
    rw [ed] at hst hnn ⊢
    unfold stepD at hst
    generalize stepN (nodeF f y).1 p = s at *
    obtain ⟨n2, p2, v2⟩ := s
    dsimp only at hst hnx hmm
    repeat
     (first
      | (apply P_bin; (iterate 2 rfl); exact hnn; iterate 2 rfl) | (apply P_call (hst); rfl; exact RefineL.refl _ _; (focus (intro _ _; simp [go_sem]; done)); iterate 2 rfl)
      | (apply P_asNo; rfl; rfl; exact hne; iterate 3 rfl) | (apply P_move; iterate 3 rfl) | (apply P_assign; iterate 3 rfl) | (apply P_extract; iterate 4 rfl)
      | (apply P_alloc; rfl; rfl; rfl; intro _) | (apply P_store; rfl; (focus (repeat first | exact .z | apply SetAt.s | apply SetAtF.s)); iterate 4 rfl) | apply EL.nil
      | ((with_reducible apply EK.then_normal); apply EK.code) | (apply EC.cond_true; rfl) | (apply EC.cond_false; rfl)
      | (with_reducible first | apply EC.seq | apply EC.region | apply EC.skip | apply EC.block | apply EK.in_normal))
    refine EK.again ⟨(n2, p2, v2, q), hnx⟩ (by exact hmm) ?_
    exact (Le.keep (by repeat first | exact trivial | refine ⟨rfl, ?_⟩) (by repeat first | exact List.nil_sublist _ | apply List.Sublist.cons_cons | apply List.Sublist.cons) (by simp))
   ·
    have hrf : (refF (nodeF f) y).1 = .hash (bts y) := by
     unfold refF
     rw [hl, if_neg Bool.false_ne_true, if_neg (by omega), if_pos h32]
    obtain rfl := hny.trans hrf
    rw [show (Nd.hash (bts y)).isNil = false from rfl] at hnn
    rw [dN] at hnn ⊢
    cases q with
    | nil =>
     rw [chk_hash0 fu hl] at hch
     subst hch
     repeat
      (first
       | (apply P_bin; (iterate 2 rfl); exact hnn; iterate 2 rfl) | (apply P_move; iterate 3 rfl) | (apply P_assign; iterate 3 rfl) | (apply P_extract; iterate 4 rfl)
       | (apply P_asYes; iterate 4 rfl) | (apply P_alloc; rfl; rfl; rfl; intro _)
       | (apply P_store; rfl; (focus (repeat first | exact .z | apply SetAt.s | apply SetAtF.s)); iterate 4 rfl) | apply EL.nil | ((with_reducible apply EK.then_normal); apply EK.code)
       | (apply EC.cond_true; rfl) | (with_reducible first | apply EC.seq | apply EC.region | apply EC.skip | apply EC.block))
     refine EC.draw 10 (by kernel_rfl) ?_
     simp only [List.take_succ_cons, List.take_zero, List.drop_succ_cons, List.drop_zero]
     repeat
      (first
       | (apply H_skip; iterate 2 rfl) | (apply H_move; iterate 3 rfl)
       | (apply H_cmp (b := true); (iterate 2 rfl); (focus (first | (simp [cmpI]; done) | (simp [cmpI]; omega))); iterate 2 rfl) | (apply H_lensl; iterate 4 rfl)
       | ((with_reducible apply EH.nil); rfl))
     repeat
      (first
       | (apply P_skip; iterate 2 rfl) | (apply P_assign; iterate 3 rfl) | (apply P_pick; iterate 4 rfl) | apply EL.nil | ((with_reducible apply EK.then_normal); apply EK.code)
       | (apply EC.cond_true; rfl) | (with_reducible first | apply EC.seq | apply EC.region | apply EC.ret | apply EK.in_ret | apply EK.then_ret))
     exact EK.retM3 [] rfl rfl rfl rfl (by (repeat first | exact RefineL.refl _ _ | exact RL.nil | exact Rf.same | exact Rf.bs0 | exact Rf.sl0 | (apply Rf.fact; (focus (simp; done)); rfl) | apply Rf.tup | apply RL.cons)) (by (repeat first | exact RefineL.refl _ _ | exact RL.nil | exact Rf.same | exact Rf.bs0 | exact Rf.sl0 | (apply Rf.fact; (focus (simp; done)); rfl) | apply Rf.tup | apply RL.cons)) (by (repeat first | exact RefineL.refl _ _ | exact RL.nil | exact Rf.same | exact Rf.bs0 | exact Rf.sl0 | (apply Rf.fact; (focus (simp; done)); rfl) | apply Rf.tup | apply RL.cons)) (List.nil_sublist _) ⟨rfl, rfl⟩
    | cons b q =>
     rw [chk_hash1 fu hl] at hch
     have hK := f_kSum1 b
     have hb := (bin_word (hash b) (bts y)).2
     have hce : cmpI .eql (((b :: q).map D.bs).length : Int) 0 = some false := by
      have : ((b :: q).map D.bs).length = q.length + 1 := by simp
      simp only [cmpI, Option.some.injEq, beq_eq_false_iff_ne]
      omega
     have hat : ((b :: q).map D.bs)[0]? = some (.bs b) := rfl
     have hdr : ((b :: q).map D.bs).drop 1 = q.map D.bs := rfl
     by_cases he : hash b = bts y
     ·
      rw [if_pos he] at hch
      rw [show (hash b != bts y) = false by simp [he]] at hb
      have hR := f_sRead b
      have hgx := rdX_gdA b
      by_cases hok : rdE b = 0 ∧ isN 40 (rdX b) = true
      ·
       rw [if_pos hok] at hch
       have hrd : rdNd b = ((nodeF 40 (rdX b)).1, true) := by
        unfold rdNd
        rw [if_pos hok, ← hok.2, ← nodeF_isN 40 (rdX b) hgx]
       rw [hrd] at hR
       unfold nodeD at hR
       obtain ⟨hnx, hms⟩ := chkI_next hgx hok.2 hp (by omega) hch
       have hst := f_step (nodeF 40 (rdX b)).1 p hp
       have hmm : msN (stepN (nodeF 40 (rdX b)).1 p).1 (stepN (nodeF 40 (rdX b)).1 p).2.1 < msN (.hash (bts y)) p := by
        unfold msN
        rw [show (Nd.hash (bts y)).isNil = false from rfl, if_neg Bool.false_ne_true]
        rcases hms with h | h
        ·
         rw [if_pos h]
         omega
        · split <;> omega
       dsimp only at hR
       unfold stepD at hst
       generalize stepN (nodeF 40 (rdX b)).1 p = s at *
       generalize (nodeF 40 (rdX b)).1 = nd at *
       obtain ⟨n2, p2, v2⟩ := s
       dsimp only at hst hnx hmm
       repeat
        (first
         | (apply P_bin; (iterate 2 rfl); exact hnn; iterate 2 rfl) | (apply P_move; iterate 3 rfl) | (apply P_assign; iterate 3 rfl) | (apply P_extract; iterate 4 rfl)
         | (apply P_asYes; iterate 4 rfl) | (apply P_alloc; rfl; rfl; rfl; intro _)
         | (apply P_store; rfl; (focus (repeat first | exact .z | apply SetAt.s | apply SetAtF.s)); iterate 4 rfl) | apply EL.nil | ((with_reducible apply EK.then_normal); apply EK.code)
         | (apply EC.cond_true; rfl) | (with_reducible first | apply EC.seq | apply EC.region | apply EC.skip | apply EC.block))
       refine EC.draw 10 (by kernel_rfl) ?_
       simp only [List.take_succ_cons, List.take_zero, List.drop_succ_cons, List.drop_zero]
       repeat
        (first
         | (apply H_call (hK); rfl; exact RefineL.refl _ _; (focus (intro _ _; simp [go_sem]; done)); iterate 2 rfl)
         | (apply H_cmp (b := false); (iterate 2 rfl); exact hce; iterate 2 rfl) | (apply H_move; iterate 3 rfl) | (apply H_loadpd; iterate 5 rfl)
         | (apply H_load; rfl; (first | exact I0 | exact I1 | exact I2 | exact I3 | exact I4 | exact I5 | exact I6); iterate 4 rfl) | (apply H_lensl; iterate 4 rfl)
         | (apply H_index; (iterate 4 rfl); (focus (first | exact ⟨by decide, rfl⟩ | (refine ⟨by omega, ?_⟩; rw [Int.toNat_natCast]; assumption))); iterate 2 rfl)
         | (apply H_lit; iterate 9 rfl) | ((with_reducible apply EH.nil); rfl))
       repeat
        (first
         | (apply P_bin; (iterate 2 rfl); exact hb; iterate 2 rfl) | (apply P_call (hR); rfl; exact RefineL.refl _ _; (focus (intro _ _; simp [go_sem]; done)); iterate 2 rfl)
         | (apply P_index; (iterate 4 rfl); exact ⟨by decide, hat⟩; iterate 2 rfl) | (apply P_move; iterate 3 rfl) | (apply P_assign; iterate 3 rfl)
         | (apply P_extract; iterate 4 rfl) | (apply P_loadpd; iterate 5 rfl) | (apply P_pick; iterate 4 rfl) | (apply P_not; iterate 3 rfl) | apply EL.nil
         | ((with_reducible apply EK.then_normal); apply EK.code) | (apply EC.cond_false; rfl) | (with_reducible first | apply EC.seq | apply EC.region | apply EC.skip))
       refine EC.draw 4 (by kernel_rfl) ?_
       simp only [List.take_succ_cons, List.take_zero, List.drop_succ_cons, List.drop_zero]
       repeat
        (first
         | (apply H_slfrom; (iterate 3 rfl); exact ⟨by decide, (by simp)⟩; iterate 2 rfl) | (apply H_move; iterate 3 rfl) | (apply H_assign; iterate 3 rfl)
         | ((with_reducible apply EH.nil); rfl))
       repeat
        (first
         | (apply P_call (hst); rfl; exact RefineL.refl _ _; (focus (intro _ _; simp [go_sem]; done)); iterate 2 rfl) | (apply P_move; iterate 3 rfl)
         | (apply P_assign; iterate 3 rfl) | (apply P_extract; iterate 4 rfl) | apply EL.nil | ((with_reducible apply EK.then_normal); apply EK.code)
         | (with_reducible first | apply EC.region | apply EK.in_normal))
       refine EK.again ⟨(n2, p2, v2, q), hnx⟩ (by exact hmm) ?_
       exact (Le.keep (by repeat first | exact trivial | refine ⟨rfl, ?_⟩) (by repeat first | exact List.nil_sublist _ | apply List.Sublist.cons_cons | apply List.Sublist.cons) (by simp))
      ·
       rw [if_neg hok] at hch
       subst hch
       have hrd : rdNd b = (.nil, false) := by
        unfold rdNd
        rw [if_neg hok]
       rw [hrd] at hR
       unfold nodeD at hR
       dsimp only at hR
       repeat
        (first
         | (apply P_bin; (iterate 2 rfl); exact hnn; iterate 2 rfl) | (apply P_move; iterate 3 rfl) | (apply P_assign; iterate 3 rfl) | (apply P_extract; iterate 4 rfl)
         | (apply P_asYes; iterate 4 rfl) | (apply P_alloc; rfl; rfl; rfl; intro _)
         | (apply P_store; rfl; (focus (repeat first | exact .z | apply SetAt.s | apply SetAtF.s)); iterate 4 rfl) | apply EL.nil | ((with_reducible apply EK.then_normal); apply EK.code)
         | (apply EC.cond_true; rfl) | (with_reducible first | apply EC.seq | apply EC.region | apply EC.skip | apply EC.block))
       refine EC.draw 10 (by kernel_rfl) ?_
       simp only [List.take_succ_cons, List.take_zero, List.drop_succ_cons, List.drop_zero]
       repeat
        (first
         | (apply H_call (hK); rfl; exact RefineL.refl _ _; (focus (intro _ _; simp [go_sem]; done)); iterate 2 rfl)
         | (apply H_cmp (b := false); (iterate 2 rfl); exact hce; iterate 2 rfl) | (apply H_move; iterate 3 rfl) | (apply H_loadpd; iterate 5 rfl)
         | (apply H_load; rfl; (first | exact I0 | exact I1 | exact I2 | exact I3 | exact I4 | exact I5 | exact I6); iterate 4 rfl) | (apply H_lensl; iterate 4 rfl)
         | (apply H_index; (iterate 4 rfl); (focus (first | exact ⟨by decide, rfl⟩ | (refine ⟨by omega, ?_⟩; rw [Int.toNat_natCast]; assumption))); iterate 2 rfl)
         | (apply H_lit; iterate 9 rfl) | ((with_reducible apply EH.nil); rfl))
       repeat
        (first
         | (apply P_bin; (iterate 2 rfl); exact hb; iterate 2 rfl) | (apply P_call (hR); rfl; exact RefineL.refl _ _; (focus (intro _ _; simp [go_sem]; done)); iterate 2 rfl)
         | (apply P_index; (iterate 4 rfl); exact ⟨by decide, hat⟩; iterate 2 rfl) | (apply P_move; iterate 3 rfl) | (apply P_assign; iterate 3 rfl)
         | (apply P_extract; iterate 4 rfl) | (apply P_loadpd; iterate 5 rfl) | (apply P_pick; iterate 4 rfl) | (apply P_not; iterate 3 rfl) | apply EL.nil
         | ((with_reducible apply EK.then_normal); apply EK.code) | (apply EC.cond_true; rfl) | (apply EC.cond_false; rfl)
         | (with_reducible first | apply EC.seq | apply EC.region | apply EC.skip | apply EC.ret | apply EK.in_ret | apply EK.then_ret))
       exact EK.retM3 [] rfl rfl rfl rfl (by (repeat first | exact RefineL.refl _ _ | exact RL.nil | exact Rf.same | exact Rf.bs0 | exact Rf.sl0 | (apply Rf.fact; (focus (simp; done)); rfl) | apply Rf.tup | apply RL.cons)) (by (repeat first | exact RefineL.refl _ _ | exact RL.nil | exact Rf.same | exact Rf.bs0 | exact Rf.sl0 | (apply Rf.fact; (focus (simp; done)); rfl) | apply Rf.tup | apply RL.cons)) (by (repeat first | exact RefineL.refl _ _ | exact RL.nil | exact Rf.same | exact Rf.bs0 | exact Rf.sl0 | (apply Rf.fact; (focus (simp; done)); rfl) | apply Rf.tup | apply RL.cons)) (List.nil_sublist _) ⟨rfl, rfl⟩
     ·
      rw [if_neg he] at hch
      subst hch
      rw [show (hash b != bts y) = true by simp [he]] at hb
      repeat
       (first
        | (apply P_bin; (iterate 2 rfl); exact hnn; iterate 2 rfl) | (apply P_move; iterate 3 rfl) | (apply P_assign; iterate 3 rfl) | (apply P_extract; iterate 4 rfl)
        | (apply P_asYes; iterate 4 rfl) | (apply P_alloc; rfl; rfl; rfl; intro _)
        | (apply P_store; rfl; (focus (repeat first | exact .z | apply SetAt.s | apply SetAtF.s)); iterate 4 rfl) | apply EL.nil | ((with_reducible apply EK.then_normal); apply EK.code)
        | (apply EC.cond_true; rfl) | (with_reducible first | apply EC.seq | apply EC.region | apply EC.skip | apply EC.block))
      refine EC.draw 10 (by kernel_rfl) ?_
      simp only [List.take_succ_cons, List.take_zero, List.drop_succ_cons, List.drop_zero]
      repeat
       (first
        | (apply H_call (hK); rfl; exact RefineL.refl _ _; (focus (intro _ _; simp [go_sem]; done)); iterate 2 rfl)
        | (apply H_cmp (b := false); (iterate 2 rfl); exact hce; iterate 2 rfl) | (apply H_move; iterate 3 rfl) | (apply H_loadpd; iterate 5 rfl)
        | (apply H_load; rfl; (first | exact I0 | exact I1 | exact I2 | exact I3 | exact I4 | exact I5 | exact I6); iterate 4 rfl) | (apply H_lensl; iterate 4 rfl)
        | (apply H_index; (iterate 4 rfl); (focus (first | exact ⟨by decide, rfl⟩ | (refine ⟨by omega, ?_⟩; rw [Int.toNat_natCast]; assumption))); iterate 2 rfl)
        | (apply H_lit; iterate 9 rfl) | ((with_reducible apply EH.nil); rfl))
      repeat
       (first
        | (apply P_bin; (iterate 2 rfl); exact hb; iterate 2 rfl) | (apply P_assign; iterate 3 rfl) | (apply P_pick; iterate 4 rfl) | apply EL.nil
        | ((with_reducible apply EK.then_normal); apply EK.code) | (apply EC.cond_true; rfl) | (with_reducible first | apply EC.seq | apply EC.region | apply EC.ret | apply EK.in_ret | apply EK.then_ret))
      exact EK.retM3 [] rfl rfl rfl rfl (by (repeat first | exact RefineL.refl _ _ | exact RL.nil | exact Rf.same | exact Rf.bs0 | exact Rf.sl0 | (apply Rf.fact; (focus (simp; done)); rfl) | apply Rf.tup | apply RL.cons)) (by (repeat first | exact RefineL.refl _ _ | exact RL.nil | exact Rf.same | exact Rf.bs0 | exact Rf.sl0 | (apply Rf.fact; (focus (simp; done)); rfl) | apply Rf.tup | apply RL.cons)) (by (repeat first | exact RefineL.refl _ _ | exact RL.nil | exact Rf.same | exact Rf.bs0 | exact Rf.sl0 | (apply Rf.fact; (focus (simp; done)); rfl) | apply Rf.tup | apply RL.cons)) (List.nil_sublist _) ⟨rfl, rfl⟩
end E
end Go.Proofs.Ytiledgojbpmoiaa
