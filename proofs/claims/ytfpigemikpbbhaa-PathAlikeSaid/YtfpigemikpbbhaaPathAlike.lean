/-
  PathAlike: paths that go on unlike have just so much in common as they were made with, and what is packed apart is apart.
  Conditions: none; the lengths are tested by the law itself.
-/
import Derived.Test.YtfpigemikpbbhaaPathTells
import Derived.Test.YtfpigemikpbbhaaPathPlain
import Derived.Deep.DeepCutAuto
namespace Go.Proofs.Ytfpigemikpbbhaa
open Go.RowKit Mono

/-! ### The plain law -/
/-- Two paths do not go on alike. -/
def unlike : List UInt8 → List UInt8 → Bool
  | x :: _, y :: _ => decide (x ≠ y)
  | _, _ => true
theorem common_unlike (p a b : List UInt8) (h : unlike a b = true) : common (p ++ a) (p ++ b) = p.length := by
  induction p with
  | nil =>
    cases a with
    | nil => cases b <;> rfl
    | cons x a =>
      cases b with
      | nil => rfl
      | cons y b =>
        have : x ≠ y := by simpa [unlike] using h
        simp [common, this]
  | cons x p ih => simp [common, ih]
/-- All are half bytes. -/
def small (p : List UInt8) : Bool := p.all fun x => decide (x.toNat ≤ 15)
theorem joinL_some_iff (p : List UInt8) (hp : p.length % 2 = 0) : (joinL p).isSome = small p := by
  unfold small
  rw [Bool.eq_iff_iff]
  constructor
  · intro h
    obtain ⟨m, hm⟩ := Option.isSome_iff_exists.1 h
    have := split_join p m hm
    rw [List.all_eq_true]
    intro x hx
    rw [← this] at hx
    simpa using split_small m x hx
  · intro h
    rw [List.all_eq_true] at h
    obtain ⟨m, hm⟩ := join_some p hp fun x hx => by simpa using h x hx
    rw [hm]
    rfl
theorem pack_some (p : List UInt8) (leaf : Bool) : (joinL (hdr p leaf ++ p)).isSome = small p := by
  rw [joinL_some_iff _ (hdr_even p leaf)]
  unfold small
  rw [List.all_append]
  have : (hdr p leaf).all (fun x => decide (x.toNat ≤ 15)) = true := by
    rw [List.all_eq_true]
    intro x hx
    simpa using hdr_small p leaf x hx
  rw [this, Bool.true_and]
theorem twice_some (p : List UInt8) : (joinL (p ++ p)).isSome = small p := by
  rw [joinL_some_iff _ (by simp; omega)]
  unfold small
  rw [List.all_append, Bool.and_self]
theorem pack_leaf (p u v : List UInt8) (hu : joinL (hdr p true ++ p) = some u) (hv : joinL (hdr p false ++ p) = some v) : u ≠ v := by
  rintro rfl
  have h1 := split_join _ _ hu
  have h2 := split_join _ _ hv
  rw [h1] at h2
  have := List.append_cancel_right h2
  unfold hdr at this
  split at this <;> simp at this
theorem pack_inj (p q u v : List UInt8) (hu : joinL (hdr p true ++ p) = some u) (hv : joinL (hdr q true ++ q) = some v) : u = v ↔ p = q := by
  constructor
  · rintro rfl
    have h1 := split_join _ _ hu
    have h2 := split_join _ _ hv
    rw [h1] at h2
    unfold hdr at h2
    by_cases hp : p.length % 2 = 1 <;> by_cases hq : q.length % 2 = 1 <;> simp [hp, hq] at h2 <;> first | exact h2 | exact absurd h2.1 (by decide) | skip
  · rintro rfl
    rw [hu] at hv
    exact Option.some.inj hv

/-! ### The walk -/
theorem gr_append_nil {w w' : World} (h : w.grownBy w' (Value.slice none 0 0).ownBlock) : Gr w w' := (Below.refl _ _).grown h (Nat.le_refl _) fun j hj => by simp [Value.ownBlock] at hj
theorem gr_append_own {w w2 w3 : World} {e : TypeId} {s n : Nat} {v : Value} {xs : List Value} (hg : Gr w w2) (hown : w2.ownsRow w.heap.size e s v n xs) (h : w2.grownBy w3 v.ownBlock) : Gr w w3 := hg.grown h hg.size fun j hj => own_block_ge hown j hj
theorem isB_rd {w : World} {A : Option Addr} {n c : Nat} {l : List UInt8} (h : IsB w (.slice A n c) l) : n = l.length ∧ Rd w w.heap.size A (bvs l) := by
  obtain ⟨A', c', hv, _, _, hr⟩ := h
  injection hv with h1 h2 h3
  subst h1 h2
  exact ⟨rfl, hr⟩

set_option maxRecDepth 100000 in
set_option maxHeartbeats 4000000 in
theorem alike_small (v0 v1 v2 : Value) (p a b : List UInt8) (w : World) (h0 : IsB w v0 p) (h1 : IsB w v1 a) (h2 : IsB w v2 b) (hp : p.length ≤ 100) (ha : a.length ≤ 100) (hb : b.length ≤ 100) (hu : unlike a b = true) :
    Calls Try.prog 3 #[v0, v1, v2] w (Ret (eqV (.bool true)) w) := by
  obtain ⟨A0, c0, rfl, _, _, r0⟩ := h0
  obtain ⟨A1, c1, rfl, _, _, r1⟩ := h1
  obtain ⟨A2, c2, rfl, _, _, r2⟩ := h2
  have R0 := Lib.hid r0
  have R1 := Lib.hid r1
  have R2 := Lib.hid r2
  have HU := Lib.hid hu
  clear r0 r1 r2 hu
  go_enter Try.func3, Try.ntmps3
  go_wp2_with fail
  refine (path_alive _).mono ?_
  rintro e w1 ⟨_, rfl, hg1, rfl⟩
  go_upto_region 2 with (fail)
  go_cut [56] (fun s wx => ∃ W2 : World, W2 = wx ∧ s = .bool false ∧ Gr w1 W2)
  case first =>
    have dp : decide (100 < (p.length : Int)) = false := decide_eq_false (by omega)
    have da : decide (100 < (a.length : Int)) = false := decide_eq_false (by omega)
    have db : decide (100 < (b.length : Int)) = false := decide_eq_false (by omega)
    by_cases ha0 : a.length = 0
    · clear da
      refine wp_region_N 36 (by kernel_rfl) (by kernel_rfl) (by kernel_rfl) ?_
      simp only [List.take_succ_cons, List.take_zero, List.drop_succ_cons, List.drop_zero]
      refine wpN_quiet 36 (by kernel_rfl) ?_
      simp only [List.take_succ_cons, List.take_zero, List.drop_succ_cons, List.drop_zero]
      repeat (go_big_quiet_step (fail))
      refine wpQuiet_nil ?_
      refine wpN_nil (by kernel_rfl) ?_
      intro W hW
      replace hW := hW.gr
      unfold finN
      go_wp2_with fail
      go_meet
      exact ⟨_, rfl, rfl, hW⟩
    · have d1 : decide (0 < (a.length : Int)) = true := decide_eq_true (by omega)
      by_cases hb0 : b.length = 0
      · have la : 0 < a.length := by omega
        clear db ha0
        refine wp_region_N 36 (by kernel_rfl) (by kernel_rfl) (by kernel_rfl) ?_
        simp only [List.take_succ_cons, List.take_zero, List.drop_succ_cons, List.drop_zero]
        refine wpN_quiet 36 (by kernel_rfl) ?_
        simp only [List.take_succ_cons, List.take_zero, List.drop_succ_cons, List.drop_zero]
        repeat (go_big_quiet_step (fail))
        refine wpQuiet_nil ?_
        refine wpN_nil (by kernel_rfl) ?_
        intro W hW
        replace hW := hW.gr
        unfold finN
        go_wp2_with fail
        go_meet
        exact ⟨_, rfl, rfl, hW⟩
      · have d2 : decide (0 < (b.length : Int)) = true := decide_eq_true (by omega)
        have la : 0 < a.length := by omega
        have lb : 0 < b.length := by omega
        clear ha0 hb0
        obtain ⟨g1, o1, rfl, hh1, cc1⟩ := R1.out (by intro e; have := bvs_length a; rw [e] at this; simp at this; omega)
        obtain ⟨g2, o2, rfl, hh2, cc2⟩ := R2.out (by intro e; have := bvs_length b; rw [e] at this; simp at this; omega)
        have k1 := later_cell (w := w1) (p := ⟨g1, o1 + 0, none⟩) (by have := hg1.size; exact Nat.lt_of_lt_of_le hh1 this) ((hg1.cell (p := ⟨g1, o1 + 0, none⟩) hh1).trans (cc1 0 _ (bvs_at a 0 la)))
        have k2 := later_cell (w := w1) (p := ⟨g2, o2 + 0, none⟩) (by have := hg1.size; exact Nat.lt_of_lt_of_le hh2 this) ((hg1.cell (p := ⟨g2, o2 + 0, none⟩) hh2).trans (cc2 0 _ (bvs_at b 0 lb)))
        have hxy : a[0] ≠ b[0] := by
          cases a with
          | nil => simp at la
          | cons x a =>
            cases b with
            | nil => simp at lb
            | cons y b => simpa [unlike] using HU.out
        have hne : ((a[0].toNat : Int) == (b[0].toNat : Int)) = false := by rw [u8_beq]; simpa using hxy
        unfold bv at k1 k2
        generalize (a[0].toNat : Int) = x at k1 hne
        generalize (b[0].toNat : Int) = y at k2 hne
        simp only [Nat.add_zero] at k1 k2
        clear cc1 cc2 hxy
        refine wp_region_N 36 (by kernel_rfl) (by kernel_rfl) (by kernel_rfl) ?_
        simp only [List.take_succ_cons, List.take_zero, List.drop_succ_cons, List.drop_zero]
        refine wpN_quiet 36 (by kernel_rfl) ?_
        simp only [List.take_succ_cons, List.take_zero, List.drop_succ_cons, List.drop_zero]
        repeat (go_big_quiet_step (fail))
        refine wpQuiet_nil ?_
        refine wpN_nil (by kernel_rfl) ?_
        intro W hW
        replace hW := hW.gr
        unfold finN
        go_wp2_with fail
        go_meet
        exact ⟨_, rfl, rfl, hW⟩
  case rest =>
    obtain ⟨W2, rfl, rfl, hg2⟩ := hcut
    have G2 := Gr.trans hg1 hg2
    have R0b := Lib.hid (R0.out.gr G2)
    have R1b := Lib.hid (R1.out.gr G2)
    have R2b := Lib.hid (R2.out.gr G2)
    -- x
    go_wp2_with (first
      | (at_builtin; refine wpL_append (.const (.slice none 0 0)) (.tmp 58) 22 slT_bytes (.slice none 0 0) 0 [] A0 p.length c0 W2.heap.size (bvs p) rfl rfl rfl rfl (World.ownsRow_nil _ W2.heap.size _ _) R0b.out (by rw [bvs_length]; omega) (bvs_one _) (by simp only [maxLen]; omega) (by omega) (Nat.le_refl _) ?_; intro A3 c3 w3 hown3 hg3 _; have gr3 := gr_append_nil hg3; simp only [Nat.zero_add, List.nil_append] at hown3; have R1c := Lib.hid (R1b.out.gr gr3))
      | (at_builtin; refine wpL_append (.tmp 59) (.tmp 60) 22 slT_bytes (.slice A3 p.length c3) p.length (bvs p) A1 a.length c1 w3.heap.size (bvs a) rfl rfl rfl rfl hown3 R1c.out (by rw [bvs_length]; omega) (bvs_one _) (by simp only [maxLen]; omega) (by omega) gr3.size ?_; intro A4 c4 w4 hown4 hg4 _; have gr4 := gr_append_own gr3 hown3 hg4; have I8 := Lib.hid (ownB_of hown4 (bvs_append p a).symm).isB; clear hown3 hown4 hg3 hg4 gr3 R1c; have R0d := Lib.hid (R0b.out.gr gr4); have R2d := Lib.hid (R2b.out.gr gr4))
      | (at_builtin; refine wpL_append (.const (.slice none 0 0)) (.tmp 62) 22 slT_bytes (.slice none 0 0) 0 [] A0 p.length c0 w4.heap.size (bvs p) rfl rfl rfl rfl (World.ownsRow_nil _ w4.heap.size _ _) R0d.out (by rw [bvs_length]; omega) (bvs_one _) (by simp only [maxLen]; omega) (by omega) (Nat.le_refl _) ?_; intro A5 c5 w5 hown5 hg5 _; have gr5 := gr_append_nil hg5; simp only [Nat.zero_add, List.nil_append] at hown5; have R2e := Lib.hid (R2d.out.gr gr5))
      | (at_builtin; refine wpL_append (.tmp 63) (.tmp 64) 22 slT_bytes (.slice A5 p.length c5) p.length (bvs p) A2 b.length c2 w5.heap.size (bvs b) rfl rfl rfl rfl hown5 R2e.out (by rw [bvs_length]; omega) (bvs_one _) (by simp only [maxLen]; omega) (by omega) gr5.size ?_; intro A6 c6 w6 hown6 hg6 _; have gr6 := gr_append_own gr5 hown5 hg6; have I9 := Lib.hid (ownB_of hown6 (bvs_append p b).symm).isB; clear hown5 hown6 hg5 hg6 gr5 R2e))
    have I86 := Lib.hid (I8.out.gr gr6)
    have G6 := Gr.trans G2 (Gr.trans gr4 gr6)
    clear R0b R1b R2b R0d R2d I8 R0 R1 R2
    refine (path_pack _ _ true _ I86.out (by simp; omega)).mono ?_
    rintro e w7 ⟨_, rfl, hg7, v10, rfl, h10⟩
    rw [pack_some]
    have I87 := Lib.hid (I86.out.gr hg7)
    have I97 := Lib.hid (I9.out.gr hg7)
    clear I86 I9
    go_wp2_with fail
    refine (path_pack _ _ false _ I87.out (by simp; omega)).mono ?_
    rintro e w8 ⟨_, rfl, hg8, v12, rfl, h12⟩
    rw [pack_some]
    have I98 := Lib.hid (I97.out.gr hg8)
    have I88 := Lib.hid (I87.out.gr hg8)
    clear I97 I87
    go_wp2_with fail
    refine (path_pack _ _ true _ I98.out (by simp; omega)).mono ?_
    rintro e w9 ⟨_, rfl, hg9, v14, rfl, h14⟩
    rw [pack_some]
    have I99 := Lib.hid (I98.out.gr hg9)
    have I89 := Lib.hid (I88.out.gr hg9)
    clear I98 I88
    have G9 := Gr.trans G6 (Gr.trans hg7 (Gr.trans hg8 hg9))
    have P1 := pack_some (p ++ a) true
    have P2 := pack_some (p ++ a) false
    have P3 := pack_some (p ++ b) true
    have T1 := twice_some (p ++ a)
    have T2 := twice_some (p ++ b)
    generalize small (p ++ a) = sx at P1 P2 T1 ⊢
    generalize small (p ++ b) = sy at P3 T2 ⊢
    have X8 := isB_rd I89.out
    have Y8 := isB_rd I99.out
    have RX := Lib.hid X8.2
    have RY := Lib.hid Y8.2
    clear X8 Y8
    by_cases hs : sx = true ∧ sy = true
    · obtain ⟨rfl, rfl⟩ := hs
      obtain ⟨u, hu⟩ := Option.isSome_iff_exists.1 P1
      obtain ⟨v, hv⟩ := Option.isSome_iff_exists.1 P2
      obtain ⟨x, hx⟩ := Option.isSome_iff_exists.1 P3
      rw [hu] at h10
      rw [hv] at h12
      rw [hx] at h14
      simp only [Option.getD_some] at h10 h12 h14
      have k10 := (h10.isB.gr hg8).gr hg9
      have k12 := h12.isB.gr hg9
      have k14 := h14.isB
      have hne : ((bs u).toList == (bs v).toList) = false := by rw [bs_beq]; exact decide_eq_false (pack_leaf _ _ _ hu hv)
      have heq1 : ((bs u).toList == (bs x).toList) = decide (p ++ a = p ++ b) := by rw [bs_beq]; exact decide_eq_decide.2 (pack_inj _ _ _ _ hu hx)
      have heq2 := bs_beq (p ++ a) (p ++ b)
      generalize decide (p ++ a = p ++ b) = D at heq1 heq2
      have hcm := common_unlike p a b HU.out
      have HC := Lib.hid hcm
      have HK := Lib.hid (path_common _ _ _ _ w9 I89.out I99.out)
      clear P1 P2 P3 T1 T2 hu hv hx h10 h12 h14 hcm hg7 hg8 hg9 gr4 gr6 G2 G6 HU RX RY
      go_wp2_with fail
      refine HK.out.mono ?_
      rintro e w10 ⟨rfl, kk, hw10⟩
      have g10 : Gr w9 w10 := by rw [hw10]; exact below_drewN (Gr.refl _) kk
      clear hw10
      rw [HC.out]
      have c10 := conv_bytes (k10.gr g10)
      have c12 := conv_bytes (k12.gr g10)
      have c14 := conv_bytes (k14.gr g10)
      have c8 := conv_bytes (I89.out.gr g10)
      have c9 := conv_bytes (I99.out.gr g10)
      clear k10 k12 k14
      go_wp2
      refine bodyPost_ret (results_tmp rfl _ _ _) rfl ?_
      exact ⟨_, rfl, Gr.trans G9 g10, rfl⟩
    · have hs' : (!sx || !sy) = true := by cases sx <;> cases sy <;> simp at hs ⊢
      clear P1 P2 P3 h10 h12 h14 hg7 hg8 hg9 gr4 gr6 G2 G6 HU
      have hT1 := Lib.hid T1
      have hT2 := Lib.hid T2
      clear T1 T2
      clear hs'
      cases sx
      · clear hs
        go_wp2_with (first
      | (at_builtin; refine wpL_append (.const (.slice none 0 0)) (.tmp 92) 22 slT_bytes (.slice none 0 0) 0 [] A4 (p.length + a.length) c4 w9.heap.size (bvs (p ++ a)) rfl rfl rfl rfl (World.ownsRow_nil _ w9.heap.size _ _) RX.out (by rw [bvs_length]; simp) (bvs_one _) (by simp only [maxLen]; omega) (by omega) (Nat.le_refl _) ?_; intro A11 c11 w10 hown11 hg11 _; have gr11 := gr_append_nil hg11; simp only [Nat.zero_add, List.nil_append] at hown11; have R11 := Lib.hid (RX.out.gr gr11))
      | (at_builtin; refine wpL_append (.tmp 93) (.tmp 94) 22 slT_bytes (.slice A11 (p.length + a.length) c11) (p.length + a.length) (bvs (p ++ a)) A4 (p.length + a.length) c4 w10.heap.size (bvs (p ++ a)) rfl rfl rfl rfl hown11 R11.out (by rw [bvs_length]; simp) (bvs_one _) (by simp only [maxLen]; omega) (by omega) gr11.size ?_; intro B11 d11 w11 hownb11 hgb11 _; have grb11 := gr_append_own gr11 hown11 hgb11; have J16 := Lib.hid (ownB_of hownb11 (bvs_append _ _).symm).isB; clear hown11 hownb11 hg11 hgb11 gr11 R11)
          | (go_at_call 19; refine (ref_join _ _ _ J16.out (by simp; omega)).mono ?_; rintro e w12 ⟨_, rfl, hg12, v16, rfl, h16⟩; rw [hT1.out]; have g12 := Gr.trans grb11 hg12; have RY2 := Lib.hid ((I99.out.gr g12)); have RY2 := Lib.hid (isB_rd RY2.out).2; clear J16 h16)
      | (at_builtin; refine wpL_append (.const (.slice none 0 0)) (.tmp 100) 22 slT_bytes (.slice none 0 0) 0 [] A6 (p.length + b.length) c6 w12.heap.size (bvs (p ++ b)) rfl rfl rfl rfl (World.ownsRow_nil _ w12.heap.size _ _) RY2.out (by rw [bvs_length]; simp) (bvs_one _) (by simp only [maxLen]; omega) (by omega) (Nat.le_refl _) ?_; intro A13 c13 w14 hown13 hg13 _; have gr13 := gr_append_nil hg13; simp only [Nat.zero_add, List.nil_append] at hown13; have R13 := Lib.hid (RY2.out.gr gr13))
      | (at_builtin; refine wpL_append (.tmp 101) (.tmp 102) 22 slT_bytes (.slice A13 (p.length + b.length) c13) (p.length + b.length) (bvs (p ++ b)) A6 (p.length + b.length) c6 w14.heap.size (bvs (p ++ b)) rfl rfl rfl rfl hown13 R13.out (by rw [bvs_length]; simp) (bvs_one _) (by simp only [maxLen]; omega) (by omega) gr13.size ?_; intro B13 d13 w15 hownb13 hgb13 _; have grb13 := gr_append_own gr13 hown13 hgb13; have J18 := Lib.hid (ownB_of hownb13 (bvs_append _ _).symm).isB; clear hown13 hownb13 hg13 hgb13 gr13 R13)
          | (go_at_call 19; refine (ref_join _ _ _ J18.out (by simp; omega)).mono ?_; rintro e w16 ⟨_, rfl, hg16, v18, rfl, h18⟩; rw [hT2.out]; have g16 := Gr.trans g12 (Gr.trans grb13 hg16); clear J18 h18))
        refine bodyPost_ret (results_tmp rfl _ _ _) rfl ?_
        exact ⟨_, rfl, Gr.trans G9 g16, rfl⟩
      · obtain rfl : sy = false := by cases sy <;> simp at hs ⊢
        clear hs
        go_wp2_with (first
      | (at_builtin; refine wpL_append (.const (.slice none 0 0)) (.tmp 92) 22 slT_bytes (.slice none 0 0) 0 [] A4 (p.length + a.length) c4 w9.heap.size (bvs (p ++ a)) rfl rfl rfl rfl (World.ownsRow_nil _ w9.heap.size _ _) RX.out (by rw [bvs_length]; simp) (bvs_one _) (by simp only [maxLen]; omega) (by omega) (Nat.le_refl _) ?_; intro A11 c11 w10 hown11 hg11 _; have gr11 := gr_append_nil hg11; simp only [Nat.zero_add, List.nil_append] at hown11; have R11 := Lib.hid (RX.out.gr gr11))
      | (at_builtin; refine wpL_append (.tmp 93) (.tmp 94) 22 slT_bytes (.slice A11 (p.length + a.length) c11) (p.length + a.length) (bvs (p ++ a)) A4 (p.length + a.length) c4 w10.heap.size (bvs (p ++ a)) rfl rfl rfl rfl hown11 R11.out (by rw [bvs_length]; simp) (bvs_one _) (by simp only [maxLen]; omega) (by omega) gr11.size ?_; intro B11 d11 w11 hownb11 hgb11 _; have grb11 := gr_append_own gr11 hown11 hgb11; have J16 := Lib.hid (ownB_of hownb11 (bvs_append _ _).symm).isB; clear hown11 hownb11 hg11 hgb11 gr11 R11)
          | (go_at_call 19; refine (ref_join _ _ _ J16.out (by simp; omega)).mono ?_; rintro e w12 ⟨_, rfl, hg12, v16, rfl, h16⟩; rw [hT1.out]; have g12 := Gr.trans grb11 hg12; have RY2 := Lib.hid ((I99.out.gr g12)); have RY2 := Lib.hid (isB_rd RY2.out).2; clear J16 h16)
      | (at_builtin; refine wpL_append (.const (.slice none 0 0)) (.tmp 100) 22 slT_bytes (.slice none 0 0) 0 [] A6 (p.length + b.length) c6 w12.heap.size (bvs (p ++ b)) rfl rfl rfl rfl (World.ownsRow_nil _ w12.heap.size _ _) RY2.out (by rw [bvs_length]; simp) (bvs_one _) (by simp only [maxLen]; omega) (by omega) (Nat.le_refl _) ?_; intro A13 c13 w14 hown13 hg13 _; have gr13 := gr_append_nil hg13; simp only [Nat.zero_add, List.nil_append] at hown13; have R13 := Lib.hid (RY2.out.gr gr13))
      | (at_builtin; refine wpL_append (.tmp 101) (.tmp 102) 22 slT_bytes (.slice A13 (p.length + b.length) c13) (p.length + b.length) (bvs (p ++ b)) A6 (p.length + b.length) c6 w14.heap.size (bvs (p ++ b)) rfl rfl rfl rfl hown13 R13.out (by rw [bvs_length]; simp) (bvs_one _) (by simp only [maxLen]; omega) (by omega) gr13.size ?_; intro B13 d13 w15 hownb13 hgb13 _; have grb13 := gr_append_own gr13 hown13 hgb13; have J18 := Lib.hid (ownB_of hownb13 (bvs_append _ _).symm).isB; clear hown13 hownb13 hg13 hgb13 gr13 R13)
          | (go_at_call 19; refine (ref_join _ _ _ J18.out (by simp; omega)).mono ?_; rintro e w16 ⟨_, rfl, hg16, v18, rfl, h18⟩; rw [hT2.out]; have g16 := Gr.trans g12 (Gr.trans grb13 hg16); clear J18 h18))
        refine bodyPost_ret (results_tmp rfl _ _ _) rfl ?_
        exact ⟨_, rfl, Gr.trans G9 g16, rfl⟩
end Go.Proofs.Ytfpigemikpbbhaa
