/-
  path.Pack and the reference's PackPath.
  Conditions: at most 2 to the 29th half bytes.
-/
import Derived.Test.YtfpigemikpbbhaaJoin3
namespace Go.Proofs.Ytfpigemikpbbhaa
open Go.RowKit Mono

def hdr (p : List UInt8) (leaf : Bool) : List UInt8 := if p.length % 2 = 1 then [if leaf then 3 else 1] else [if leaf then 2 else 0, 0]

set_option maxHeartbeats 1000000 in
theorem path_pack (v1 : Value) (p : List UInt8) (leaf : Bool) (w : World) (h1 : IsB w v1 p) (hlen : p.length ≤ 536870912) :
    Calls Try.prog 18 #[v1, .bool leaf] w (Ret (JoinV w.heap.size (hdr p leaf ++ p)) w) := by
  obtain ⟨A, c, rfl, hl1, hl2, hA⟩ := h1
  clear hl1 hl2
  have HA := Lib.hid hA
  clear hA
  by_cases hodd : p.length % 2 = 1
  · have hoddI : (p.length : Int) % 2 = 1 := by omega
    have hh : hdr p leaf = [if leaf then 3 else 1] := by unfold hdr; rw [if_pos hodd]
    rw [hh]
    clear hh hodd
    cases leaf
    · go_enter Try.func18, Try.ntmps18
      go_wp2_with (at_builtin; refine wpL_append _ _ 22 slT_bytes _ 1 _ _ p.length _ w.heap.size (bvs p) rfl rfl rfl rfl (own_lit _ _ _ _ 1 _ w.heap.size rfl (Nat.le_refl _) (by simp [maxLen]) rfl) (HA.out.below (gr_alloc _ _)) (by rw [bvs_length]; omega) (bvs_one _) (by simp only [maxLen]; omega) (by omega) (by first | (simp; done) | (simp; omega)) ?_; intro A2 c2 w2 hown2 hg2 _; have ho2 := ownB_of (l := [1] ++ p) hown2 rfl; have hb2 := ho2.isB; have H2 := Lib.hid hb2; clear ho2 hb2 hown2)
      refine (path_join _ _ _ H2.out (by simp; omega)).mono ?_
      rintro e w3 ⟨v3, rfl, hg3, v4, rfl, ho4⟩
      go_wp2
      refine bodyPost_ret (results_tmp2 rfl _ _ _) rfl ?_
      have hb1 : Below w.heap.size w w2 := Below.grown (gr_alloc _ _) hg2 (by first | (simp; done) | (simp; omega)) fun j hj => by injection hj with h; subst h; first | exact Nat.le_refl _ | simp
      exact ⟨_, rfl, hb1.trans (hg3.mono hb1.size), v4, rfl, own_base ho4 hb1.size⟩
    · go_enter Try.func18, Try.ntmps18
      go_wp2_with (at_builtin; refine wpL_append _ _ 22 slT_bytes _ 1 _ _ p.length _ w.heap.size (bvs p) rfl rfl rfl rfl (own_lit _ _ _ _ 1 _ w.heap.size rfl (Nat.le_refl _) (by simp [maxLen]) rfl) (HA.out.below (gr_alloc _ _)) (by rw [bvs_length]; omega) (bvs_one _) (by simp only [maxLen]; omega) (by omega) (by first | (simp; done) | (simp; omega)) ?_; intro A2 c2 w2 hown2 hg2 _; have ho2 := ownB_of (l := [3] ++ p) hown2 rfl; have hb2 := ho2.isB; have H2 := Lib.hid hb2; clear ho2 hb2 hown2)
      refine (path_join _ _ _ H2.out (by simp; omega)).mono ?_
      rintro e w3 ⟨v3, rfl, hg3, v4, rfl, ho4⟩
      go_wp2
      refine bodyPost_ret (results_tmp2 rfl _ _ _) rfl ?_
      have hb1 : Below w.heap.size w w2 := Below.grown (gr_alloc _ _) hg2 (by first | (simp; done) | (simp; omega)) fun j hj => by injection hj with h; subst h; first | exact Nat.le_refl _ | simp
      exact ⟨_, rfl, hb1.trans (hg3.mono hb1.size), v4, rfl, own_base ho4 hb1.size⟩
  · have hevI : (p.length : Int) % 2 = 0 := by omega
    have hh : hdr p leaf = [if leaf then 2 else 0, 0] := by unfold hdr; rw [if_neg hodd]
    rw [hh]
    clear hh hodd
    cases leaf
    · go_enter Try.func18, Try.ntmps18
      go_wp2_with (at_builtin; refine wpL_append _ _ 22 slT_bytes _ 2 _ _ p.length _ w.heap.size (bvs p) rfl rfl rfl rfl (own_lit _ _ _ _ 2 _ w.heap.size rfl (Nat.le_refl _) (by simp [maxLen]) rfl) (HA.out.below (gr_alloc _ _)) (by rw [bvs_length]; omega) (bvs_one _) (by simp only [maxLen]; omega) (by omega) (by first | (simp; done) | (simp; omega)) ?_; intro A2 c2 w2 hown2 hg2 _; have ho2 := ownB_of (l := (0::[0]) ++ p) hown2 rfl; have hb2 := ho2.isB; have H2 := Lib.hid hb2; clear ho2 hb2 hown2)
      refine (path_join _ _ _ H2.out (by simp; omega)).mono ?_
      rintro e w3 ⟨v3, rfl, hg3, v4, rfl, ho4⟩
      go_wp2
      refine bodyPost_ret (results_tmp2 rfl _ _ _) rfl ?_
      have hb1 : Below w.heap.size w w2 := ((Below.refl _ _).alloc (Nat.le_refl _) _).grown hg2 (by first | (simp; done) | (simp; omega)) fun j hj => by injection hj with h; subst h; first | exact Nat.le_refl _ | simp
      exact ⟨_, rfl, hb1.trans (hg3.mono hb1.size), v4, rfl, own_base ho4 hb1.size⟩
    · go_enter Try.func18, Try.ntmps18
      go_wp2_with (at_builtin; refine wpL_append _ _ 22 slT_bytes _ 2 _ _ p.length _ w.heap.size (bvs p) rfl rfl rfl rfl (own_lit _ _ _ _ 2 _ w.heap.size rfl (Nat.le_refl _) (by simp [maxLen]) rfl) (HA.out.below (gr_alloc _ _)) (by rw [bvs_length]; omega) (bvs_one _) (by simp only [maxLen]; omega) (by omega) (by first | (simp; done) | (simp; omega)) ?_; intro A2 c2 w2 hown2 hg2 _; have ho2 := ownB_of (l := (2::[0]) ++ p) hown2 rfl; have hb2 := ho2.isB; have H2 := Lib.hid hb2; clear ho2 hb2 hown2)
      refine (path_join _ _ _ H2.out (by simp; omega)).mono ?_
      rintro e w3 ⟨v3, rfl, hg3, v4, rfl, ho4⟩
      go_wp2
      refine bodyPost_ret (results_tmp2 rfl _ _ _) rfl ?_
      have hb1 : Below w.heap.size w w2 := ((Below.refl _ _).alloc (Nat.le_refl _) _).grown hg2 (by first | (simp; done) | (simp; omega)) fun j hj => by injection hj with h; subst h; first | exact Nat.le_refl _ | simp
      exact ⟨_, rfl, hb1.trans (hg3.mono hb1.size), v4, rfl, own_base ho4 hb1.size⟩
set_option maxHeartbeats 1000000 in
theorem ref_pack (v1 : Value) (p : List UInt8) (leaf : Bool) (w : World) (h1 : IsB w v1 p) (hlen : p.length ≤ 536870912) :
    Calls Try.prog 24 #[v1, .bool leaf] w (Ret (JoinV w.heap.size (hdr p leaf ++ p)) w) := by
  obtain ⟨A, c, rfl, hl1, hl2, hA⟩ := h1
  clear hl1 hl2
  have HA := Lib.hid hA
  clear hA
  by_cases hodd : p.length % 2 = 1
  · have hoddI : (p.length : Int) % 2 = 1 := by omega
    have hh : hdr p leaf = [if leaf then 3 else 1] := by unfold hdr; rw [if_pos hodd]
    rw [hh]
    clear hh hodd
    cases leaf
    · go_enter Try.func24, Try.ntmps24
      go_wp2_with (at_builtin; refine wpL_append _ _ 22 slT_bytes _ 1 _ _ p.length _ w.heap.size (bvs p) rfl rfl rfl rfl (own_lit _ _ _ _ 1 _ w.heap.size (by simp) (gr_alloc w _).size (by simp [maxLen]) rfl) (HA.out.below ((gr_alloc _ _).trans (gr_alloc _ _))) (by rw [bvs_length]; omega) (bvs_one _) (by simp only [maxLen]; omega) (by omega) (by first | (simp; done) | (simp; omega)) ?_; intro A2 c2 w2 hown2 hg2 _; have ho2 := ownB_of (l := [1] ++ p) hown2 rfl; have hb2 := ho2.isB; have H2 := Lib.hid hb2; clear ho2 hb2 hown2)
      refine (ref_join _ _ _ H2.out (by simp; omega)).mono ?_
      rintro e w3 ⟨v3, rfl, hg3, v4, rfl, ho4⟩
      go_wp2
      refine bodyPost_ret (results_tmp2 rfl _ _ _) rfl ?_
      have hb1 : Below w.heap.size w w2 := Below.grown ((gr_alloc _ _).trans (gr_alloc _ _)) hg2 (by first | (simp; done) | (simp; omega)) fun j hj => by injection hj with h; subst h; first | exact Nat.le_refl _ | simp
      exact ⟨_, rfl, hb1.trans (hg3.mono hb1.size), v4, rfl, own_base ho4 hb1.size⟩
    · go_enter Try.func24, Try.ntmps24
      go_wp2_with (at_builtin; refine wpL_append _ _ 22 slT_bytes _ 1 _ _ p.length _ w.heap.size (bvs p) rfl rfl rfl rfl (own_lit _ _ _ _ 1 _ w.heap.size (by simp) (gr_alloc w _).size (by simp [maxLen]) rfl) (HA.out.below ((gr_alloc _ _).trans (gr_alloc _ _))) (by rw [bvs_length]; omega) (bvs_one _) (by simp only [maxLen]; omega) (by omega) (by first | (simp; done) | (simp; omega)) ?_; intro A2 c2 w2 hown2 hg2 _; have ho2 := ownB_of (l := [3] ++ p) hown2 rfl; have hb2 := ho2.isB; have H2 := Lib.hid hb2; clear ho2 hb2 hown2)
      refine (ref_join _ _ _ H2.out (by simp; omega)).mono ?_
      rintro e w3 ⟨v3, rfl, hg3, v4, rfl, ho4⟩
      go_wp2
      refine bodyPost_ret (results_tmp2 rfl _ _ _) rfl ?_
      have hb1 : Below w.heap.size w w2 := Below.grown ((gr_alloc _ _).trans (gr_alloc _ _)) hg2 (by first | (simp; done) | (simp; omega)) fun j hj => by injection hj with h; subst h; first | exact Nat.le_refl _ | simp
      exact ⟨_, rfl, hb1.trans (hg3.mono hb1.size), v4, rfl, own_base ho4 hb1.size⟩
  · have hevI : (p.length : Int) % 2 = 0 := by omega
    have hh : hdr p leaf = [if leaf then 2 else 0, 0] := by unfold hdr; rw [if_neg hodd]
    rw [hh]
    clear hh hodd
    cases leaf
    · go_enter Try.func24, Try.ntmps24
      go_wp2_with (at_builtin; refine wpL_append _ _ 22 slT_bytes _ 2 _ _ p.length _ w.heap.size (bvs p) rfl rfl rfl rfl (own_lit _ _ _ _ 2 _ w.heap.size rfl (Nat.le_refl _) (by simp [maxLen]) rfl) (HA.out.below (gr_alloc _ _)) (by rw [bvs_length]; omega) (bvs_one _) (by simp only [maxLen]; omega) (by omega) (by first | (simp; done) | (simp; omega)) ?_; intro A2 c2 w2 hown2 hg2 _; have ho2 := ownB_of (l := (0::[0]) ++ p) hown2 rfl; have hb2 := ho2.isB; have H2 := Lib.hid hb2; clear ho2 hb2 hown2)
      refine (ref_join _ _ _ H2.out (by simp; omega)).mono ?_
      rintro e w3 ⟨v3, rfl, hg3, v4, rfl, ho4⟩
      go_wp2
      refine bodyPost_ret (results_tmp2 rfl _ _ _) rfl ?_
      have hb1 : Below w.heap.size w w2 := ((Below.refl _ _).alloc (Nat.le_refl _) _).grown hg2 (by first | (simp; done) | (simp; omega)) fun j hj => by injection hj with h; subst h; first | exact Nat.le_refl _ | simp
      exact ⟨_, rfl, hb1.trans (hg3.mono hb1.size), v4, rfl, own_base ho4 hb1.size⟩
    · go_enter Try.func24, Try.ntmps24
      go_wp2_with (at_builtin; refine wpL_append _ _ 22 slT_bytes _ 2 _ _ p.length _ w.heap.size (bvs p) rfl rfl rfl rfl (own_lit _ _ _ _ 2 _ w.heap.size rfl (Nat.le_refl _) (by simp [maxLen]) rfl) (HA.out.below (gr_alloc _ _)) (by rw [bvs_length]; omega) (bvs_one _) (by simp only [maxLen]; omega) (by omega) (by first | (simp; done) | (simp; omega)) ?_; intro A2 c2 w2 hown2 hg2 _; have ho2 := ownB_of (l := (2::[0]) ++ p) hown2 rfl; have hb2 := ho2.isB; have H2 := Lib.hid hb2; clear ho2 hb2 hown2)
      refine (ref_join _ _ _ H2.out (by simp; omega)).mono ?_
      rintro e w3 ⟨v3, rfl, hg3, v4, rfl, ho4⟩
      go_wp2
      refine bodyPost_ret (results_tmp2 rfl _ _ _) rfl ?_
      have hb1 : Below w.heap.size w w2 := ((Below.refl _ _).alloc (Nat.le_refl _) _).grown hg2 (by first | (simp; done) | (simp; omega)) fun j hj => by injection hj with h; subst h; first | exact Nat.le_refl _ | simp
      exact ⟨_, rfl, hb1.trans (hg3.mono hb1.size), v4, rfl, own_base ho4 hb1.size⟩
end Go.Proofs.Ytfpigemikpbbhaa
