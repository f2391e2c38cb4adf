/-
  Merged (wip/tools/merge.py): Pack, TP1, Kec, KecMem, KecTake, KecRound.
  Conditions: none.
-/
import Derived.Test.YtmlajcbabimkjaaGreatZA11
import Derived.Test.YtmlajcbabimkjaaGreatZA7
import Derived.Test.YtmlajcbabimkjaaGreatZA10
import Derived.Test.YtmlajcbabimkjaaGreatZA2
import Derived.BigQuiet
import Derived.Deep.QuietTactic
import Derived.Laws.BitsAllLaws
/-
  path.Pack and the reference's PackPath.
  Conditions: at most 2 to the 29th half bytes.
-/
namespace Go.Proofs.YtmlajcbabimkjaaGreat
open Go.RowKit Mono
def hdr (p : List UInt8) (leaf : Bool) : List UInt8 := if p.length % 2 = 1 then [if leaf then 3 else 1] else [if leaf then 2 else 0, 0]
set_option maxHeartbeats 1000000 in
theorem path_pack (v1 : Value) (p : List UInt8) (leaf : Bool) (w : World) (h1 : IsB w v1 p) (hlen : p.length ≤ 536870912) :
    Calls Tryz.prog 130 #[v1, .bool leaf] w (Ret (JoinV w.heap.size (hdr p leaf ++ p)) w) := by
  obtain ⟨A, c, rfl, hl1, hl2, hA⟩ := h1
  clear hl1 hl2
  have HA := Lib.hid hA
  clear hA
  by_cases hodd : p.length % 2 = 1
  · have hoddI : (p.length : Int) % 2 = 1 := by omega
    have hh : hdr p leaf = [if leaf then 3 else 1] := by unfold hdr; rw [if_pos hodd]
    rw [hh]
    clear hh hodd
    cases leaf
    · go_enter Tryz.func130, Tryz.ntmps130
      go_wp2_with (at_builtin; refine wpL_append _ _ 30 slT_bytes _ 1 _ _ p.length _ w.heap.size (bvs p) rfl rfl rfl rfl (own_lit _ _ _ _ 1 _ w.heap.size rfl (Nat.le_refl _) (by simp [maxLen]) rfl) (HA.out.below (gr_alloc _ _)) (by rw [bvs_length]; omega) (bvs_one _) (by simp only [maxLen]; omega) (by omega) (by first | (simp; done) | (simp; omega)) ?_; intro A2 c2 w2 hown2 hg2 _; have ho2 := ownB_of (l := [1] ++ p) hown2 rfl; have hb2 := ho2.isB; have H2 := Lib.hid hb2; clear ho2 hb2 hown2)
      refine (path_join _ _ _ H2.out (by simp; omega)).mono ?_
      rintro e w3 ⟨v3, rfl, hg3, v4, rfl, ho4⟩
      go_wp2
      refine bodyPost_ret (results_tmp2 rfl _ _ _) rfl ?_
      have hb1 : Below w.heap.size w w2 := Below.grown (gr_alloc _ _) hg2 (by first | (simp; done) | (simp; omega)) fun j hj => by injection hj with h; subst h; first | exact Nat.le_refl _ | simp
      exact ⟨_, rfl, hb1.trans (hg3.mono hb1.size), v4, rfl, own_base ho4 hb1.size⟩
    · go_enter Tryz.func130, Tryz.ntmps130
      go_wp2_with (at_builtin; refine wpL_append _ _ 30 slT_bytes _ 1 _ _ p.length _ w.heap.size (bvs p) rfl rfl rfl rfl (own_lit _ _ _ _ 1 _ w.heap.size rfl (Nat.le_refl _) (by simp [maxLen]) rfl) (HA.out.below (gr_alloc _ _)) (by rw [bvs_length]; omega) (bvs_one _) (by simp only [maxLen]; omega) (by omega) (by first | (simp; done) | (simp; omega)) ?_; intro A2 c2 w2 hown2 hg2 _; have ho2 := ownB_of (l := [3] ++ p) hown2 rfl; have hb2 := ho2.isB; have H2 := Lib.hid hb2; clear ho2 hb2 hown2)
      refine (path_join _ _ _ H2.out (by simp; omega)).mono ?_
      rintro e w3 ⟨v3, rfl, hg3, v4, rfl, ho4⟩
      go_wp2
      refine bodyPost_ret (results_tmp2 rfl _ _ _) rfl ?_
      have hb1 : Below w.heap.size w w2 := Below.grown (gr_alloc _ _) hg2 (by first | (simp; done) | (simp; omega)) fun j hj => by injection hj with h; subst h; first | exact Nat.le_refl _ | simp
      exact ⟨_, rfl, hb1.trans (hg3.mono hb1.size), v4, rfl, own_base ho4 hb1.size⟩
  · have hevI : (p.length : Int) % 2 = 0 := by omega
    have hh : hdr p leaf = [if leaf then 2 else 0, 0] := by unfold hdr; rw [if_neg hodd]
    rw [hh]
    clear hh hodd
    cases leaf
    · go_enter Tryz.func130, Tryz.ntmps130
      go_wp2_with (at_builtin; refine wpL_append _ _ 30 slT_bytes _ 2 _ _ p.length _ w.heap.size (bvs p) rfl rfl rfl rfl (own_lit _ _ _ _ 2 _ w.heap.size rfl (Nat.le_refl _) (by simp [maxLen]) rfl) (HA.out.below (gr_alloc _ _)) (by rw [bvs_length]; omega) (bvs_one _) (by simp only [maxLen]; omega) (by omega) (by first | (simp; done) | (simp; omega)) ?_; intro A2 c2 w2 hown2 hg2 _; have ho2 := ownB_of (l := (0::[0]) ++ p) hown2 rfl; have hb2 := ho2.isB; have H2 := Lib.hid hb2; clear ho2 hb2 hown2)
      refine (path_join _ _ _ H2.out (by simp; omega)).mono ?_
      rintro e w3 ⟨v3, rfl, hg3, v4, rfl, ho4⟩
      go_wp2
      refine bodyPost_ret (results_tmp2 rfl _ _ _) rfl ?_
      have hb1 : Below w.heap.size w w2 := ((Below.refl _ _).alloc (Nat.le_refl _) _).grown hg2 (by first | (simp; done) | (simp; omega)) fun j hj => by injection hj with h; subst h; first | exact Nat.le_refl _ | simp
      exact ⟨_, rfl, hb1.trans (hg3.mono hb1.size), v4, rfl, own_base ho4 hb1.size⟩
    · go_enter Tryz.func130, Tryz.ntmps130
      go_wp2_with (at_builtin; refine wpL_append _ _ 30 slT_bytes _ 2 _ _ p.length _ w.heap.size (bvs p) rfl rfl rfl rfl (own_lit _ _ _ _ 2 _ w.heap.size rfl (Nat.le_refl _) (by simp [maxLen]) rfl) (HA.out.below (gr_alloc _ _)) (by rw [bvs_length]; omega) (bvs_one _) (by simp only [maxLen]; omega) (by omega) (by first | (simp; done) | (simp; omega)) ?_; intro A2 c2 w2 hown2 hg2 _; have ho2 := ownB_of (l := (2::[0]) ++ p) hown2 rfl; have hb2 := ho2.isB; have H2 := Lib.hid hb2; clear ho2 hb2 hown2)
      refine (path_join _ _ _ H2.out (by simp; omega)).mono ?_
      rintro e w3 ⟨v3, rfl, hg3, v4, rfl, ho4⟩
      go_wp2
      refine bodyPost_ret (results_tmp2 rfl _ _ _) rfl ?_
      have hb1 : Below w.heap.size w w2 := ((Below.refl _ _).alloc (Nat.le_refl _) _).grown hg2 (by first | (simp; done) | (simp; omega)) fun j hj => by injection hj with h; subst h; first | exact Nat.le_refl _ | simp
      exact ⟨_, rfl, hb1.trans (hg3.mono hb1.size), v4, rfl, own_base ho4 hb1.size⟩
set_option maxHeartbeats 1000000 in
theorem ref_ppack (v1 : Value) (p : List UInt8) (leaf : Bool) (w : World) (h1 : IsB w v1 p) (hlen : p.length ≤ 536870912) :
    Calls Tryz.prog 32 #[v1, .bool leaf] w (Ret (JoinV w.heap.size (hdr p leaf ++ p)) w) := by
  obtain ⟨A, c, rfl, hl1, hl2, hA⟩ := h1
  clear hl1 hl2
  have HA := Lib.hid hA
  clear hA
  by_cases hodd : p.length % 2 = 1
  · have hoddI : (p.length : Int) % 2 = 1 := by omega
    have hh : hdr p leaf = [if leaf then 3 else 1] := by unfold hdr; rw [if_pos hodd]
    rw [hh]
    clear hh hodd
    cases leaf
    · go_enter Tryz.func32, Tryz.ntmps32
      go_wp2_with (at_builtin; refine wpL_append _ _ 30 slT_bytes _ 1 _ _ p.length _ w.heap.size (bvs p) rfl rfl rfl rfl (own_lit _ _ _ _ 1 _ w.heap.size (by simp) (gr_alloc w _).size (by simp [maxLen]) rfl) (HA.out.below ((gr_alloc _ _).trans (gr_alloc _ _))) (by rw [bvs_length]; omega) (bvs_one _) (by simp only [maxLen]; omega) (by omega) (by first | (simp; done) | (simp; omega)) ?_; intro A2 c2 w2 hown2 hg2 _; have ho2 := ownB_of (l := [1] ++ p) hown2 rfl; have hb2 := ho2.isB; have H2 := Lib.hid hb2; clear ho2 hb2 hown2)
      refine (ref_join _ _ _ H2.out (by simp; omega)).mono ?_
      rintro e w3 ⟨v3, rfl, hg3, v4, rfl, ho4⟩
      go_wp2
      refine bodyPost_ret (results_tmp2 rfl _ _ _) rfl ?_
      have hb1 : Below w.heap.size w w2 := Below.grown ((gr_alloc _ _).trans (gr_alloc _ _)) hg2 (by first | (simp; done) | (simp; omega)) fun j hj => by injection hj with h; subst h; first | exact Nat.le_refl _ | simp
      exact ⟨_, rfl, hb1.trans (hg3.mono hb1.size), v4, rfl, own_base ho4 hb1.size⟩
    · go_enter Tryz.func32, Tryz.ntmps32
      go_wp2_with (at_builtin; refine wpL_append _ _ 30 slT_bytes _ 1 _ _ p.length _ w.heap.size (bvs p) rfl rfl rfl rfl (own_lit _ _ _ _ 1 _ w.heap.size (by simp) (gr_alloc w _).size (by simp [maxLen]) rfl) (HA.out.below ((gr_alloc _ _).trans (gr_alloc _ _))) (by rw [bvs_length]; omega) (bvs_one _) (by simp only [maxLen]; omega) (by omega) (by first | (simp; done) | (simp; omega)) ?_; intro A2 c2 w2 hown2 hg2 _; have ho2 := ownB_of (l := [3] ++ p) hown2 rfl; have hb2 := ho2.isB; have H2 := Lib.hid hb2; clear ho2 hb2 hown2)
      refine (ref_join _ _ _ H2.out (by simp; omega)).mono ?_
      rintro e w3 ⟨v3, rfl, hg3, v4, rfl, ho4⟩
      go_wp2
      refine bodyPost_ret (results_tmp2 rfl _ _ _) rfl ?_
      have hb1 : Below w.heap.size w w2 := Below.grown ((gr_alloc _ _).trans (gr_alloc _ _)) hg2 (by first | (simp; done) | (simp; omega)) fun j hj => by injection hj with h; subst h; first | exact Nat.le_refl _ | simp
      exact ⟨_, rfl, hb1.trans (hg3.mono hb1.size), v4, rfl, own_base ho4 hb1.size⟩
  · have hevI : (p.length : Int) % 2 = 0 := by omega
    have hh : hdr p leaf = [if leaf then 2 else 0, 0] := by unfold hdr; rw [if_neg hodd]
    rw [hh]
    clear hh hodd
    cases leaf
    · go_enter Tryz.func32, Tryz.ntmps32
      go_wp2_with (at_builtin; refine wpL_append _ _ 30 slT_bytes _ 2 _ _ p.length _ w.heap.size (bvs p) rfl rfl rfl rfl (own_lit _ _ _ _ 2 _ w.heap.size rfl (Nat.le_refl _) (by simp [maxLen]) rfl) (HA.out.below (gr_alloc _ _)) (by rw [bvs_length]; omega) (bvs_one _) (by simp only [maxLen]; omega) (by omega) (by first | (simp; done) | (simp; omega)) ?_; intro A2 c2 w2 hown2 hg2 _; have ho2 := ownB_of (l := (0::[0]) ++ p) hown2 rfl; have hb2 := ho2.isB; have H2 := Lib.hid hb2; clear ho2 hb2 hown2)
      refine (ref_join _ _ _ H2.out (by simp; omega)).mono ?_
      rintro e w3 ⟨v3, rfl, hg3, v4, rfl, ho4⟩
      go_wp2
      refine bodyPost_ret (results_tmp2 rfl _ _ _) rfl ?_
      have hb1 : Below w.heap.size w w2 := ((Below.refl _ _).alloc (Nat.le_refl _) _).grown hg2 (by first | (simp; done) | (simp; omega)) fun j hj => by injection hj with h; subst h; first | exact Nat.le_refl _ | simp
      exact ⟨_, rfl, hb1.trans (hg3.mono hb1.size), v4, rfl, own_base ho4 hb1.size⟩
    · go_enter Tryz.func32, Tryz.ntmps32
      go_wp2_with (at_builtin; refine wpL_append _ _ 30 slT_bytes _ 2 _ _ p.length _ w.heap.size (bvs p) rfl rfl rfl rfl (own_lit _ _ _ _ 2 _ w.heap.size rfl (Nat.le_refl _) (by simp [maxLen]) rfl) (HA.out.below (gr_alloc _ _)) (by rw [bvs_length]; omega) (bvs_one _) (by simp only [maxLen]; omega) (by omega) (by first | (simp; done) | (simp; omega)) ?_; intro A2 c2 w2 hown2 hg2 _; have ho2 := ownB_of (l := (2::[0]) ++ p) hown2 rfl; have hb2 := ho2.isB; have H2 := Lib.hid hb2; clear ho2 hb2 hown2)
      refine (ref_join _ _ _ H2.out (by simp; omega)).mono ?_
      rintro e w3 ⟨v3, rfl, hg3, v4, rfl, ho4⟩
      go_wp2
      refine bodyPost_ret (results_tmp2 rfl _ _ _) rfl ?_
      have hb1 : Below w.heap.size w w2 := ((Below.refl _ _).alloc (Nat.le_refl _) _).grown hg2 (by first | (simp; done) | (simp; omega)) fun j hj => by injection hj with h; subst h; first | exact Nat.le_refl _ | simp
      exact ⟨_, rfl, hb1.trans (hg3.mono hb1.size), v4, rfl, own_base ho4 hb1.size⟩
end Go.Proofs.YtmlajcbabimkjaaGreat
/-
  path's functions, as the abstract machine calls them.
  Conditions: none.
-/
namespace Go.Proofs.YtmlajcbabimkjaaGreat
set_option linter.unusedVariables false
open Go.RowKit Mono Rlp
namespace E
theorem own_read {ok : Nat → Prop} {w w' : World} {v : Value} {l : List UInt8} (h : OwnB w' w.heap.size v l) : ReadV (fun b => (ok b ∨ w.heap.size ≤ b) ∧ b < w'.heap.size) w' (.bs l) v := by
  refine (readV_one rfl).2 ?_
  rw [Reads]
  exact ⟨_, rfl, (ownB_P h).mono (fun b hb => ⟨.inr hb.1, hb.2⟩) fun _ _ => rfl⟩
def ppk (p : List UInt8) (leaf : Bool) : List UInt8 := (joinL (hdr p leaf ++ p)).getD []
theorem f_pSplit (l : List UInt8) (hl : l.length ≤ 1073741824) : Fn 102 [.bs l] (· = .val (.bs (split l))) := ⟨fun ok w xs hok hr => by
  obtain ⟨x, _, rfl, h, hn⟩ := hr
  cases hn
  refine (path_split x l w (isB_of hok h) hl).mono ?_
  rintro e w' ⟨v', rfl, hg, hv⟩
  exact ⟨hg, _, _, rfl, rfl, own_read hv⟩⟩
theorem f_rSplit (l : List UInt8) (hl : l.length ≤ 1073741824) : Fn 33 [.bs l] (· = .val (.bs (split l))) := ⟨fun ok w xs hok hr => by
  obtain ⟨x, _, rfl, h, hn⟩ := hr
  cases hn
  refine (ref_split x l w (isB_of hok h) hl).mono ?_
  rintro e w' ⟨v', rfl, hg, hv⟩
  exact ⟨hg, _, _, rfl, rfl, own_read hv⟩⟩
theorem f_pPack (p : List UInt8) (leaf : Bool) (hl : p.length ≤ 536870912) : Fn 130 [.bs p, .v (.bool leaf)] (· = .tpl [.bs (ppk p leaf), .v (.bool (joinL (hdr p leaf ++ p)).isSome)]) := ⟨fun ok w xs hok hr => by
  obtain ⟨x, _, rfl, h, y, _, rfl, h2, hn⟩ := hr
  cases hn
  obtain rfl := (readV_v.1 h2).2
  refine (path_pack x p leaf w (isB_of hok h) hl).mono ?_
  rintro e w' ⟨v', rfl, hg, v1, rfl, hv⟩
  exact ⟨hg, _, _, rfl, rfl, ⟨_, rfl, _, _, rfl, own_read hv, _, _, rfl, readV_v.2 ⟨rfl, rfl⟩, rfl⟩⟩⟩
theorem f_rPPack (p : List UInt8) (leaf : Bool) (hl : p.length ≤ 536870912) : Fn 32 [.bs p, .v (.bool leaf)] (· = .tpl [.bs (ppk p leaf), .v (.bool (joinL (hdr p leaf ++ p)).isSome)]) := ⟨fun ok w xs hok hr => by
  obtain ⟨x, _, rfl, h, y, _, rfl, h2, hn⟩ := hr
  cases hn
  obtain rfl := (readV_v.1 h2).2
  refine (ref_ppack x p leaf w (isB_of hok h) hl).mono ?_
  rintro e w' ⟨v', rfl, hg, v1, rfl, hv⟩
  exact ⟨hg, _, _, rfl, rfl, ⟨_, rfl, _, _, rfl, own_read hv, _, _, rfl, readV_v.2 ⟨rfl, rfl⟩, rfl⟩⟩⟩
theorem f_pCommon (l m : List UInt8) : Fn 106 [.bs l, .bs m] (· = .val (.v (.int .i64 (common l m : Nat)))) := ⟨fun ok w xs hok hr => by
  obtain ⟨x, _, rfl, h, y, _, rfl, h2, hn⟩ := hr
  cases hn
  refine (path_common x y l m w (isB_of hok h) (isB_of hok h2)).mono ?_
  rintro e w' ⟨rfl, k, rfl⟩
  exact ⟨⟨rfl, rfl, rfl, Nat.le_refl _, fun _ _ => rfl⟩, _, _, rfl, rfl, readV_v.2 ⟨rfl, rfl⟩⟩⟩
theorem f_rCommon (l m : List UInt8) : Fn 81 [.bs l, .bs m] (· = .val (.v (.int .i64 (common l m : Nat)))) := ⟨fun ok w xs hok hr => by
  obtain ⟨x, _, rfl, h, y, _, rfl, h2, hn⟩ := hr
  cases hn
  refine (ref_common x y l m w (isB_of hok h) (isB_of hok h2)).mono ?_
  rintro e w' ⟨rfl, k, rfl⟩
  exact ⟨⟨rfl, rfl, rfl, Nat.le_refl _, fun _ _ => rfl⟩, _, _, rfl, rfl, readV_v.2 ⟨rfl, rfl⟩⟩⟩
end E
end Go.Proofs.YtmlajcbabimkjaaGreat
/-
  Keccak in plain words: the permutation as the program does it, and as the reference does it; they are one.
  Conditions: none. No program is named here.
-/
namespace Go.Proofs.YtmlajcbabimkjaaGreat.Kec
abbrev L := BitVec 64
abbrev St := Nat → L
def upd (f : St) (k : Nat) (v : L) : St := fun j => if j = k then v else f j
def rotl (x : L) (n : Nat) : L := x <<< n ||| x >>> (64 - n)
theorem shr_64 (x : L) : x >>> 64 = 0 := by
  apply BitVec.eq_of_toNat_eq
  rw [BitVec.toNat_ushiftRight, Nat.shiftRight_eq_div_pow]
  have := x.isLt
  exact Nat.div_eq_of_lt this
theorem rotl_zero (x : L) : rotl x 0 = x := by simp [rotl, shr_64]
def turn (k : Nat) : Nat := [0, 1, 62, 28, 27, 36, 44, 6, 55, 20, 3, 10, 43, 25, 39, 41, 45, 15, 21, 8, 18, 2, 61, 56, 14].getD k 0
def rc (k : Nat) : L := ([0x0000000000000001, 0x0000000000008082, 0x800000000000808a, 0x8000000080008000, 0x000000000000808b, 0x0000000080000001,
  0x8000000080008081, 0x8000000000008009, 0x000000000000008a, 0x0000000000000088, 0x0000000080008009, 0x000000008000000a,
  0x000000008000808b, 0x800000000000008b, 0x8000000000008089, 0x8000000000008003, 0x8000000000008002, 0x8000000000000080,
  0x000000000000800a, 0x800000008000000a, 0x8000000080008081, 0x8000000000008080, 0x0000000080000001, 0x8000000080008008] : List L).getD k 0
/-! ### The program's round -/
def col (s : St) (x : Nat) : L := s x ^^^ s (x + 5) ^^^ s (x + 10) ^^^ s (x + 15) ^^^ s (x + 20)
def dd (s : St) (x : Nat) : L := col s ((x + 4) % 5) ^^^ rotl (col s ((x + 1) % 5)) 1
def place (k : Nat) : Nat := k / 5 + 5 * ((2 * (k % 5) + 3 * (k / 5)) % 5)
def bb (s : St) : Nat → St
  | 0 => fun _ => 0
  | k + 1 => upd (bb s k) (place k) (rotl (s k ^^^ dd s (k % 5)) (turn k))
def chi (b : St) (k : Nat) : L := b k ^^^ (~~~ b ((k % 5 + 1) % 5 + k / 5 * 5) &&& b ((k % 5 + 2) % 5 + k / 5 * 5))
def ss (b s : St) : Nat → St
  | 0 => s
  | k + 1 => upd (ss b s k) k (chi b k)
def round (s : St) (n : L) : St := upd (ss (bb s 25) s 25) 0 (ss (bb s 25) s 25 0 ^^^ n)
def perm (s : St) : Nat → St
  | 0 => s
  | k + 1 => round (perm s k) (rc k)
/-! ### The reference's round -/
def th1 (d : L) (x : Nat) (a : St) : Nat → St
  | 0 => a
  | k + 1 => upd (th1 d x a k) (x + 5 * k) (th1 d x a k (x + 5 * k) ^^^ d)
def th (c a : St) : Nat → St
  | 0 => a
  | x + 1 => th1 (c ((x + 4) % 5) ^^^ rotl (c ((x + 1) % 5)) 1) x (th c a x) 5
structure Walk where
  x : Nat
  y : Nat
  cur : L
  a : St
def mv (a : St) : Nat → Walk
  | 0 => ⟨1, 0, a 1, a⟩
  | t + 1 =>
    let w := mv a t
    let x := w.y
    let y := (2 * w.x + 3 * w.y) % 5
    ⟨x, y, w.a (x + 5 * y), upd w.a (x + 5 * y) (rotl w.cur ((t + 1) * (t + 2) / 2 % 64))⟩
def ch1 (r a : St) (y : Nat) : Nat → St
  | 0 => a
  | x + 1 => upd (ch1 r a y x) (x + y) (r x ^^^ (~~~ r ((x + 1) % 5) &&& r ((x + 2) % 5)))
def ch (a : St) : Nat → St
  | 0 => a
  | y + 1 => ch1 (fun x => ch a y (x + 5 * y)) (ch a y) (5 * y) 5
def lf (l : BitVec 8) : BitVec 8 := if l &&& 128 ≠ 0 then (l <<< 1) ^^^ 0x71 else l <<< 1
def lfn (l : BitVec 8) : Nat → BitVec 8
  | 0 => l
  | j + 1 => lf (lfn l j)
def io (a : St) (l : BitVec 8) : Nat → St
  | 0 => a
  | j + 1 => if lfn l j &&& 1 = 1 then upd (io a l j) 0 (io a l j 0 ^^^ (1 : L) <<< (2 ^ j - 1)) else io a l j
def rround (a : St) (l : BitVec 8) : St := io (ch (mv (th (col a) a 5) 24).a 5) l 7
def rperm (a : St) : Nat → St
  | 0 => a
  | k + 1 => rround (rperm a k) (lfn 1 (7 * k))
/-! ### They are one -/
def num (l : BitVec 8) : Nat → L
  | 0 => 0
  | j + 1 => if lfn l j &&& 1 = 1 then num l j ^^^ (1 : L) <<< (2 ^ j - 1) else num l j
theorem io_eq (a : St) (l : BitVec 8) : ∀ j, io a l j = upd a 0 (a 0 ^^^ num l j)
  | 0 => by funext k; simp [io, num, upd]; intro h; rw [h]
  | j + 1 => by
    unfold io num
    rw [io_eq a l j]
    split
    · funext k
      by_cases hk : k = 0
      · subst hk; simp [upd, BitVec.xor_assoc]
      · simp [upd, hk]
    · rfl
theorem num_rc : ∀ k, k < 24 → num (lfn 1 (7 * k)) 7 = rc k := by decide +kernel
theorem lane0 (a : St) : ss (bb a 25) a 25 0 = ch (mv (th (col a) a 5) 24).a 5 0 := by simp [ss, bb, chi, upd, place, dd, col, turn, ch, ch1, mv, th, th1, rotl_zero]
theorem lane1 (a : St) : ss (bb a 25) a 25 1 = ch (mv (th (col a) a 5) 24).a 5 1 := by simp [ss, bb, chi, upd, place, dd, col, turn, ch, ch1, mv, th, th1]
theorem lane2 (a : St) : ss (bb a 25) a 25 2 = ch (mv (th (col a) a 5) 24).a 5 2 := by simp [ss, bb, chi, upd, place, dd, col, turn, ch, ch1, mv, th, th1]
theorem lane3 (a : St) : ss (bb a 25) a 25 3 = ch (mv (th (col a) a 5) 24).a 5 3 := by simp [ss, bb, chi, upd, place, dd, col, turn, ch, ch1, mv, th, th1, rotl_zero]
theorem lane4 (a : St) : ss (bb a 25) a 25 4 = ch (mv (th (col a) a 5) 24).a 5 4 := by simp [ss, bb, chi, upd, place, dd, col, turn, ch, ch1, mv, th, th1, rotl_zero]
theorem lane5 (a : St) : ss (bb a 25) a 25 5 = ch (mv (th (col a) a 5) 24).a 5 5 := by simp [ss, bb, chi, upd, place, dd, col, turn, ch, ch1, mv, th, th1]
theorem lane6 (a : St) : ss (bb a 25) a 25 6 = ch (mv (th (col a) a 5) 24).a 5 6 := by simp [ss, bb, chi, upd, place, dd, col, turn, ch, ch1, mv, th, th1]
theorem lane7 (a : St) : ss (bb a 25) a 25 7 = ch (mv (th (col a) a 5) 24).a 5 7 := by simp [ss, bb, chi, upd, place, dd, col, turn, ch, ch1, mv, th, th1]
theorem lane8 (a : St) : ss (bb a 25) a 25 8 = ch (mv (th (col a) a 5) 24).a 5 8 := by simp [ss, bb, chi, upd, place, dd, col, turn, ch, ch1, mv, th, th1]
theorem lane9 (a : St) : ss (bb a 25) a 25 9 = ch (mv (th (col a) a 5) 24).a 5 9 := by simp [ss, bb, chi, upd, place, dd, col, turn, ch, ch1, mv, th, th1]
theorem lane10 (a : St) : ss (bb a 25) a 25 10 = ch (mv (th (col a) a 5) 24).a 5 10 := by simp [ss, bb, chi, upd, place, dd, col, turn, ch, ch1, mv, th, th1]
theorem lane11 (a : St) : ss (bb a 25) a 25 11 = ch (mv (th (col a) a 5) 24).a 5 11 := by simp [ss, bb, chi, upd, place, dd, col, turn, ch, ch1, mv, th, th1]
theorem lane12 (a : St) : ss (bb a 25) a 25 12 = ch (mv (th (col a) a 5) 24).a 5 12 := by simp [ss, bb, chi, upd, place, dd, col, turn, ch, ch1, mv, th, th1]
theorem lane13 (a : St) : ss (bb a 25) a 25 13 = ch (mv (th (col a) a 5) 24).a 5 13 := by simp [ss, bb, chi, upd, place, dd, col, turn, ch, ch1, mv, th, th1]
theorem lane14 (a : St) : ss (bb a 25) a 25 14 = ch (mv (th (col a) a 5) 24).a 5 14 := by simp [ss, bb, chi, upd, place, dd, col, turn, ch, ch1, mv, th, th1]
theorem lane15 (a : St) : ss (bb a 25) a 25 15 = ch (mv (th (col a) a 5) 24).a 5 15 := by simp [ss, bb, chi, upd, place, dd, col, turn, ch, ch1, mv, th, th1]
theorem lane16 (a : St) : ss (bb a 25) a 25 16 = ch (mv (th (col a) a 5) 24).a 5 16 := by simp [ss, bb, chi, upd, place, dd, col, turn, ch, ch1, mv, th, th1]
theorem lane17 (a : St) : ss (bb a 25) a 25 17 = ch (mv (th (col a) a 5) 24).a 5 17 := by simp [ss, bb, chi, upd, place, dd, col, turn, ch, ch1, mv, th, th1]
theorem lane18 (a : St) : ss (bb a 25) a 25 18 = ch (mv (th (col a) a 5) 24).a 5 18 := by simp [ss, bb, chi, upd, place, dd, col, turn, ch, ch1, mv, th, th1]
theorem lane19 (a : St) : ss (bb a 25) a 25 19 = ch (mv (th (col a) a 5) 24).a 5 19 := by simp [ss, bb, chi, upd, place, dd, col, turn, ch, ch1, mv, th, th1]
theorem lane20 (a : St) : ss (bb a 25) a 25 20 = ch (mv (th (col a) a 5) 24).a 5 20 := by simp [ss, bb, chi, upd, place, dd, col, turn, ch, ch1, mv, th, th1]
theorem lane21 (a : St) : ss (bb a 25) a 25 21 = ch (mv (th (col a) a 5) 24).a 5 21 := by simp [ss, bb, chi, upd, place, dd, col, turn, ch, ch1, mv, th, th1]
theorem lane22 (a : St) : ss (bb a 25) a 25 22 = ch (mv (th (col a) a 5) 24).a 5 22 := by simp [ss, bb, chi, upd, place, dd, col, turn, ch, ch1, mv, th, th1]
theorem lane23 (a : St) : ss (bb a 25) a 25 23 = ch (mv (th (col a) a 5) 24).a 5 23 := by simp [ss, bb, chi, upd, place, dd, col, turn, ch, ch1, mv, th, th1]
theorem lane24 (a : St) : ss (bb a 25) a 25 24 = ch (mv (th (col a) a 5) 24).a 5 24 := by simp [ss, bb, chi, upd, place, dd, col, turn, ch, ch1, mv, th, th1]
theorem lane (a : St) (k : Nat) (hk : k < 25) : ss (bb a 25) a 25 k = ch (mv (th (col a) a 5) 24).a 5 k := by
  match k, hk with
  | 0, _ => exact lane0 a
  | 1, _ => exact lane1 a
  | 2, _ => exact lane2 a
  | 3, _ => exact lane3 a
  | 4, _ => exact lane4 a
  | 5, _ => exact lane5 a
  | 6, _ => exact lane6 a
  | 7, _ => exact lane7 a
  | 8, _ => exact lane8 a
  | 9, _ => exact lane9 a
  | 10, _ => exact lane10 a
  | 11, _ => exact lane11 a
  | 12, _ => exact lane12 a
  | 13, _ => exact lane13 a
  | 14, _ => exact lane14 a
  | 15, _ => exact lane15 a
  | 16, _ => exact lane16 a
  | 17, _ => exact lane17 a
  | 18, _ => exact lane18 a
  | 19, _ => exact lane19 a
  | 20, _ => exact lane20 a
  | 21, _ => exact lane21 a
  | 22, _ => exact lane22 a
  | 23, _ => exact lane23 a
  | 24, _ => exact lane24 a
  | k + 25, h => omega
def Same (a b : St) : Prop := ∀ k, k < 25 → a k = b k
end Go.Proofs.YtmlajcbabimkjaaGreat.Kec
/-
  Lanes in memory; a turned lane.
  Conditions: none.
-/
namespace Go.Proofs.YtmlajcbabimkjaaGreat
open Go.RowKit Mono
open Kec
def u (x : L) : Int := (x.toNat : Int)
theorem u_range (x : L) : 0 ≤ u x ∧ u x < 18446744073709551616 := by
  have := x.isLt
  unfold u
  omega
theorem u_xor (x y : L) : bits .xor .u64 (u x) (u y) = u (x ^^^ y) := by
  unfold u
  rw [u64_xor_nat _ _ x.isLt y.isLt, BitVec.toNat_xor]
theorem u_and (x y : L) : bits .and .u64 (u x) (u y) = u (x &&& y) := by
  unfold u
  rw [u64_and_nat _ _ x.isLt y.isLt, BitVec.toNat_and]
theorem u_or (x y : L) : bits .or .u64 (u x) (u y) = u (x ||| y) := by
  unfold u
  rw [u64_or_nat _ _ x.isLt y.isLt, BitVec.toNat_or]
theorem u_shl (x : L) (n : Nat) : IntKind.u64.wrap (u x * 2 ^ n) = u (x <<< n) := by
  unfold u
  rw [IntKind.wrap_u64, BitVec.toNat_shiftLeft, Nat.shiftLeft_eq]
  have h : ((x.toNat : Int) * 2 ^ n) = ((x.toNat * 2 ^ n : Nat) : Int) := by simp
  rw [h]
  exact (Int.natCast_emod _ _).symm
theorem u_shr (x : L) (n : Nat) : u x / 2 ^ n = u (x >>> n) := by
  unfold u
  rw [BitVec.toNat_ushiftRight, Nat.shiftRight_eq_div_pow]
  simp
def lv (x : L) : Value := .int .u64 (u x)
set_option maxHeartbeats 400000 in
theorem rotate (x : L) (k : Nat) (hk : k < 64) (w : World) : Calls Tryz.prog 139 #[.int .u64 (u x), .int .i64 k] w fun e w' => e = .returned (.int .u64 (u (rotl x k))) ∧ w' = w := by
  have ha : bits .and .u64 (k : Int) 63 = k := by
    have := u64_and_nat k 63 (by omega) (by omega)
    rw [show ((63 : Nat) : Int) = 63 from rfl] at this
    rw [this]
    congr 1
    exact (Nat.and_two_pow_sub_one_eq_mod k 6).trans (Nat.mod_eq_of_lt hk)
  have hx := u_range x
  have hx0 := hx.1
  clear hx
  go_enter Tryz.func139, Tryz.ntmps139
  go_wp2
  refine bodyPost_ret (results_tmp rfl _ _ _) rfl ⟨?_, rfl⟩
  show Ending.returned (.int .u64 (bits .or .u64 (IntKind.u64.wrap (u x * 2 ^ k)) (u x / 2 ^ (64 - k)))) = _
  rw [u_shl, u_shr, u_or]
  rfl
set_option maxHeartbeats 400000 in
theorem rol (x : L) (k : Nat) (hk : k < 64) (w : World) : Calls Tryz.prog 84 #[.int .u64 (u x), .int .u64 k] w fun e w' => e = .returned (.int .u64 (u (rotl x k))) ∧ w' = w := by
  by_cases h0 : k = 0
  · subst h0
    rw [rotl_zero]
    go_enter Tryz.func84, Tryz.ntmps84
    go_wp2
    exact bodyPost_ret (results_tmp rfl _ _ _) rfl ⟨rfl, rfl⟩
  · have hk1 : 0 < k := by omega
    clear h0
    go_enter Tryz.func84, Tryz.ntmps84
    go_wp2
    refine bodyPost_ret (results_tmp rfl _ _ _) rfl ⟨?_, rfl⟩
    show Ending.returned (.int .u64 (bits .or .u64 (IntKind.u64.wrap (u x * 2 ^ k)) (u x / 2 ^ (64 - k)))) = _
    rw [u_shl, u_shr, u_or]
    rfl
/-! ### Lanes in a block -/
def cellsOf (f : St) (n : Nat) : Array Value := ((List.range n).map fun k => lv (f k)).toArray
def Lanes (w : World) (g : Nat) (t : TypeId) (n : Nat) (f : St) : Prop := w.heap[g]? = some (.cells (cellsOf f n) t (0, 0))
theorem cellsOf_size (f : St) (n : Nat) : (cellsOf f n).size = n := by simp [cellsOf]
theorem cellsOf_get (f : St) (n k : Nat) (h : k < n) : (cellsOf f n)[k]? = some (lv (f k)) := by simp [cellsOf, h]
theorem cellsOf_set (f : St) (n k : Nat) (v : L) : (cellsOf f n).setIfInBounds k (lv v) = cellsOf (Kec.upd f k v) n := by
  apply Array.ext_getElem?
  intro i
  rw [Array.getElem?_setIfInBounds]
  by_cases hi : i < n
  · by_cases hk : k = i
    · subst hk
      rw [if_pos rfl, cellsOf_size, if_pos hi, cellsOf_get _ n k hi]
      congr 2
      exact (if_pos rfl).symm
    · rw [if_neg hk, cellsOf_get _ n i hi, cellsOf_get _ n i hi]
      congr 2
      exact (if_neg (Ne.symm hk)).symm
  · have h1 : (cellsOf f n)[i]? = none := Array.getElem?_eq_none (by rw [cellsOf_size]; omega)
    have h2 : (cellsOf (Kec.upd f k v) n)[i]? = none := Array.getElem?_eq_none (by rw [cellsOf_size]; omega)
    rw [h1, h2]
    by_cases hk : k = i
    · subst hk; rw [if_pos rfl, cellsOf_size, if_neg hi]
    · rw [if_neg hk]
section
variable {w w' : World} {g : Nat} {t : TypeId} {n : Nat} {f : St}
theorem Lanes.lt (h : Lanes w g t n f) : g < w.heap.size := by
  rcases Nat.lt_or_ge g w.heap.size with h1 | h1
  · exact h1
  · unfold Lanes at h; rw [Array.getElem?_eq_none h1] at h; cases h
theorem Lanes.cell (h : Lanes w g t n f) (k : Nat) (hk : k < n) : w.cell? ⟨g, k, none⟩ = some (lv (f k)) := by
  rw [cell_of_row w g k _ t (0, 0) h]
  exact cellsOf_get f n k hk
theorem Lanes.frozen (h : Lanes w g t n f) (k : Nat) : w.frozen? ⟨g, k, none⟩ = false := by
  unfold Lanes at h
  simp [World.frozen?, h]
theorem Lanes.gr (h : Lanes w g t n f) (hg : Gr w w') : Lanes w' g t n f := (hg.block g h.lt).trans h
theorem Lanes.set (h : Lanes w g t n f) (k : Nat) (v : L) : Lanes (w.setCell ⟨g, k, none⟩ (lv v)) g t n (Kec.upd f k v) := by
  unfold Lanes at h ⊢
  simp [World.setCell, Array.getElem?_modify, h, cellsOf_set]
theorem Lanes.far (h : Lanes w g t n f) {p : Addr} (hp : g ≠ p.block) (v : Value) : Lanes (w.setCell p v) g t n f := (Below.heap_setCell w p v g hp).trans h
theorem Lanes.alloc (h : Lanes w g t n f) (o : Obj) : Lanes (w.alloc o) g t n f := h.gr (gr_alloc w o)
theorem Lanes.grown (h : Lanes w g t n f) {row : Option Nat} (hg : w.grownBy w' row) (hne : some g ≠ row) : Lanes w' g t n f := (hg.block g h.lt hne).trans h
end
def Only (g : Nat) (w w' : World) : Prop := w.grownBy w' (some g)
theorem Only.of_gr {w w' : World} (h : Gr w w') (g : Nat) : Only g w w' := ⟨h.os, h.tape, h.output, h.size, fun k hk _ => h.block k hk⟩
theorem Only.refl (g : Nat) (w : World) : Only g w w := Only.of_gr (Gr.refl w) g
theorem Only.trans {g : Nat} {a b c : World} (h : Only g a b) (k : Only g b c) : Only g a c :=
  ⟨k.os.trans h.os, k.tape.trans h.tape, k.output.trans h.output, Nat.le_trans h.size k.size, fun i hi hne => (k.block i (Nat.lt_of_lt_of_le hi h.size) hne).trans (h.block i hi hne)⟩
theorem Only.set {g : Nat} (w : World) (k : Nat) (v : Value) : Only g w (w.setCell ⟨g, k, none⟩ v) :=
  ⟨rfl, rfl, rfl, by simp [World.setCell], fun i _ hne => Below.heap_setCell w _ v i (fun e => hne (by rw [e]))⟩
theorem Only.gr {g : Nat} {a b c : World} (hab : Gr a b) (h : Only g b c) (hg : a.heap.size ≤ g) : Gr a c :=
  ⟨h.os.trans hab.os, h.tape.trans hab.tape, h.output.trans hab.output, Nat.le_trans hab.size h.size, fun i hi => (h.block i (Nat.lt_of_lt_of_le hi hab.size) (fun e => by injection e with e; omega)).trans (hab.block i hi)⟩
end Go.Proofs.YtmlajcbabimkjaaGreat
/-
  keccak's take: a byte into a lane.
  Conditions: the place is below 136.
-/
namespace Go.Proofs.YtmlajcbabimkjaaGreat
open Go.RowKit Mono
open Kec (L St rotl)
def takeB (f : St) (k : Nat) (b : Nat) : St := Kec.upd f (k / 8) (f (k / 8) ^^^ (BitVec.ofNat 64 b) <<< (8 * (k % 8)))
theorem u_byte (n : Nat) (h : n < 256) : u (BitVec.ofNat 64 n) = (n : Int) := by
  unfold u
  rw [BitVec.toNat_ofNat]
  omega
def RetU (R : World → Prop) (e : Ending) (w' : World) : Prop := e = .returned (.tuple #[]) ∧ R w'
set_option maxHeartbeats 400000 in
theorem kec_take (g : Nat) (t : TypeId) (f : St) (k n : Nat) (hk : k < 136) (hn : n < 256) (w : World) (hl : Lanes w g t 25 f) :
    Calls Tryz.prog 97 #[.pointer (some ⟨g, 0, none⟩), .int .i64 k, .int .u8 n] w (RetU fun w' => Lanes w' g t 25 (takeB f k n) ∧ Only g w w') := by
  have hg := hl.lt
  have c1 := later_cell (w := w) (p := ⟨g, k / 8, none⟩) hg (hl.cell (k / 8) (by omega))
  unfold lv at c1
  have hu := u_range (f (k / 8))
  have hu0 := hu.1
  have HL := Lib.hid hl
  clear hl hu
  go_enter Tryz.func97, Tryz.ntmps97
  go_wp2
  refine wp_region_N 15 (by kernel_rfl) (by kernel_rfl) (by kernel_rfl) ?_
  simp only [List.take_succ_cons, List.take_zero, List.drop_succ_cons, List.drop_zero]
  refine wpN_quiet 15 (by kernel_rfl) ?_
  simp only [List.take_succ_cons, List.take_zero, List.drop_succ_cons, List.drop_zero]
  repeat (go_big_quiet_step (fail))
  refine wpQuiet_nil ?_
  refine wpN_nil (by kernel_rfl) ?_
  intro W hW
  replace hW := hW.gr
  unfold finN
  have HW := Lib.hid (HL.out.gr hW)
  have e1 := HW.out.cell (k / 8) (by omega)
  have e2 := HW.out.frozen (k / 8)
  unfold lv at e1
  go_wp2
  refine bodyPost_ret (results_none rfl _ _ _) rfl ⟨rfl, ?_⟩
  have hv : Value.int .u64 (bits .xor .u64 (u (f (k / 8))) (IntKind.u64.wrap ((n : Int) * 2 ^ (8 * (k % 8))))) = lv (f (k / 8) ^^^ (BitVec.ofNat 64 n) <<< (8 * (k % 8))) := by
    rw [← u_byte n hn, u_shl, u_xor]
    rfl
  rw [hv]
  exact ⟨HW.out.set _ _, (Only.of_gr hW g).trans (Only.set _ _ _)⟩
end Go.Proofs.YtmlajcbabimkjaaGreat
/-
  keccak's round.
  Conditions: none.
-/
namespace Go.Proofs.YtmlajcbabimkjaaGreat
open Go.RowKit Mono
open Kec (L St rotl)
def turnCells : Array Value := ((List.range 25).map fun k => Value.int .i64 (Kec.turn k)).toArray
def Turns (w : World) (g : Nat) (t : TypeId) : Prop := w.heap[g]? = some (.cells turnCells t (0, 0))
theorem Turns.cell {w : World} {g : Nat} {t : TypeId} (h : Turns w g t) (k : Nat) (hk : k < 25) : w.cell? ⟨g, k, none⟩ = some (.int .i64 (Kec.turn k)) := by
  rw [cell_of_row w g k _ t (0, 0) h]
  simp [turnCells, hk]
theorem Turns.lt {w : World} {g : Nat} {t : TypeId} (h : Turns w g t) : g < w.heap.size := by
  rcases Nat.lt_or_ge g w.heap.size with h1 | h1
  · exact h1
  · unfold Turns at h; rw [Array.getElem?_eq_none h1] at h; cases h
theorem Turns.gr {w w' : World} {g : Nat} {t : TypeId} (h : Turns w g t) (hg : Gr w w') : Turns w' g t := (hg.block g h.lt).trans h
theorem turn_lt : ∀ k, k < 25 → Kec.turn k < 64 := by decide
theorem place_lt : ∀ k, k < 25 → Kec.place k < 25 := by decide
def firstN (f : St) (n : Nat) : St := fun j => if j < n then f j else 0
theorem firstN_step (f : St) (n : Nat) : Kec.upd (firstN f n) n (f n) = firstN f (n + 1) := by
  funext j
  unfold Kec.upd firstN
  by_cases h : j = n
  · subst h; rw [if_pos rfl, if_pos (by omega)]
  · rw [if_neg h]
    by_cases h2 : j < n
    · rw [if_pos h2, if_pos (by omega)]
    · rw [if_neg h2, if_neg (by omega)]
theorem firstN_zero (f : St) : firstN f 0 = fun _ => 0 := by funext j; simp [firstN]
theorem lanes_new (w : World) (t : TypeId) (n : Nat) (c : Array Value) (h : c = cellsOf (fun _ => 0) n) : Lanes (w.alloc (.cells c t)) w.heap.size t n (fun _ => 0) := by
  subst h
  unfold Lanes World.alloc
  simp
theorem u_not (x : L) : bits .xor .u64 (if IntKind.u64.signed = true then -1 else IntKind.u64.max) (u x) = u (~~~x) := by
  have h : (if IntKind.u64.signed = true then -1 else IntKind.u64.max) = u (BitVec.allOnes 64) := rfl
  rw [h, u_xor, BitVec.allOnes_xor]
theorem alloc_len (w : World) (o : Obj) : (w.alloc o).heap.size = w.heap.size + 1 := by simp
theorem u_col (s : St) (k : Nat) : bits .xor .u64 (bits .xor .u64 (bits .xor .u64 (bits .xor .u64 (u (s k)) (u (s (k + 5)))) (u (s (k + 10)))) (u (s (k + 15)))) (u (s (k + 20))) = u (Kec.col s k) := by
  simp only [u_xor]
  rfl
set_option maxRecDepth 20000 in
set_option maxHeartbeats 1000000 in
theorem kec_round (g gt : Nat) (t tt : TypeId) (s : St) (n : L) (w : World) (hl : Lanes w g t 25 s) (ht : Turns w gt tt) :
    Calls Tryz.prog 126 #[.pointer (some ⟨g, 0, none⟩), .pointer (some ⟨gt, 0, none⟩), .int .u64 (u n)] w (RetU fun w' => Lanes w' g t 25 (Kec.round s n) ∧ Only g w w') := by
  have hg := hl.lt
  have hgt := ht.lt
  have HL := Lib.hid hl
  have HT := Lib.hid ht
  clear hl ht
  go_enter Tryz.func126, Tryz.ntmps126
  go_wp2
  go_loopw [17] (fun i wr => ∃ k : Nat, k ≤ 5 ∧ i = .int .i64 k ∧ Lanes wr w.heap.size 160 5 (firstN (Kec.col s) k) ∧ Lanes wr (w.heap.size + 1) 160 5 (fun _ => 0) ∧ Gr w wr) (fun i _ => 5 - (intOf i).toNat)
  case atStart =>
    refine ⟨0, by omega, rfl, ?_, ?_, ?_⟩
    · rw [firstN_zero]
      exact (lanes_new w 160 5 _ rfl).alloc _
    · have := lanes_new (w.alloc (.cells #[.int .u64 0, .int .u64 0, .int .u64 0, .int .u64 0, .int .u64 0] 160)) 160 5 _ rfl
      rw [alloc_len] at this
      exact this
    · exact (gr_alloc w _).trans (gr_alloc _ _)
  case round =>
    obtain ⟨k, hk, rfl, hc, hd, hb⟩ := hrel
    have hbs := hb.size
    have HC := Lib.hid hc
    have HD := Lib.hid hd
    have HB := Lib.hid hb
    have hcl := hc.lt
    have hdl := hd.lt
    clear hc hd hb
    by_cases h1 : k < 5
    · have c0 := later_cell (w := wr) (p := ⟨g, k, none⟩) (by dsimp only; omega) ((HL.out.gr HB.out).cell k (by omega))
      have c1 := later_cell (w := wr) (p := ⟨g, k + 5, none⟩) (by dsimp only; omega) ((HL.out.gr HB.out).cell (k + 5) (by omega))
      have c2 := later_cell (w := wr) (p := ⟨g, k + 10, none⟩) (by dsimp only; omega) ((HL.out.gr HB.out).cell (k + 10) (by omega))
      have c3 := later_cell (w := wr) (p := ⟨g, k + 15, none⟩) (by dsimp only; omega) ((HL.out.gr HB.out).cell (k + 15) (by omega))
      have c4 := later_cell (w := wr) (p := ⟨g, k + 20, none⟩) (by dsimp only; omega) ((HL.out.gr HB.out).cell (k + 20) (by omega))
      unfold lv at c0 c1 c2 c3 c4
      go_wp2
      refine wp_region_N 35 (by kernel_rfl) (by kernel_rfl) (by kernel_rfl) ?_
      simp only [List.take_succ_cons, List.take_zero, List.drop_succ_cons, List.drop_zero]
      refine wpN_quiet 35 (by kernel_rfl) ?_
      simp only [List.take_succ_cons, List.take_zero, List.drop_succ_cons, List.drop_zero]
      repeat (go_big_quiet_step (fail))
      refine wpQuiet_nil ?_
      refine wpN_nil (by kernel_rfl) ?_
      intro W hW
      replace hW := hW.gr
      unfold finN
      rename_i wq hW
      have HQ := Lib.hid (HC.out.gr hW)
      have e2 := HQ.out.frozen k
      have e1 := HQ.out.cell k (by omega)
      unfold lv at e1
      go_wp2
      go_roundw
      case rel =>
        rw [u_col]
        refine ⟨k + 1, by omega, by go_num, ?_, ?_, ?_⟩
        · rw [← firstN_step]
          exact HQ.out.set k (Kec.col s k)
        · exact ((HD.out.gr hW)).far (by simp) _
        · exact (Only.set (g := w.heap.size) _ k _).gr (HB.out.trans hW) (Nat.le_refl _)
      case measure => simp [intOf]; omega
    · have h5 : k = 5 := by omega
      subst h5
      go_wp2_with fail
      obtain ⟨wo, rfl⟩ : ∃ wo : World, wo = wr := ⟨_, rfl⟩
      go_loopw [56] (fun i wr => ∃ k : Nat, k ≤ 5 ∧ i = .int .i64 k ∧ Lanes wr w.heap.size 160 5 (firstN (Kec.col s) 5) ∧ Lanes wr (w.heap.size + 1) 160 5 (firstN (Kec.dd s) k) ∧ Gr w wr) (fun i _ => 5 - (intOf i).toNat)
      case atStart => exact ⟨0, by omega, rfl, HC.out, by rw [firstN_zero]; exact HD.out, HB.out⟩
      case round =>
        clear HB HC HD
        obtain ⟨k, hk, rfl, hc, hd, hb⟩ := hrel
        have hbs := hb.size
        have HC := Lib.hid hc
        have HD := Lib.hid hd
        have HB := Lib.hid hb
        have hcl := hc.lt
        have hdl := hd.lt
        clear hc hd hb
        by_cases h1 : k < 5
        · have c0 := later_cell (w := wr) (p := ⟨w.heap.size, (k + 4) % 5, none⟩) (by dsimp only; omega) (HC.out.cell ((k + 4) % 5) (by omega))
          have c1 := later_cell (w := wr) (p := ⟨w.heap.size, (k + 1) % 5, none⟩) (by dsimp only; omega) (HC.out.cell ((k + 1) % 5) (by omega))
          unfold lv at c0 c1
          go_wp2
          refine wp_region_N 14 (by kernel_rfl) (by kernel_rfl) (by kernel_rfl) ?_
          simp only [List.take_succ_cons, List.take_zero, List.drop_succ_cons, List.drop_zero]
          refine wpN_quiet 11 (by kernel_rfl) ?_
          simp only [List.take_succ_cons, List.take_zero, List.drop_succ_cons, List.drop_zero]
          repeat (go_big_quiet_step (fail))
          refine wpQuiet_nil ?_
          refine wpN_val (.int .u64 (u (rotl (firstN (Kec.col s) 5 ((k + 1) % 5)) 1))) rfl (by kernel_rfl) (by kernel_rfl) (fun xw => ?_) ?_
          · refine growsTo_call (by simp [go_sem]) ((rotate (firstN (Kec.col s) 5 ((k + 1) % 5)) 1 (by omega) _).mono ?_)
            rintro e w' ⟨rfl, rfl⟩
            exact ⟨_, rfl, Gr.refl _, rfl⟩
          simp only [Act.put, List.setIfInBounds_toArray, List.set_cons_succ, List.set_cons_zero]
          refine wpN_quiet 2 (by kernel_rfl) ?_
          simp only [List.take_succ_cons, List.take_zero, List.drop_succ_cons, List.drop_zero]
          repeat (go_big_quiet_step (fail))
          refine wpQuiet_nil ?_
          refine wpN_nil (by kernel_rfl) ?_
          intro W hW
          replace hW := hW.gr
          unfold finN
          rename_i wq hW
          have HQ := Lib.hid (HD.out.gr hW)
          have e2 := HQ.out.frozen k
          have e1 := HQ.out.cell k (by omega)
          unfold lv at e1
          go_wp2
          go_roundw
          case rel =>
            have hf : u (firstN (Kec.col s) 5 ((k + 4) % 5)) = u (Kec.col s ((k + 4) % 5)) := by unfold firstN; rw [if_pos (by omega)]
            have hf1 : firstN (Kec.col s) 5 ((k + 1) % 5) = Kec.col s ((k + 1) % 5) := by unfold firstN; rw [if_pos (by omega)]
            rw [hf, hf1, u_xor]
            refine ⟨k + 1, by omega, by go_num, ?_, ?_, ?_⟩
            · exact (HC.out.gr hW).far (by simp) _
            · rw [← firstN_step]
              exact HQ.out.set k (Kec.dd s k)
            · exact (Only.set (g := w.heap.size + 1) _ k _).gr (HB.out.trans hW) (by omega)
          case measure => simp [intOf]; omega
        · have h5 : k = 5 := by omega
          subst h5
          go_wp2_with fail
          obtain ⟨wo, rfl⟩ : ∃ wo : World, wo = wr := ⟨_, rfl⟩
          go_loopw [74] (fun i wr => ∃ k : Nat, k ≤ 25 ∧ i = .int .i64 k ∧ Lanes wr (w.heap.size + 1) 160 5 (firstN (Kec.dd s) 5) ∧ Lanes wr wo.heap.size 173 25 (Kec.bb s k) ∧ Gr w wr) (fun i _ => 25 - (intOf i).toNat)
          case atStart => exact ⟨0, by omega, rfl, HD.out.alloc _, lanes_new wo 173 25 _ rfl, HB.out.trans (gr_alloc _ _)⟩
          case round =>
            clear HB HC HD
            obtain ⟨k, hk, rfl, hd, he, hb⟩ := hrel
            have hbs2 := hb.size
            have HE := Lib.hid he
            have HD := Lib.hid hd
            have HB := Lib.hid hb
            have hel := he.lt
            clear he hd hb
            by_cases h1 : k < 25
            · have c0 := later_cell (w := wr) (p := ⟨g, k, none⟩) (by dsimp only; omega) ((HL.out.gr HB.out).cell k (by omega))
              have c1 := later_cell (w := wr) (p := ⟨w.heap.size + 1, k % 5, none⟩) (by dsimp only; omega) (HD.out.cell (k % 5) (by omega))
              have c2 := later_cell (w := wr) (p := ⟨gt, k, none⟩) (by dsimp only; omega) ((HT.out.gr HB.out).cell k (by omega))
              unfold lv at c0 c1
              go_wp2
              refine wp_region_N 25 (by kernel_rfl) (by kernel_rfl) (by kernel_rfl) ?_
              simp only [List.take_succ_cons, List.take_zero, List.drop_succ_cons, List.drop_zero]
              refine wpN_quiet 23 (by kernel_rfl) ?_
              simp only [List.take_succ_cons, List.take_zero, List.drop_succ_cons, List.drop_zero]
              repeat (go_big_quiet_step (fail))
              refine wpQuiet_nil ?_
              refine wpN_val (.int .u64 (u (rotl (s k ^^^ firstN (Kec.dd s) 5 (k % 5)) (Kec.turn k)))) rfl (by kernel_rfl) (by kernel_rfl) (fun xw => ?_) ?_
              · refine growsTo_call (by simp [go_sem, u_xor]) ((rotate (s k ^^^ firstN (Kec.dd s) 5 (k % 5)) (Kec.turn k) (turn_lt k h1) _).mono ?_)
                rintro e w' ⟨rfl, rfl⟩
                exact ⟨_, rfl, Gr.refl _, rfl⟩
              simp only [Act.put, List.setIfInBounds_toArray, List.set_cons_succ, List.set_cons_zero]
              refine wpN_quiet 1 (by kernel_rfl) ?_
              simp only [List.take_succ_cons, List.take_zero, List.drop_succ_cons, List.drop_zero]
              repeat (go_big_quiet_step (fail))
              refine wpQuiet_nil ?_
              refine wpN_nil (by kernel_rfl) ?_
              intro W hW
              replace hW := hW.gr
              unfold finN
              rename_i wq hW
              have HQ := Lib.hid (HE.out.gr hW)
              have e2 := HQ.out.frozen (Kec.place k)
              have e1 := HQ.out.cell (Kec.place k) (place_lt k h1)
              unfold lv at e1
              unfold Kec.place at e1 e2
              go_wp2
              go_roundw
              case rel =>
                have hv : u (rotl (s k ^^^ firstN (Kec.dd s) 5 (k % 5)) (Kec.turn k)) = u (rotl (s k ^^^ Kec.dd s (k % 5)) (Kec.turn k)) := by
                  unfold firstN
                  rw [if_pos (by omega)]
                rw [hv]
                refine ⟨k + 1, by omega, by go_num, ?_, ?_, ?_⟩
                · exact (HD.out.gr hW).far (by dsimp only; omega) _
                · exact HQ.out.set (Kec.place k) _
                · exact (Only.set (g := wo.heap.size) _ (Kec.place k) _).gr (HB.out.trans hW) (by omega)
              case measure => simp [intOf]; omega
            · have h5 : k = 25 := by omega
              subst h5
              go_wp2_with fail
              obtain ⟨wo2, rfl⟩ : ∃ wo : World, wo = wr := ⟨_, rfl⟩
              go_loopw [107] (fun i wr => ∃ k : Nat, k ≤ 25 ∧ i = .int .i64 k ∧ Lanes wr wo.heap.size 173 25 (Kec.bb s 25) ∧ Lanes wr g t 25 (Kec.ss (Kec.bb s 25) s k) ∧ Only g w wr) (fun i _ => 25 - (intOf i).toNat)
              case atStart => exact ⟨0, by omega, rfl, HE.out, HL.out.gr HB.out, Only.of_gr HB.out g⟩
              case round =>
                clear HB HE HD
                obtain ⟨k, hk, rfl, he, hl, ho⟩ := hrel
                have hbs3 := ho.size
                have HE := Lib.hid he
                have HM := Lib.hid hl
                have HO := Lib.hid ho
                have hel := he.lt
                clear he hl ho
                by_cases h1 : k < 25
                · have c0 := later_cell (w := wr) (p := ⟨wo.heap.size, k, none⟩) (by dsimp only; omega) (HE.out.cell k (by omega))
                  have c1 := later_cell (w := wr) (p := ⟨wo.heap.size, (k + 1) % 5 + k / 5 * 5, none⟩) (by dsimp only; omega) (HE.out.cell ((k + 1) % 5 + k / 5 * 5) (by omega))
                  have c2 := later_cell (w := wr) (p := ⟨wo.heap.size, (k + 2) % 5 + k / 5 * 5, none⟩) (by dsimp only; omega) (HE.out.cell ((k + 2) % 5 + k / 5 * 5) (by omega))
                  unfold lv at c0 c1 c2
                  go_wp2
                  refine wp_region_N 24 (by kernel_rfl) (by kernel_rfl) (by kernel_rfl) ?_
                  simp only [List.take_succ_cons, List.take_zero, List.drop_succ_cons, List.drop_zero]
                  refine wpN_quiet 24 (by kernel_rfl) ?_
                  simp only [List.take_succ_cons, List.take_zero, List.drop_succ_cons, List.drop_zero]
                  repeat (go_big_quiet_step (fail))
                  refine wpQuiet_nil ?_
                  refine wpN_nil (by kernel_rfl) ?_
                  intro W hW
                  replace hW := hW.gr
                  unfold finN
                  rename_i wq hW
                  have HQ := Lib.hid (HM.out.gr hW)
                  have e2 := HQ.out.frozen k
                  have e1 := HQ.out.cell k (by omega)
                  unfold lv at e1
                  go_wp2
                  go_roundw
                  case rel =>
                    have hv : u (Kec.bb s 25 k ^^^ (~~~ Kec.bb s 25 ((k + 1) % 5 + k / 5 * 5) &&& Kec.bb s 25 ((k + 2) % 5 + k / 5 * 5))) = u (Kec.chi (Kec.bb s 25) k) := by
                      unfold Kec.chi
                      rw [show (k % 5 + 1) % 5 = (k + 1) % 5 by omega, show (k % 5 + 2) % 5 = (k + 2) % 5 by omega]
                    rw [u_not, u_and, u_xor, hv]
                    refine ⟨k + 1, by omega, by go_num, ?_, ?_, ?_⟩
                    · exact (HE.out.gr hW).far (by dsimp only; omega) _
                    · exact HQ.out.set k _
                    · exact (HO.out.trans (Only.of_gr hW g)).trans (Only.set _ _ _)
                  case measure => simp [intOf]; omega
                · have h5 : k = 25 := by omega
                  subst h5
                  have c0 := later_cell (w := wr) (p := ⟨g, 0, none⟩) (by dsimp only; omega) (HM.out.cell 0 (by omega))
                  unfold lv at c0
                  go_wp2
                  refine wp_region_N 8 (by kernel_rfl) (by kernel_rfl) (by kernel_rfl) ?_
                  simp only [List.take_succ_cons, List.take_zero, List.drop_succ_cons, List.drop_zero]
                  refine wpN_quiet 8 (by kernel_rfl) ?_
                  simp only [List.take_succ_cons, List.take_zero, List.drop_succ_cons, List.drop_zero]
                  repeat (go_big_quiet_step (fail))
                  refine wpQuiet_nil ?_
                  refine wpN_nil (by kernel_rfl) ?_
                  intro W hW
                  replace hW := hW.gr
                  unfold finN
                  rename_i wq hW
                  have HQ := Lib.hid (HM.out.gr hW)
                  have e2 := HQ.out.frozen 0
                  have e1 := HQ.out.cell 0 (by omega)
                  unfold lv at e1
                  go_wp2
                  refine bodyPost_ret (results_none rfl _ _ _) rfl ⟨rfl, ?_⟩
                  rw [u_xor]
                  exact ⟨HQ.out.set 0 _, (HO.out.trans (Only.of_gr hW g)).trans (Only.set _ _ _)⟩
end Go.Proofs.YtmlajcbabimkjaaGreat
