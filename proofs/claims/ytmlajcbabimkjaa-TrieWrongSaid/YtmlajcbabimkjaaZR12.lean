/-
  Merged (wip/tools/merge.py): Join3, Pack, TP1, Kec, KecMem, KecTake, KecRound, KecRef, KecPerm, KecPlain, KecSponge.
  Conditions: none.
-/
import Derived.Test.YtmlajcbabimkjaaZR11
import Derived.Test.YtmlajcbabimkjaaZR7
import Derived.Test.YtmlajcbabimkjaaZR2
import Derived.BigQuiet
import Derived.Deep.QuietTactic
import Derived.Laws.BitsAllLaws
import Derived.Laws.Rows
import Derived.Laws.Tables
import Derived.Deep.WholeRow
/-
  path.Join.
  Conditions: at most 2 to the 30th half bytes.
-/
namespace Go.Proofs.Ytmlajcbabimkjaa
open Go.RowKit Mono
theorem joinL_big : ∀ (p : List UInt8), (p.any fun x => decide (15 < x.toNat)) = true → joinL p = none
  | [], h => by simp at h
  | [_], _ => rfl
  | x :: y :: r, h => by
    rw [joinL]
    split
    · rename_i hc
      rw [joinL_big r (by
        simp only [List.any_cons, Bool.or_eq_true, decide_eq_true_eq] at h
        rcases h with h | h | h
        · omega
        · omega
        · exact h)]
      rfl
    · rfl
theorem small_at (p : List UInt8) (h : (p.any fun x => decide (15 < x.toNat)) = false) (k : Nat) (hk : k < p.length) : p[k].toNat ≤ 15 := by
  rw [List.any_eq_false] at h
  have := h p[k] (List.getElem_mem hk)
  simpa using this
set_option maxHeartbeats 400000 in
theorem path_join (v1 : Value) (p : List UInt8) (w : World) (h1 : IsB w v1 p) (hlen : p.length ≤ 1073741824) :
    Calls Try.prog 136 #[v1] w (Ret (JoinV w.heap.size p) w) := by
  have hf := path_fine v1 p w h1
  obtain ⟨A, c, rfl, hl1, hl2, hA⟩ := h1
  clear hl1 hl2
  have HA := Lib.hid hA
  clear hA
  by_cases hodd : p.length % 2 = 1
  · have HJ := Lib.hid (joinL_odd p hodd)
    have hoddI : (p.length : Int) % 2 = 1 := by omega
    clear hf hodd
    go_enter Try.func136, Try.ntmps136
    go_wp2_with fail
    refine bodyPost_ret (results_tmp2 rfl _ _ _) rfl ?_
    refine ⟨_, rfl, Below.refl _ _, .slice none 0 0, ?_, ?_⟩
    · rw [HJ.out]; rfl
    · rw [HJ.out]; exact OwnB.nil _ _
  · have hev : p.length % 2 = 0 := by omega
    clear hodd
    have hevI : (p.length : Int) % 2 = 0 := by omega
    by_cases hbig : (p.any fun x => decide (15 < x.toNat)) = true
    · rw [hbig] at hf
      have HJ := Lib.hid (joinL_big p hbig)
      have HF := Lib.hid hf
      clear hf hbig
      go_enter Try.func136, Try.ntmps136
      go_wp2_with (go_at_call 150; refine HF.out.mono ?_; rintro e w' ⟨rfl, q, rfl⟩)
      refine bodyPost_ret (results_tmp2 rfl _ _ _) rfl ?_
      refine ⟨_, rfl, below_drewN (Below.refl _ _) q, .slice none 0 0, ?_, ?_⟩
      · rw [HJ.out]; rfl
      · rw [HJ.out]; exact OwnB.nil _ _
    · have hbig' : (p.any fun x => decide (15 < x.toNat)) = false := by simpa using hbig
      rw [hbig'] at hf
      have HF := Lib.hid hf
      have HS0 := Lib.hid (small_at p hbig')
      clear hf hbig hbig'
      go_enter Try.func136, Try.ntmps136
      go_wp2_with (go_at_call 150; refine HF.out.mono ?_; rintro e w' ⟨rfl, q, rfl⟩)
      clear hevI
      go_loopw [4, 5] (fun v i wr => ∃ (j : Nat) (pre : List UInt8), 2 * j ≤ p.length ∧ i = .int .i64 (2 * j : Nat) ∧ pre.length = j ∧ OwnB wr w.heap.size v pre ∧ Below w.heap.size w wr ∧ Hid (joinL p = (joinL (p.drop (2 * j))).map (pre ++ ·))) (fun _ i _ => p.length - (intOf i).toNat)
      case atStart => exact ⟨0, [], by omega, rfl, rfl, OwnB.nil _ w.heap.size, below_drewN (Below.refl _ _) q, Lib.hid (by simp)⟩
      case round =>
        obtain ⟨j, pre, hj, rfl, hpre, hown, hb, hJ⟩ := hrel
        obtain ⟨A', c', rfl, hc1, hc2⟩ := own_form hown
        have hbs := hb.size
        have HO := Lib.hid hown
        have HB := Lib.hid hb
        have HP := Lib.hid hpre
        have hpl : pre.length ≤ j := by omega
        clear hown hb hpre
        by_cases h1 : 2 * j < p.length
        · have h2 : 2 * j + 1 < p.length := by omega
          obtain ⟨b1, o1, rfl, hb1, c1⟩ := HA.out (by intro e; have := bvs_length p; rw [e] at this; simp at this; omega)
          have hbw : b1 < wr.heap.size := by omega
          have r1 := (HB.out.cell (p := ⟨b1, o1 + 2 * j, none⟩) hb1).trans (c1 (2 * j) _ (bvs_at p (2 * j) h1))
          have r2 := (HB.out.cell (p := ⟨b1, o1 + (2 * j + 1), none⟩) hb1).trans (c1 (2 * j + 1) _ (bvs_at p (2 * j + 1) h2))
          have d1 := later_cell (w := wr) (p := ⟨b1, o1 + 2 * j, none⟩) hbw r1
          have d2 := later_cell (w := wr) (p := ⟨b1, o1 + (2 * j + 1), none⟩) hbw r2
          clear c1 r1 r2
          unfold bv at d1 d2
          have HS := Lib.hid (joinL_step p (2 * j) h1 h2)
          have hcx := HS0.out (2 * j) h1
          have hcy := HS0.out (2 * j + 1) h2
          obtain ⟨x, hx⟩ : ∃ x, x = p[2 * j].toNat := ⟨_, rfl⟩
          obtain ⟨y, hy⟩ : ∃ y, y = p[2 * j + 1].toNat := ⟨_, rfl⟩
          rw [← hx] at d1 hcx
          rw [← hy] at d2 hcy
          have HX := Lib.hid hx
          have HY := Lib.hid hy
          clear hx hy
          go_wp2
          refine wp_region_N 13 (by kernel_rfl) (by kernel_rfl) (by kernel_rfl) ?_
          simp only [List.take_succ_cons, List.take_zero, List.drop_succ_cons, List.drop_zero]
          refine wpN_quiet 12 (by kernel_rfl) ?_
          simp only [List.take_succ_cons, List.take_zero, List.drop_succ_cons, List.drop_zero]
          repeat (go_big_quiet_step (fail))
          refine wpQuiet_nil ?_
          refine wpN_gen 33 (fun v w => IsB w v [p[2 * j] <<< 4 ||| p[2 * j + 1]]) rfl rfl (by kernel_rfl) (by kernel_rfl) (stable_isB _) (fun xw => ?_) ?_
          · simp [go_sem, growsTo]
            rw [orBits x y hcx hcy]
            refine ⟨gr_alloc _ _, isB_new _ _ [p[2 * j] <<< 4 ||| p[2 * j + 1]] ?_ (by simp [maxLen])⟩
            simp [bvs, bv, orNib x y hcx hcy _ _ HX.out.symm HY.out.symm]
          refine wpN_nil (by kernel_rfl) ?_
          intro W hW
          replace hW := hW.gr
          have hbs2 := hW.size
          intro v22 h22
          obtain ⟨A22, c22, rfl, _, _, hrd⟩ := h22
          unfold finN
          go_wp2_with (at_builtin; refine wpL_append _ _ 23 slT_bytes _ _ _ _ _ _ _ (bvs [p[2 * j] <<< 4 ||| p[2 * j + 1]]) rfl rfl rfl rfl (own_gr HO.out hW) hrd (by simp [bvs]) (bvs_one _) (by simp only [maxLen]; simp; omega) (by simp; omega) (by omega) ?_; intro A2 c2 w2 hown2 hg2 _)
          go_roundw
          case rel =>
            refine ⟨j + 1, pre ++ [p[2 * j] <<< 4 ||| p[2 * j + 1]], by omega, by go_num, by simp [HP.out], ?_, (HB.out.trans (hW.mono hbs)).grown hg2 (by omega) fun j hj => own_block_ge HO.out j hj, Lib.hid ?_⟩
            · unfold OwnB
              rw [bvs_append, List.length_append]
              exact hown2
            · rw [hJ.out, HS.out, if_pos ⟨by rw [← HX.out]; exact hcx, by rw [← HY.out]; exact hcy⟩, show 2 * (j + 1) = 2 * j + 2 by omega]
              cases joinL (p.drop (2 * j + 2)) <;> simp
          case measure => simp [intOf]; omega
        · have hd := Lib.hid (List.drop_eq_nil_of_le (Nat.le_of_not_lt h1))
          go_wp2
          refine bodyPost_ret (results_tmp2 rfl _ _ _) rfl ?_
          refine ⟨_, rfl, HB.out, .slice A' pre.length c', ?_, ?_⟩
          · rw [hJ.out, hd.out]; rfl
          · rw [hJ.out, hd.out]; simpa [joinL] using HO.out
end Go.Proofs.Ytmlajcbabimkjaa
/-
  path.Pack and the reference's PackPath.
  Conditions: at most 2 to the 29th half bytes.
-/
namespace Go.Proofs.Ytmlajcbabimkjaa
open Go.RowKit Mono
def hdr (p : List UInt8) (leaf : Bool) : List UInt8 := if p.length % 2 = 1 then [if leaf then 3 else 1] else [if leaf then 2 else 0, 0]
set_option maxHeartbeats 1000000 in
theorem path_pack (v1 : Value) (p : List UInt8) (leaf : Bool) (w : World) (h1 : IsB w v1 p) (hlen : p.length ≤ 536870912) :
    Calls Try.prog 119 #[v1, .bool leaf] w (Ret (JoinV w.heap.size (hdr p leaf ++ p)) w) := by
  obtain ⟨A, c, rfl, hl1, hl2, hA⟩ := h1
  clear hl1 hl2
  have HA := Lib.hid hA
  clear hA
  by_cases hodd : p.length % 2 = 1
  · have hoddI : (p.length : Int) % 2 = 1 := by omega
    have hh : hdr p leaf = [if leaf then 3 else 1] := by unfold hdr; rw [if_pos hodd]
    rw [hh]
    clear hh hodd
    cases leaf
    · go_enter Try.func119, Try.ntmps119
      go_wp2_with (at_builtin; refine wpL_append _ _ 23 slT_bytes _ 1 _ _ p.length _ w.heap.size (bvs p) rfl rfl rfl rfl (own_lit _ _ _ _ 1 _ w.heap.size rfl (Nat.le_refl _) (by simp [maxLen]) rfl) (HA.out.below (gr_alloc _ _)) (by rw [bvs_length]; omega) (bvs_one _) (by simp only [maxLen]; omega) (by omega) (by first | (simp; done) | (simp; omega)) ?_; intro A2 c2 w2 hown2 hg2 _; have ho2 := ownB_of (l := [1] ++ p) hown2 rfl; have hb2 := ho2.isB; have H2 := Lib.hid hb2; clear ho2 hb2 hown2)
      refine (path_join _ _ _ H2.out (by simp; omega)).mono ?_
      rintro e w3 ⟨v3, rfl, hg3, v4, rfl, ho4⟩
      go_wp2
      refine bodyPost_ret (results_tmp2 rfl _ _ _) rfl ?_
      have hb1 : Below w.heap.size w w2 := Below.grown (gr_alloc _ _) hg2 (by first | (simp; done) | (simp; omega)) fun j hj => by injection hj with h; subst h; first | exact Nat.le_refl _ | simp
      exact ⟨_, rfl, hb1.trans (hg3.mono hb1.size), v4, rfl, own_base ho4 hb1.size⟩
    · go_enter Try.func119, Try.ntmps119
      go_wp2_with (at_builtin; refine wpL_append _ _ 23 slT_bytes _ 1 _ _ p.length _ w.heap.size (bvs p) rfl rfl rfl rfl (own_lit _ _ _ _ 1 _ w.heap.size rfl (Nat.le_refl _) (by simp [maxLen]) rfl) (HA.out.below (gr_alloc _ _)) (by rw [bvs_length]; omega) (bvs_one _) (by simp only [maxLen]; omega) (by omega) (by first | (simp; done) | (simp; omega)) ?_; intro A2 c2 w2 hown2 hg2 _; have ho2 := ownB_of (l := [3] ++ p) hown2 rfl; have hb2 := ho2.isB; have H2 := Lib.hid hb2; clear ho2 hb2 hown2)
      refine (path_join _ _ _ H2.out (by simp; omega)).mono ?_
      rintro e w3 ⟨v3, rfl, hg3, v4, rfl, ho4⟩
      go_wp2
      refine bodyPost_ret (results_tmp2 rfl _ _ _) rfl ?_
      have hb1 : Below w.heap.size w w2 := Below.grown (gr_alloc _ _) hg2 (by first | (simp; done) | (simp; omega)) fun j hj => by injection hj with h; subst h; first | exact Nat.le_refl _ | simp
      exact ⟨_, rfl, hb1.trans (hg3.mono hb1.size), v4, rfl, own_base ho4 hb1.size⟩
  · have hevI : (p.length : Int) % 2 = 0 := by omega
    have hh : hdr p leaf = [if leaf then 2 else 0, 0] := by unfold hdr; rw [if_neg hodd]
    rw [hh]
    clear hh hodd
    cases leaf
    · go_enter Try.func119, Try.ntmps119
      go_wp2_with (at_builtin; refine wpL_append _ _ 23 slT_bytes _ 2 _ _ p.length _ w.heap.size (bvs p) rfl rfl rfl rfl (own_lit _ _ _ _ 2 _ w.heap.size rfl (Nat.le_refl _) (by simp [maxLen]) rfl) (HA.out.below (gr_alloc _ _)) (by rw [bvs_length]; omega) (bvs_one _) (by simp only [maxLen]; omega) (by omega) (by first | (simp; done) | (simp; omega)) ?_; intro A2 c2 w2 hown2 hg2 _; have ho2 := ownB_of (l := (0::[0]) ++ p) hown2 rfl; have hb2 := ho2.isB; have H2 := Lib.hid hb2; clear ho2 hb2 hown2)
      refine (path_join _ _ _ H2.out (by simp; omega)).mono ?_
      rintro e w3 ⟨v3, rfl, hg3, v4, rfl, ho4⟩
      go_wp2
      refine bodyPost_ret (results_tmp2 rfl _ _ _) rfl ?_
      have hb1 : Below w.heap.size w w2 := ((Below.refl _ _).alloc (Nat.le_refl _) _).grown hg2 (by first | (simp; done) | (simp; omega)) fun j hj => by injection hj with h; subst h; first | exact Nat.le_refl _ | simp
      exact ⟨_, rfl, hb1.trans (hg3.mono hb1.size), v4, rfl, own_base ho4 hb1.size⟩
    · go_enter Try.func119, Try.ntmps119
      go_wp2_with (at_builtin; refine wpL_append _ _ 23 slT_bytes _ 2 _ _ p.length _ w.heap.size (bvs p) rfl rfl rfl rfl (own_lit _ _ _ _ 2 _ w.heap.size rfl (Nat.le_refl _) (by simp [maxLen]) rfl) (HA.out.below (gr_alloc _ _)) (by rw [bvs_length]; omega) (bvs_one _) (by simp only [maxLen]; omega) (by omega) (by first | (simp; done) | (simp; omega)) ?_; intro A2 c2 w2 hown2 hg2 _; have ho2 := ownB_of (l := (2::[0]) ++ p) hown2 rfl; have hb2 := ho2.isB; have H2 := Lib.hid hb2; clear ho2 hb2 hown2)
      refine (path_join _ _ _ H2.out (by simp; omega)).mono ?_
      rintro e w3 ⟨v3, rfl, hg3, v4, rfl, ho4⟩
      go_wp2
      refine bodyPost_ret (results_tmp2 rfl _ _ _) rfl ?_
      have hb1 : Below w.heap.size w w2 := ((Below.refl _ _).alloc (Nat.le_refl _) _).grown hg2 (by first | (simp; done) | (simp; omega)) fun j hj => by injection hj with h; subst h; first | exact Nat.le_refl _ | simp
      exact ⟨_, rfl, hb1.trans (hg3.mono hb1.size), v4, rfl, own_base ho4 hb1.size⟩
end Go.Proofs.Ytmlajcbabimkjaa
/-
  path's functions, as the abstract machine calls them.
  Conditions: none.
-/
namespace Go.Proofs.Ytmlajcbabimkjaa
set_option linter.unusedVariables false
open Go.RowKit Mono Rlp
namespace E
theorem own_read {ok : Nat → Prop} {w w' : World} {v : Value} {l : List UInt8} (h : OwnB w' w.heap.size v l) : ReadV (fun b => (ok b ∨ w.heap.size ≤ b) ∧ b < w'.heap.size) w' (.bs l) v := by
  refine (readV_one rfl).2 ?_
  rw [Reads]
  exact ⟨_, rfl, (ownB_P h).mono (fun b hb => ⟨.inr hb.1, hb.2⟩) fun _ _ => rfl⟩
def ppk (p : List UInt8) (leaf : Bool) : List UInt8 := (joinL (hdr p leaf ++ p)).getD []
theorem f_pSplit (l : List UInt8) (hl : l.length ≤ 1073741824) : Fn 92 [.bs l] (· = .val (.bs (split l))) := ⟨fun ok w xs hok hr => by
  obtain ⟨x, _, rfl, h, hn⟩ := hr
  cases hn
  refine (path_split x l w (isB_of hok h) hl).mono ?_
  rintro e w' ⟨v', rfl, hg, hv⟩
  exact ⟨hg, _, _, rfl, rfl, own_read hv⟩⟩
theorem f_pPack (p : List UInt8) (leaf : Bool) (hl : p.length ≤ 536870912) : Fn 119 [.bs p, .v (.bool leaf)] (· = .tpl [.bs (ppk p leaf), .v (.bool (joinL (hdr p leaf ++ p)).isSome)]) := ⟨fun ok w xs hok hr => by
  obtain ⟨x, _, rfl, h, y, _, rfl, h2, hn⟩ := hr
  cases hn
  obtain rfl := (readV_v.1 h2).2
  refine (path_pack x p leaf w (isB_of hok h) hl).mono ?_
  rintro e w' ⟨v', rfl, hg, v1, rfl, hv⟩
  exact ⟨hg, _, _, rfl, rfl, ⟨_, rfl, _, _, rfl, own_read hv, _, _, rfl, readV_v.2 ⟨rfl, rfl⟩, rfl⟩⟩⟩
theorem f_pCommon (l m : List UInt8) : Fn 96 [.bs l, .bs m] (· = .val (.v (.int .i64 (common l m : Nat)))) := ⟨fun ok w xs hok hr => by
  obtain ⟨x, _, rfl, h, y, _, rfl, h2, hn⟩ := hr
  cases hn
  refine (path_common x y l m w (isB_of hok h) (isB_of hok h2)).mono ?_
  rintro e w' ⟨rfl, k, rfl⟩
  exact ⟨⟨rfl, rfl, rfl, Nat.le_refl _, fun _ _ => rfl⟩, _, _, rfl, rfl, readV_v.2 ⟨rfl, rfl⟩⟩⟩
end E
end Go.Proofs.Ytmlajcbabimkjaa
/-
  Keccak in plain words: the permutation as the program does it, and as the reference does it; they are one.
  Conditions: none. No program is named here.
-/
namespace Go.Proofs.Ytmlajcbabimkjaa.Kec
abbrev L := BitVec 64
abbrev St := Nat → L
def upd (f : St) (k : Nat) (v : L) : St := fun j => if j = k then v else f j
def rotl (x : L) (n : Nat) : L := x <<< n ||| x >>> (64 - n)
def turn (k : Nat) : Nat := [0, 1, 62, 28, 27, 36, 44, 6, 55, 20, 3, 10, 43, 25, 39, 41, 45, 15, 21, 8, 18, 2, 61, 56, 14].getD k 0
def rc (k : Nat) : L := ([0x0000000000000001, 0x0000000000008082, 0x800000000000808a, 0x8000000080008000, 0x000000000000808b, 0x0000000080000001,
  0x8000000080008081, 0x8000000000008009, 0x000000000000008a, 0x0000000000000088, 0x0000000080008009, 0x000000008000000a,
  0x000000008000808b, 0x800000000000008b, 0x8000000000008089, 0x8000000000008003, 0x8000000000008002, 0x8000000000000080,
  0x000000000000800a, 0x800000008000000a, 0x8000000080008081, 0x8000000000008080, 0x0000000080000001, 0x8000000080008008] : List L).getD k 0
/-! ### The program's round -/
def col (s : St) (x : Nat) : L := s x ^^^ s (x + 5) ^^^ s (x + 10) ^^^ s (x + 15) ^^^ s (x + 20)
def dd (s : St) (x : Nat) : L := col s ((x + 4) % 5) ^^^ rotl (col s ((x + 1) % 5)) 1
def place (k : Nat) : Nat := k / 5 + 5 * ((2 * (k % 5) + 3 * (k / 5)) % 5)
def bb (s : St) : Nat → St
  | 0 => fun _ => 0
  | k + 1 => upd (bb s k) (place k) (rotl (s k ^^^ dd s (k % 5)) (turn k))
def chi (b : St) (k : Nat) : L := b k ^^^ (~~~ b ((k % 5 + 1) % 5 + k / 5 * 5) &&& b ((k % 5 + 2) % 5 + k / 5 * 5))
def ss (b s : St) : Nat → St
  | 0 => s
  | k + 1 => upd (ss b s k) k (chi b k)
def round (s : St) (n : L) : St := upd (ss (bb s 25) s 25) 0 (ss (bb s 25) s 25 0 ^^^ n)
def perm (s : St) : Nat → St
  | 0 => s
  | k + 1 => round (perm s k) (rc k)
/-! ### The reference's round -/
def th1 (d : L) (x : Nat) (a : St) : Nat → St
  | 0 => a
  | k + 1 => upd (th1 d x a k) (x + 5 * k) (th1 d x a k (x + 5 * k) ^^^ d)
def th (c a : St) : Nat → St
  | 0 => a
  | x + 1 => th1 (c ((x + 4) % 5) ^^^ rotl (c ((x + 1) % 5)) 1) x (th c a x) 5
def ch1 (r a : St) (y : Nat) : Nat → St
  | 0 => a
  | x + 1 => upd (ch1 r a y x) (x + y) (r x ^^^ (~~~ r ((x + 1) % 5) &&& r ((x + 2) % 5)))
def ch (a : St) : Nat → St
  | 0 => a
  | y + 1 => ch1 (fun x => ch a y (x + 5 * y)) (ch a y) (5 * y) 5
def lf (l : BitVec 8) : BitVec 8 := if l &&& 128 ≠ 0 then (l <<< 1) ^^^ 0x71 else l <<< 1
/-! ### They are one -/
def Same (a b : St) : Prop := ∀ k, k < 25 → a k = b k
end Go.Proofs.Ytmlajcbabimkjaa.Kec
/-
  Lanes in memory; a turned lane.
  Conditions: none.
-/
namespace Go.Proofs.Ytmlajcbabimkjaa
open Go.RowKit Mono
open Kec
def u (x : L) : Int := (x.toNat : Int)
theorem u_range (x : L) : 0 ≤ u x ∧ u x < 18446744073709551616 := by
  have := x.isLt
  unfold u
  omega
theorem u_xor (x y : L) : bits .xor .u64 (u x) (u y) = u (x ^^^ y) := by
  unfold u
  rw [u64_xor_nat _ _ x.isLt y.isLt, BitVec.toNat_xor]
theorem u_and (x y : L) : bits .and .u64 (u x) (u y) = u (x &&& y) := by
  unfold u
  rw [u64_and_nat _ _ x.isLt y.isLt, BitVec.toNat_and]
theorem u_or (x y : L) : bits .or .u64 (u x) (u y) = u (x ||| y) := by
  unfold u
  rw [u64_or_nat _ _ x.isLt y.isLt, BitVec.toNat_or]
theorem u_shl (x : L) (n : Nat) : IntKind.u64.wrap (u x * 2 ^ n) = u (x <<< n) := by
  unfold u
  rw [IntKind.wrap_u64, BitVec.toNat_shiftLeft, Nat.shiftLeft_eq]
  have h : ((x.toNat : Int) * 2 ^ n) = ((x.toNat * 2 ^ n : Nat) : Int) := by simp
  rw [h]
  exact (Int.natCast_emod _ _).symm
theorem u_shr (x : L) (n : Nat) : u x / 2 ^ n = u (x >>> n) := by
  unfold u
  rw [BitVec.toNat_ushiftRight, Nat.shiftRight_eq_div_pow]
  simp
def lv (x : L) : Value := .int .u64 (u x)
set_option maxHeartbeats 400000 in
theorem rotate (x : L) (k : Nat) (hk : k < 64) (w : World) : Calls Try.prog 135 #[.int .u64 (u x), .int .i64 k] w fun e w' => e = .returned (.int .u64 (u (rotl x k))) ∧ w' = w := by
  have ha : bits .and .u64 (k : Int) 63 = k := by
    have := u64_and_nat k 63 (by omega) (by omega)
    rw [show ((63 : Nat) : Int) = 63 from rfl] at this
    rw [this]
    congr 1
    exact (Nat.and_two_pow_sub_one_eq_mod k 6).trans (Nat.mod_eq_of_lt hk)
  have hx := u_range x
  have hx0 := hx.1
  clear hx
  go_enter Try.func135, Try.ntmps135
  go_wp2
  refine bodyPost_ret (results_tmp rfl _ _ _) rfl ⟨?_, rfl⟩
  show Ending.returned (.int .u64 (bits .or .u64 (IntKind.u64.wrap (u x * 2 ^ k)) (u x / 2 ^ (64 - k)))) = _
  rw [u_shl, u_shr, u_or]
  rfl
/-! ### Lanes in a block -/
def cellsOf (f : St) (n : Nat) : Array Value := ((List.range n).map fun k => lv (f k)).toArray
def Lanes (w : World) (g : Nat) (t : TypeId) (n : Nat) (f : St) : Prop := w.heap[g]? = some (.cells (cellsOf f n) t (0, 0))
theorem cellsOf_size (f : St) (n : Nat) : (cellsOf f n).size = n := by simp [cellsOf]
theorem cellsOf_get (f : St) (n k : Nat) (h : k < n) : (cellsOf f n)[k]? = some (lv (f k)) := by simp [cellsOf, h]
theorem cellsOf_set (f : St) (n k : Nat) (v : L) : (cellsOf f n).setIfInBounds k (lv v) = cellsOf (Kec.upd f k v) n := by
  apply Array.ext_getElem?
  intro i
  rw [Array.getElem?_setIfInBounds]
  by_cases hi : i < n
  · by_cases hk : k = i
    · subst hk
      rw [if_pos rfl, cellsOf_size, if_pos hi, cellsOf_get _ n k hi]
      congr 2
      exact (if_pos rfl).symm
    · rw [if_neg hk, cellsOf_get _ n i hi, cellsOf_get _ n i hi]
      congr 2
      exact (if_neg (Ne.symm hk)).symm
  · have h1 : (cellsOf f n)[i]? = none := Array.getElem?_eq_none (by rw [cellsOf_size]; omega)
    have h2 : (cellsOf (Kec.upd f k v) n)[i]? = none := Array.getElem?_eq_none (by rw [cellsOf_size]; omega)
    rw [h1, h2]
    by_cases hk : k = i
    · subst hk; rw [if_pos rfl, cellsOf_size, if_neg hi]
    · rw [if_neg hk]
section
variable {w w' : World} {g : Nat} {t : TypeId} {n : Nat} {f : St}
theorem Lanes.lt (h : Lanes w g t n f) : g < w.heap.size := by
  rcases Nat.lt_or_ge g w.heap.size with h1 | h1
  · exact h1
  · unfold Lanes at h; rw [Array.getElem?_eq_none h1] at h; cases h
theorem Lanes.cell (h : Lanes w g t n f) (k : Nat) (hk : k < n) : w.cell? ⟨g, k, none⟩ = some (lv (f k)) := by
  rw [cell_of_row w g k _ t (0, 0) h]
  exact cellsOf_get f n k hk
theorem Lanes.frozen (h : Lanes w g t n f) (k : Nat) : w.frozen? ⟨g, k, none⟩ = false := by
  unfold Lanes at h
  simp [World.frozen?, h]
theorem Lanes.gr (h : Lanes w g t n f) (hg : Gr w w') : Lanes w' g t n f := (hg.block g h.lt).trans h
theorem Lanes.set (h : Lanes w g t n f) (k : Nat) (v : L) : Lanes (w.setCell ⟨g, k, none⟩ (lv v)) g t n (Kec.upd f k v) := by
  unfold Lanes at h ⊢
  simp [World.setCell, Array.getElem?_modify, h, cellsOf_set]
theorem Lanes.far (h : Lanes w g t n f) {p : Addr} (hp : g ≠ p.block) (v : Value) : Lanes (w.setCell p v) g t n f := (Below.heap_setCell w p v g hp).trans h
theorem Lanes.alloc (h : Lanes w g t n f) (o : Obj) : Lanes (w.alloc o) g t n f := h.gr (gr_alloc w o)
theorem Lanes.grown (h : Lanes w g t n f) {row : Option Nat} (hg : w.grownBy w' row) (hne : some g ≠ row) : Lanes w' g t n f := (hg.block g h.lt hne).trans h
end
def Only (g : Nat) (w w' : World) : Prop := w.grownBy w' (some g)
theorem Only.of_gr {w w' : World} (h : Gr w w') (g : Nat) : Only g w w' := ⟨h.os, h.tape, h.output, h.size, fun k hk _ => h.block k hk⟩
theorem Only.refl (g : Nat) (w : World) : Only g w w := Only.of_gr (Gr.refl w) g
theorem Only.trans {g : Nat} {a b c : World} (h : Only g a b) (k : Only g b c) : Only g a c :=
  ⟨k.os.trans h.os, k.tape.trans h.tape, k.output.trans h.output, Nat.le_trans h.size k.size, fun i hi hne => (k.block i (Nat.lt_of_lt_of_le hi h.size) hne).trans (h.block i hi hne)⟩
theorem Only.set {g : Nat} (w : World) (k : Nat) (v : Value) : Only g w (w.setCell ⟨g, k, none⟩ v) :=
  ⟨rfl, rfl, rfl, by simp [World.setCell], fun i _ hne => Below.heap_setCell w _ v i (fun e => hne (by rw [e]))⟩
theorem Only.gr {g : Nat} {a b c : World} (hab : Gr a b) (h : Only g b c) (hg : a.heap.size ≤ g) : Gr a c :=
  ⟨h.os.trans hab.os, h.tape.trans hab.tape, h.output.trans hab.output, Nat.le_trans hab.size h.size, fun i hi => (h.block i (Nat.lt_of_lt_of_le hi hab.size) (fun e => by injection e with e; omega)).trans (hab.block i hi)⟩
end Go.Proofs.Ytmlajcbabimkjaa
/-
  keccak's take: a byte into a lane.
  Conditions: the place is below 136.
-/
namespace Go.Proofs.Ytmlajcbabimkjaa
open Go.RowKit Mono
open Kec (L St rotl)
def takeB (f : St) (k : Nat) (b : Nat) : St := Kec.upd f (k / 8) (f (k / 8) ^^^ (BitVec.ofNat 64 b) <<< (8 * (k % 8)))
theorem u_byte (n : Nat) (h : n < 256) : u (BitVec.ofNat 64 n) = (n : Int) := by
  unfold u
  rw [BitVec.toNat_ofNat]
  omega
def RetU (R : World → Prop) (e : Ending) (w' : World) : Prop := e = .returned (.tuple #[]) ∧ R w'
set_option maxHeartbeats 400000 in
theorem kec_take (g : Nat) (t : TypeId) (f : St) (k n : Nat) (hk : k < 136) (hn : n < 256) (w : World) (hl : Lanes w g t 25 f) :
    Calls Try.prog 97 #[.pointer (some ⟨g, 0, none⟩), .int .i64 k, .int .u8 n] w (RetU fun w' => Lanes w' g t 25 (takeB f k n) ∧ Only g w w') := by
  have hg := hl.lt
  have c1 := later_cell (w := w) (p := ⟨g, k / 8, none⟩) hg (hl.cell (k / 8) (by omega))
  unfold lv at c1
  have hu := u_range (f (k / 8))
  have hu0 := hu.1
  have HL := Lib.hid hl
  clear hl hu
  go_enter Try.func97, Try.ntmps97
  go_wp2
  refine wp_region_N 15 (by kernel_rfl) (by kernel_rfl) (by kernel_rfl) ?_
  simp only [List.take_succ_cons, List.take_zero, List.drop_succ_cons, List.drop_zero]
  refine wpN_quiet 15 (by kernel_rfl) ?_
  simp only [List.take_succ_cons, List.take_zero, List.drop_succ_cons, List.drop_zero]
  repeat (go_big_quiet_step (fail))
  refine wpQuiet_nil ?_
  refine wpN_nil (by kernel_rfl) ?_
  intro W hW
  replace hW := hW.gr
  unfold finN
  have HW := Lib.hid (HL.out.gr hW)
  have e1 := HW.out.cell (k / 8) (by omega)
  have e2 := HW.out.frozen (k / 8)
  unfold lv at e1
  go_wp2
  refine bodyPost_ret (results_none rfl _ _ _) rfl ⟨rfl, ?_⟩
  have hv : Value.int .u64 (bits .xor .u64 (u (f (k / 8))) (IntKind.u64.wrap ((n : Int) * 2 ^ (8 * (k % 8))))) = lv (f (k / 8) ^^^ (BitVec.ofNat 64 n) <<< (8 * (k % 8))) := by
    rw [← u_byte n hn, u_shl, u_xor]
    rfl
  rw [hv]
  exact ⟨HW.out.set _ _, (Only.of_gr hW g).trans (Only.set _ _ _)⟩
end Go.Proofs.Ytmlajcbabimkjaa
/-
  keccak's round.
  Conditions: none.
-/
namespace Go.Proofs.Ytmlajcbabimkjaa
open Go.RowKit Mono
open Kec (L St rotl)
def turnCells : Array Value := ((List.range 25).map fun k => Value.int .i64 (Kec.turn k)).toArray
def Turns (w : World) (g : Nat) (t : TypeId) : Prop := w.heap[g]? = some (.cells turnCells t (0, 0))
theorem Turns.cell {w : World} {g : Nat} {t : TypeId} (h : Turns w g t) (k : Nat) (hk : k < 25) : w.cell? ⟨g, k, none⟩ = some (.int .i64 (Kec.turn k)) := by
  rw [cell_of_row w g k _ t (0, 0) h]
  simp [turnCells, hk]
theorem Turns.lt {w : World} {g : Nat} {t : TypeId} (h : Turns w g t) : g < w.heap.size := by
  rcases Nat.lt_or_ge g w.heap.size with h1 | h1
  · exact h1
  · unfold Turns at h; rw [Array.getElem?_eq_none h1] at h; cases h
theorem Turns.gr {w w' : World} {g : Nat} {t : TypeId} (h : Turns w g t) (hg : Gr w w') : Turns w' g t := (hg.block g h.lt).trans h
theorem turn_lt : ∀ k, k < 25 → Kec.turn k < 64 := by decide
theorem place_lt : ∀ k, k < 25 → Kec.place k < 25 := by decide
def firstN (f : St) (n : Nat) : St := fun j => if j < n then f j else 0
theorem firstN_step (f : St) (n : Nat) : Kec.upd (firstN f n) n (f n) = firstN f (n + 1) := by
  funext j
  unfold Kec.upd firstN
  by_cases h : j = n
  · subst h; rw [if_pos rfl, if_pos (by omega)]
  · rw [if_neg h]
    by_cases h2 : j < n
    · rw [if_pos h2, if_pos (by omega)]
    · rw [if_neg h2, if_neg (by omega)]
theorem firstN_zero (f : St) : firstN f 0 = fun _ => 0 := by funext j; simp [firstN]
theorem lanes_new (w : World) (t : TypeId) (n : Nat) (c : Array Value) (h : c = cellsOf (fun _ => 0) n) : Lanes (w.alloc (.cells c t)) w.heap.size t n (fun _ => 0) := by
  subst h
  unfold Lanes World.alloc
  simp
theorem u_not (x : L) : bits .xor .u64 (if IntKind.u64.signed = true then -1 else IntKind.u64.max) (u x) = u (~~~x) := by
  have h : (if IntKind.u64.signed = true then -1 else IntKind.u64.max) = u (BitVec.allOnes 64) := rfl
  rw [h, u_xor, BitVec.allOnes_xor]
theorem alloc_len (w : World) (o : Obj) : (w.alloc o).heap.size = w.heap.size + 1 := by simp
theorem u_col (s : St) (k : Nat) : bits .xor .u64 (bits .xor .u64 (bits .xor .u64 (bits .xor .u64 (u (s k)) (u (s (k + 5)))) (u (s (k + 10)))) (u (s (k + 15)))) (u (s (k + 20))) = u (Kec.col s k) := by
  simp only [u_xor]
  rfl
set_option maxRecDepth 20000 in
set_option maxHeartbeats 1000000 in
theorem kec_round (g gt : Nat) (t tt : TypeId) (s : St) (n : L) (w : World) (hl : Lanes w g t 25 s) (ht : Turns w gt tt) :
    Calls Try.prog 118 #[.pointer (some ⟨g, 0, none⟩), .pointer (some ⟨gt, 0, none⟩), .int .u64 (u n)] w (RetU fun w' => Lanes w' g t 25 (Kec.round s n) ∧ Only g w w') := by
  have hg := hl.lt
  have hgt := ht.lt
  have HL := Lib.hid hl
  have HT := Lib.hid ht
  clear hl ht
  go_enter Try.func118, Try.ntmps118
  go_wp2
  go_loopw [17] (fun i wr => ∃ k : Nat, k ≤ 5 ∧ i = .int .i64 k ∧ Lanes wr w.heap.size 130 5 (firstN (Kec.col s) k) ∧ Lanes wr (w.heap.size + 1) 130 5 (fun _ => 0) ∧ Gr w wr) (fun i _ => 5 - (intOf i).toNat)
  case atStart =>
    refine ⟨0, by omega, rfl, ?_, ?_, ?_⟩
    · rw [firstN_zero]
      exact (lanes_new w 130 5 _ rfl).alloc _
    · have := lanes_new (w.alloc (.cells #[.int .u64 0, .int .u64 0, .int .u64 0, .int .u64 0, .int .u64 0] 130)) 130 5 _ rfl
      rw [alloc_len] at this
      exact this
    · exact (gr_alloc w _).trans (gr_alloc _ _)
  case round =>
    obtain ⟨k, hk, rfl, hc, hd, hb⟩ := hrel
    have hbs := hb.size
    have HC := Lib.hid hc
    have HD := Lib.hid hd
    have HB := Lib.hid hb
    have hcl := hc.lt
    have hdl := hd.lt
    clear hc hd hb
    by_cases h1 : k < 5
    · have c0 := later_cell (w := wr) (p := ⟨g, k, none⟩) (by dsimp only; omega) ((HL.out.gr HB.out).cell k (by omega))
      have c1 := later_cell (w := wr) (p := ⟨g, k + 5, none⟩) (by dsimp only; omega) ((HL.out.gr HB.out).cell (k + 5) (by omega))
      have c2 := later_cell (w := wr) (p := ⟨g, k + 10, none⟩) (by dsimp only; omega) ((HL.out.gr HB.out).cell (k + 10) (by omega))
      have c3 := later_cell (w := wr) (p := ⟨g, k + 15, none⟩) (by dsimp only; omega) ((HL.out.gr HB.out).cell (k + 15) (by omega))
      have c4 := later_cell (w := wr) (p := ⟨g, k + 20, none⟩) (by dsimp only; omega) ((HL.out.gr HB.out).cell (k + 20) (by omega))
      unfold lv at c0 c1 c2 c3 c4
      go_wp2
      refine wp_region_N 35 (by kernel_rfl) (by kernel_rfl) (by kernel_rfl) ?_
      simp only [List.take_succ_cons, List.take_zero, List.drop_succ_cons, List.drop_zero]
      refine wpN_quiet 35 (by kernel_rfl) ?_
      simp only [List.take_succ_cons, List.take_zero, List.drop_succ_cons, List.drop_zero]
      repeat (go_big_quiet_step (fail))
      refine wpQuiet_nil ?_
      refine wpN_nil (by kernel_rfl) ?_
      intro W hW
      replace hW := hW.gr
      unfold finN
      rename_i wq hW
      have HQ := Lib.hid (HC.out.gr hW)
      have e2 := HQ.out.frozen k
      have e1 := HQ.out.cell k (by omega)
      unfold lv at e1
      go_wp2
      go_roundw
      case rel =>
        rw [u_col]
        refine ⟨k + 1, by omega, by go_num, ?_, ?_, ?_⟩
        · rw [← firstN_step]
          exact HQ.out.set k (Kec.col s k)
        · exact ((HD.out.gr hW)).far (by simp) _
        · exact (Only.set (g := w.heap.size) _ k _).gr (HB.out.trans hW) (Nat.le_refl _)
      case measure => simp [intOf]; omega
    · have h5 : k = 5 := by omega
      subst h5
      go_wp2_with fail
      obtain ⟨wo, rfl⟩ : ∃ wo : World, wo = wr := ⟨_, rfl⟩
      go_loopw [56] (fun i wr => ∃ k : Nat, k ≤ 5 ∧ i = .int .i64 k ∧ Lanes wr w.heap.size 130 5 (firstN (Kec.col s) 5) ∧ Lanes wr (w.heap.size + 1) 130 5 (firstN (Kec.dd s) k) ∧ Gr w wr) (fun i _ => 5 - (intOf i).toNat)
      case atStart => exact ⟨0, by omega, rfl, HC.out, by rw [firstN_zero]; exact HD.out, HB.out⟩
      case round =>
        clear HB HC HD
        obtain ⟨k, hk, rfl, hc, hd, hb⟩ := hrel
        have hbs := hb.size
        have HC := Lib.hid hc
        have HD := Lib.hid hd
        have HB := Lib.hid hb
        have hcl := hc.lt
        have hdl := hd.lt
        clear hc hd hb
        by_cases h1 : k < 5
        · have c0 := later_cell (w := wr) (p := ⟨w.heap.size, (k + 4) % 5, none⟩) (by dsimp only; omega) (HC.out.cell ((k + 4) % 5) (by omega))
          have c1 := later_cell (w := wr) (p := ⟨w.heap.size, (k + 1) % 5, none⟩) (by dsimp only; omega) (HC.out.cell ((k + 1) % 5) (by omega))
          unfold lv at c0 c1
          go_wp2
          refine wp_region_N 14 (by kernel_rfl) (by kernel_rfl) (by kernel_rfl) ?_
          simp only [List.take_succ_cons, List.take_zero, List.drop_succ_cons, List.drop_zero]
          refine wpN_quiet 11 (by kernel_rfl) ?_
          simp only [List.take_succ_cons, List.take_zero, List.drop_succ_cons, List.drop_zero]
          repeat (go_big_quiet_step (fail))
          refine wpQuiet_nil ?_
          refine wpN_val (.int .u64 (u (rotl (firstN (Kec.col s) 5 ((k + 1) % 5)) 1))) rfl (by kernel_rfl) (by kernel_rfl) (fun xw => ?_) ?_
          · refine growsTo_call (by simp [go_sem]) ((rotate (firstN (Kec.col s) 5 ((k + 1) % 5)) 1 (by omega) _).mono ?_)
            rintro e w' ⟨rfl, rfl⟩
            exact ⟨_, rfl, Gr.refl _, rfl⟩
          simp only [Act.put, List.setIfInBounds_toArray, List.set_cons_succ, List.set_cons_zero]
          refine wpN_quiet 2 (by kernel_rfl) ?_
          simp only [List.take_succ_cons, List.take_zero, List.drop_succ_cons, List.drop_zero]
          repeat (go_big_quiet_step (fail))
          refine wpQuiet_nil ?_
          refine wpN_nil (by kernel_rfl) ?_
          intro W hW
          replace hW := hW.gr
          unfold finN
          rename_i wq hW
          have HQ := Lib.hid (HD.out.gr hW)
          have e2 := HQ.out.frozen k
          have e1 := HQ.out.cell k (by omega)
          unfold lv at e1
          go_wp2
          go_roundw
          case rel =>
            have hf : u (firstN (Kec.col s) 5 ((k + 4) % 5)) = u (Kec.col s ((k + 4) % 5)) := by unfold firstN; rw [if_pos (by omega)]
            have hf1 : firstN (Kec.col s) 5 ((k + 1) % 5) = Kec.col s ((k + 1) % 5) := by unfold firstN; rw [if_pos (by omega)]
            rw [hf, hf1, u_xor]
            refine ⟨k + 1, by omega, by go_num, ?_, ?_, ?_⟩
            · exact (HC.out.gr hW).far (by simp) _
            · rw [← firstN_step]
              exact HQ.out.set k (Kec.dd s k)
            · exact (Only.set (g := w.heap.size + 1) _ k _).gr (HB.out.trans hW) (by omega)
          case measure => simp [intOf]; omega
        · have h5 : k = 5 := by omega
          subst h5
          go_wp2_with fail
          obtain ⟨wo, rfl⟩ : ∃ wo : World, wo = wr := ⟨_, rfl⟩
          go_loopw [74] (fun i wr => ∃ k : Nat, k ≤ 25 ∧ i = .int .i64 k ∧ Lanes wr (w.heap.size + 1) 130 5 (firstN (Kec.dd s) 5) ∧ Lanes wr wo.heap.size 176 25 (Kec.bb s k) ∧ Gr w wr) (fun i _ => 25 - (intOf i).toNat)
          case atStart => exact ⟨0, by omega, rfl, HD.out.alloc _, lanes_new wo 176 25 _ rfl, HB.out.trans (gr_alloc _ _)⟩
          case round =>
            clear HB HC HD
            obtain ⟨k, hk, rfl, hd, he, hb⟩ := hrel
            have hbs2 := hb.size
            have HE := Lib.hid he
            have HD := Lib.hid hd
            have HB := Lib.hid hb
            have hel := he.lt
            clear he hd hb
            by_cases h1 : k < 25
            · have c0 := later_cell (w := wr) (p := ⟨g, k, none⟩) (by dsimp only; omega) ((HL.out.gr HB.out).cell k (by omega))
              have c1 := later_cell (w := wr) (p := ⟨w.heap.size + 1, k % 5, none⟩) (by dsimp only; omega) (HD.out.cell (k % 5) (by omega))
              have c2 := later_cell (w := wr) (p := ⟨gt, k, none⟩) (by dsimp only; omega) ((HT.out.gr HB.out).cell k (by omega))
              unfold lv at c0 c1
              go_wp2
              refine wp_region_N 25 (by kernel_rfl) (by kernel_rfl) (by kernel_rfl) ?_
              simp only [List.take_succ_cons, List.take_zero, List.drop_succ_cons, List.drop_zero]
              refine wpN_quiet 23 (by kernel_rfl) ?_
              simp only [List.take_succ_cons, List.take_zero, List.drop_succ_cons, List.drop_zero]
              repeat (go_big_quiet_step (fail))
              refine wpQuiet_nil ?_
              refine wpN_val (.int .u64 (u (rotl (s k ^^^ firstN (Kec.dd s) 5 (k % 5)) (Kec.turn k)))) rfl (by kernel_rfl) (by kernel_rfl) (fun xw => ?_) ?_
              · refine growsTo_call (by simp [go_sem, u_xor]) ((rotate (s k ^^^ firstN (Kec.dd s) 5 (k % 5)) (Kec.turn k) (turn_lt k h1) _).mono ?_)
                rintro e w' ⟨rfl, rfl⟩
                exact ⟨_, rfl, Gr.refl _, rfl⟩
              simp only [Act.put, List.setIfInBounds_toArray, List.set_cons_succ, List.set_cons_zero]
              refine wpN_quiet 1 (by kernel_rfl) ?_
              simp only [List.take_succ_cons, List.take_zero, List.drop_succ_cons, List.drop_zero]
              repeat (go_big_quiet_step (fail))
              refine wpQuiet_nil ?_
              refine wpN_nil (by kernel_rfl) ?_
              intro W hW
              replace hW := hW.gr
              unfold finN
              rename_i wq hW
              have HQ := Lib.hid (HE.out.gr hW)
              have e2 := HQ.out.frozen (Kec.place k)
              have e1 := HQ.out.cell (Kec.place k) (place_lt k h1)
              unfold lv at e1
              unfold Kec.place at e1 e2
              go_wp2
              go_roundw
              case rel =>
                have hv : u (rotl (s k ^^^ firstN (Kec.dd s) 5 (k % 5)) (Kec.turn k)) = u (rotl (s k ^^^ Kec.dd s (k % 5)) (Kec.turn k)) := by
                  unfold firstN
                  rw [if_pos (by omega)]
                rw [hv]
                refine ⟨k + 1, by omega, by go_num, ?_, ?_, ?_⟩
                · exact (HD.out.gr hW).far (by dsimp only; omega) _
                · exact HQ.out.set (Kec.place k) _
                · exact (Only.set (g := wo.heap.size) _ (Kec.place k) _).gr (HB.out.trans hW) (by omega)
              case measure => simp [intOf]; omega
            · have h5 : k = 25 := by omega
              subst h5
              go_wp2_with fail
              obtain ⟨wo2, rfl⟩ : ∃ wo : World, wo = wr := ⟨_, rfl⟩
              go_loopw [107] (fun i wr => ∃ k : Nat, k ≤ 25 ∧ i = .int .i64 k ∧ Lanes wr wo.heap.size 176 25 (Kec.bb s 25) ∧ Lanes wr g t 25 (Kec.ss (Kec.bb s 25) s k) ∧ Only g w wr) (fun i _ => 25 - (intOf i).toNat)
              case atStart => exact ⟨0, by omega, rfl, HE.out, HL.out.gr HB.out, Only.of_gr HB.out g⟩
              case round =>
                clear HB HE HD
                obtain ⟨k, hk, rfl, he, hl, ho⟩ := hrel
                have hbs3 := ho.size
                have HE := Lib.hid he
                have HM := Lib.hid hl
                have HO := Lib.hid ho
                have hel := he.lt
                clear he hl ho
                by_cases h1 : k < 25
                · have c0 := later_cell (w := wr) (p := ⟨wo.heap.size, k, none⟩) (by dsimp only; omega) (HE.out.cell k (by omega))
                  have c1 := later_cell (w := wr) (p := ⟨wo.heap.size, (k + 1) % 5 + k / 5 * 5, none⟩) (by dsimp only; omega) (HE.out.cell ((k + 1) % 5 + k / 5 * 5) (by omega))
                  have c2 := later_cell (w := wr) (p := ⟨wo.heap.size, (k + 2) % 5 + k / 5 * 5, none⟩) (by dsimp only; omega) (HE.out.cell ((k + 2) % 5 + k / 5 * 5) (by omega))
                  unfold lv at c0 c1 c2
                  go_wp2
                  refine wp_region_N 24 (by kernel_rfl) (by kernel_rfl) (by kernel_rfl) ?_
                  simp only [List.take_succ_cons, List.take_zero, List.drop_succ_cons, List.drop_zero]
                  refine wpN_quiet 24 (by kernel_rfl) ?_
                  simp only [List.take_succ_cons, List.take_zero, List.drop_succ_cons, List.drop_zero]
                  repeat (go_big_quiet_step (fail))
                  refine wpQuiet_nil ?_
                  refine wpN_nil (by kernel_rfl) ?_
                  intro W hW
                  replace hW := hW.gr
                  unfold finN
                  rename_i wq hW
                  have HQ := Lib.hid (HM.out.gr hW)
                  have e2 := HQ.out.frozen k
                  have e1 := HQ.out.cell k (by omega)
                  unfold lv at e1
                  go_wp2
                  go_roundw
                  case rel =>
                    have hv : u (Kec.bb s 25 k ^^^ (~~~ Kec.bb s 25 ((k + 1) % 5 + k / 5 * 5) &&& Kec.bb s 25 ((k + 2) % 5 + k / 5 * 5))) = u (Kec.chi (Kec.bb s 25) k) := by
                      unfold Kec.chi
                      rw [show (k % 5 + 1) % 5 = (k + 1) % 5 by omega, show (k % 5 + 2) % 5 = (k + 2) % 5 by omega]
                    rw [u_not, u_and, u_xor, hv]
                    refine ⟨k + 1, by omega, by go_num, ?_, ?_, ?_⟩
                    · exact (HE.out.gr hW).far (by dsimp only; omega) _
                    · exact HQ.out.set k _
                    · exact (HO.out.trans (Only.of_gr hW g)).trans (Only.set _ _ _)
                  case measure => simp [intOf]; omega
                · have h5 : k = 25 := by omega
                  subst h5
                  have c0 := later_cell (w := wr) (p := ⟨g, 0, none⟩) (by dsimp only; omega) (HM.out.cell 0 (by omega))
                  unfold lv at c0
                  go_wp2
                  refine wp_region_N 8 (by kernel_rfl) (by kernel_rfl) (by kernel_rfl) ?_
                  simp only [List.take_succ_cons, List.take_zero, List.drop_succ_cons, List.drop_zero]
                  refine wpN_quiet 8 (by kernel_rfl) ?_
                  simp only [List.take_succ_cons, List.take_zero, List.drop_succ_cons, List.drop_zero]
                  repeat (go_big_quiet_step (fail))
                  refine wpQuiet_nil ?_
                  refine wpN_nil (by kernel_rfl) ?_
                  intro W hW
                  replace hW := hW.gr
                  unfold finN
                  rename_i wq hW
                  have HQ := Lib.hid (HM.out.gr hW)
                  have e2 := HQ.out.frozen 0
                  have e1 := HQ.out.cell 0 (by omega)
                  unfold lv at e1
                  go_wp2
                  refine bodyPost_ret (results_none rfl _ _ _) rfl ⟨rfl, ?_⟩
                  rw [u_xor]
                  exact ⟨HQ.out.set 0 _, (HO.out.trans (Only.of_gr hW g)).trans (Only.set _ _ _)⟩
end Go.Proofs.Ytmlajcbabimkjaa
/-
  The reference's round.
  Conditions: none.
-/
namespace Go.Proofs.Ytmlajcbabimkjaa
open Go.RowKit Mono
open Kec (L St rotl)
def Reg (w : World) (g : Nat) (t : TypeId) (l : BitVec 8) : Prop := w.heap[g]? = some (.cells #[.int .u8 (l.toNat : Int)] t (0, 0))
section
variable {w w' : World} {g : Nat} {t : TypeId} {l : BitVec 8}
theorem Reg.lt (h : Reg w g t l) : g < w.heap.size := by
  rcases Nat.lt_or_ge g w.heap.size with h1 | h1
  · exact h1
  · unfold Reg at h; rw [Array.getElem?_eq_none h1] at h; cases h
theorem Reg.cell (h : Reg w g t l) : w.cell? ⟨g, 0, none⟩ = some (.int .u8 (l.toNat : Int)) := by
  rw [cell_of_row w g 0 _ t (0, 0) h]
  rfl
theorem Reg.frozen (h : Reg w g t l) : w.frozen? ⟨g, 0, none⟩ = false := by
  unfold Reg at h
  simp [World.frozen?, h]
theorem Reg.gr (h : Reg w g t l) (hg : Gr w w') : Reg w' g t l := (hg.block g h.lt).trans h
theorem Reg.set (h : Reg w g t l) (v : BitVec 8) : Reg (w.setCell ⟨g, 0, none⟩ (.int .u8 (v.toNat : Int))) g t v := by
  unfold Reg at h ⊢
  simp [World.setCell, Array.getElem?_modify, h]
theorem Reg.far (h : Reg w g t l) {p : Addr} (hp : g ≠ p.block) (v : Value) : Reg (w.setCell p v) g t l := (Below.heap_setCell w p v g hp).trans h
end
theorem u8_shl1 (q : BitVec 8) : (q.toNat : Int) * (2 : Int) % (256 : Int) = ((q <<< 1).toNat : Int) := by
  have h : (q <<< 1).toNat = q.toNat * 2 % 256 := by rw [BitVec.toNat_shiftLeft, Nat.shiftLeft_eq]
  rw [h]
  omega
theorem Reg.low {w : World} {g : Nat} {t : TypeId} {q : BitVec 8} (h : Reg w g t q) (hb : ¬ q &&& 128 ≠ 0) :
    Reg (w.setCell ⟨g, 0, none⟩ (.int .u8 ((q.toNat : Int) * 2 % 256))) g t (Kec.lf q) := by
  rw [u8_shl1, show Kec.lf q = q <<< 1 from if_neg hb]
  exact h.set _
end Go.Proofs.Ytmlajcbabimkjaa
/-
  keccak's permutation.
  Conditions: none.
-/
namespace Go.Proofs.Ytmlajcbabimkjaa
open Go.RowKit Mono
open Kec (L St rotl)
theorem ho3t {w w' : World} {g gt : Nat} {t : TypeId} (h : Only g w w') (ht : Turns w gt t) (hne : gt ≠ g) : Turns w' gt t := (h.block gt ht.lt (fun e => hne (by injection e))).trans ht
def rcCells : Array Value := ((List.range 24).map fun k => Value.int .u64 (u (Kec.rc k))).toArray
theorem wpList_build_to {P : Program} {ops : Array Oper} {rest : List Oper} {o : Oper} {a : Act} {w : World} {Q : Exit → Act → World → Prop} (cells : Array Value) (d : Tmp) (t : TypeId) (parts : Array (Nat × Operand)) (hg : o.guard = none) (ho : o.op = .build t parts) (hd : o.dst = some d)
    (hf : P.built t (parts.map fun (i, x) => (i, a.eval x)).toList = some cells) (h : wpList P ops Q rest (a.put (some d) (.agg cells)) w) : wpList P ops Q (o :: rest) a w := by
  refine wpList_build hg t parts ho (by rw [hf]; rfl) ?_
  rw [hf, hd]
  exact h
set_option maxRecDepth 20000 in
set_option maxHeartbeats 1000000 in
theorem kec_turns (w : World) : Calls Try.prog 116 #[] w (Ret (fun v _ => v = .agg turnCells) w) := by
  go_enter Try.func116, Try.ntmps116
  go_wp2_with first
    | refine wpList_build_to turnCells 1 197 _ rfl rfl rfl (by kernel_rfl) ?_
    | refine wpList_store_row rfl 197 (.tmp 0) (.tmp 1) rfl w.heap.size turnCells rfl rfl 197 _ (heap_alloc_new w _) (by kernel_rfl) (by kernel_rfl) (by kernel_rfl) ?_
  rw [World.setRow_alloc_new]
  exact bodyPost_ret (results_cell_row rfl _ _ w.heap.size 197 turnCells (0, 0) _ rfl (heap_alloc_new w _) rfl rfl (by kernel_rfl)) rfl ⟨_, rfl, gr_alloc w _, rfl⟩
set_option maxRecDepth 20000 in
set_option maxHeartbeats 1000000 in
theorem kec_consts (w : World) : Calls Try.prog 117 #[] w (Ret (fun v _ => v = .agg rcCells) w) := by
  go_enter Try.func117, Try.ntmps117
  go_wp2_with first
    | refine wpList_build_to rcCells 1 199 _ rfl rfl rfl (by kernel_rfl) ?_
    | refine wpList_store_row rfl 199 (.tmp 0) (.tmp 1) rfl w.heap.size rcCells rfl rfl 199 _ (heap_alloc_new w _) (by kernel_rfl) (by kernel_rfl) (by kernel_rfl) ?_
  rw [World.setRow_alloc_new]
  exact bodyPost_ret (results_cell_row rfl _ _ w.heap.size 199 rcCells (0, 0) _ rfl (heap_alloc_new w _) rfl rfl (by kernel_rfl)) rfl ⟨_, rfl, gr_alloc w _, rfl⟩
theorem rc_index0 (w : World) : (Instr.index 199 (.agg rcCells) (.int .i64 ((0 : Nat) : Int))).run Try.prog w = .ok (.int .u64 (u (Kec.rc 0))) w := by kernel_rfl
theorem rc_index1 (w : World) : (Instr.index 199 (.agg rcCells) (.int .i64 ((1 : Nat) : Int))).run Try.prog w = .ok (.int .u64 (u (Kec.rc 1))) w := by kernel_rfl
theorem rc_index2 (w : World) : (Instr.index 199 (.agg rcCells) (.int .i64 ((2 : Nat) : Int))).run Try.prog w = .ok (.int .u64 (u (Kec.rc 2))) w := by kernel_rfl
theorem rc_index3 (w : World) : (Instr.index 199 (.agg rcCells) (.int .i64 ((3 : Nat) : Int))).run Try.prog w = .ok (.int .u64 (u (Kec.rc 3))) w := by kernel_rfl
theorem rc_index4 (w : World) : (Instr.index 199 (.agg rcCells) (.int .i64 ((4 : Nat) : Int))).run Try.prog w = .ok (.int .u64 (u (Kec.rc 4))) w := by kernel_rfl
theorem rc_index5 (w : World) : (Instr.index 199 (.agg rcCells) (.int .i64 ((5 : Nat) : Int))).run Try.prog w = .ok (.int .u64 (u (Kec.rc 5))) w := by kernel_rfl
theorem rc_index6 (w : World) : (Instr.index 199 (.agg rcCells) (.int .i64 ((6 : Nat) : Int))).run Try.prog w = .ok (.int .u64 (u (Kec.rc 6))) w := by kernel_rfl
theorem rc_index7 (w : World) : (Instr.index 199 (.agg rcCells) (.int .i64 ((7 : Nat) : Int))).run Try.prog w = .ok (.int .u64 (u (Kec.rc 7))) w := by kernel_rfl
theorem rc_index8 (w : World) : (Instr.index 199 (.agg rcCells) (.int .i64 ((8 : Nat) : Int))).run Try.prog w = .ok (.int .u64 (u (Kec.rc 8))) w := by kernel_rfl
theorem rc_index9 (w : World) : (Instr.index 199 (.agg rcCells) (.int .i64 ((9 : Nat) : Int))).run Try.prog w = .ok (.int .u64 (u (Kec.rc 9))) w := by kernel_rfl
theorem rc_index10 (w : World) : (Instr.index 199 (.agg rcCells) (.int .i64 ((10 : Nat) : Int))).run Try.prog w = .ok (.int .u64 (u (Kec.rc 10))) w := by kernel_rfl
theorem rc_index11 (w : World) : (Instr.index 199 (.agg rcCells) (.int .i64 ((11 : Nat) : Int))).run Try.prog w = .ok (.int .u64 (u (Kec.rc 11))) w := by kernel_rfl
theorem rc_index12 (w : World) : (Instr.index 199 (.agg rcCells) (.int .i64 ((12 : Nat) : Int))).run Try.prog w = .ok (.int .u64 (u (Kec.rc 12))) w := by kernel_rfl
theorem rc_index13 (w : World) : (Instr.index 199 (.agg rcCells) (.int .i64 ((13 : Nat) : Int))).run Try.prog w = .ok (.int .u64 (u (Kec.rc 13))) w := by kernel_rfl
theorem rc_index14 (w : World) : (Instr.index 199 (.agg rcCells) (.int .i64 ((14 : Nat) : Int))).run Try.prog w = .ok (.int .u64 (u (Kec.rc 14))) w := by kernel_rfl
theorem rc_index15 (w : World) : (Instr.index 199 (.agg rcCells) (.int .i64 ((15 : Nat) : Int))).run Try.prog w = .ok (.int .u64 (u (Kec.rc 15))) w := by kernel_rfl
theorem rc_index16 (w : World) : (Instr.index 199 (.agg rcCells) (.int .i64 ((16 : Nat) : Int))).run Try.prog w = .ok (.int .u64 (u (Kec.rc 16))) w := by kernel_rfl
theorem rc_index17 (w : World) : (Instr.index 199 (.agg rcCells) (.int .i64 ((17 : Nat) : Int))).run Try.prog w = .ok (.int .u64 (u (Kec.rc 17))) w := by kernel_rfl
theorem rc_index18 (w : World) : (Instr.index 199 (.agg rcCells) (.int .i64 ((18 : Nat) : Int))).run Try.prog w = .ok (.int .u64 (u (Kec.rc 18))) w := by kernel_rfl
theorem rc_index19 (w : World) : (Instr.index 199 (.agg rcCells) (.int .i64 ((19 : Nat) : Int))).run Try.prog w = .ok (.int .u64 (u (Kec.rc 19))) w := by kernel_rfl
theorem rc_index20 (w : World) : (Instr.index 199 (.agg rcCells) (.int .i64 ((20 : Nat) : Int))).run Try.prog w = .ok (.int .u64 (u (Kec.rc 20))) w := by kernel_rfl
theorem rc_index21 (w : World) : (Instr.index 199 (.agg rcCells) (.int .i64 ((21 : Nat) : Int))).run Try.prog w = .ok (.int .u64 (u (Kec.rc 21))) w := by kernel_rfl
theorem rc_index22 (w : World) : (Instr.index 199 (.agg rcCells) (.int .i64 ((22 : Nat) : Int))).run Try.prog w = .ok (.int .u64 (u (Kec.rc 22))) w := by kernel_rfl
theorem rc_index23 (w : World) : (Instr.index 199 (.agg rcCells) (.int .i64 ((23 : Nat) : Int))).run Try.prog w = .ok (.int .u64 (u (Kec.rc 23))) w := by kernel_rfl
theorem rc_index (k : Nat) (hk : k < 24) (w : World) : (Instr.index 199 (.agg rcCells) (.int .i64 (k : Nat))).run Try.prog w = .ok (.int .u64 (u (Kec.rc k))) w := by
  match k, hk with
  | 0, _ => exact rc_index0 w
  | 1, _ => exact rc_index1 w
  | 2, _ => exact rc_index2 w
  | 3, _ => exact rc_index3 w
  | 4, _ => exact rc_index4 w
  | 5, _ => exact rc_index5 w
  | 6, _ => exact rc_index6 w
  | 7, _ => exact rc_index7 w
  | 8, _ => exact rc_index8 w
  | 9, _ => exact rc_index9 w
  | 10, _ => exact rc_index10 w
  | 11, _ => exact rc_index11 w
  | 12, _ => exact rc_index12 w
  | 13, _ => exact rc_index13 w
  | 14, _ => exact rc_index14 w
  | 15, _ => exact rc_index15 w
  | 16, _ => exact rc_index16 w
  | 17, _ => exact rc_index17 w
  | 18, _ => exact rc_index18 w
  | 19, _ => exact rc_index19 w
  | 20, _ => exact rc_index20 w
  | 21, _ => exact rc_index21 w
  | 22, _ => exact rc_index22 w
  | 23, _ => exact rc_index23 w
  | k + 24, h => omega
set_option maxRecDepth 20000 in
set_option maxHeartbeats 1000000 in
theorem kec_permute (g : Nat) (t : TypeId) (s : St) (w : World) (hl : Lanes w g t 25 s) :
    Calls Try.prog 98 #[.pointer (some ⟨g, 0, none⟩)] w (RetU fun w' => Lanes w' g t 25 (Kec.perm s 24) ∧ Only g w w') := by
  have HL := Lib.hid hl
  clear hl
  go_enter Try.func98, Try.ntmps98
  go_wp2_with fail
  refine (kec_turns _).mono ?_
  rintro e w1 ⟨_, rfl, hg1, rfl⟩
  go_wp2_with refine wpList_store_row rfl 197 (.tmp 2) (.tmp 5) rfl w1.heap.size turnCells rfl rfl 197 _ (heap_alloc_new w1 _) (by kernel_rfl) (by kernel_rfl) (by kernel_rfl) ?_
  rw [World.setRow_alloc_new]
  refine (kec_consts _).mono ?_
  rintro e w2 ⟨_, rfl, hg2, rfl⟩
  have HT : Hid (Turns w2 w1.heap.size 197) := Lib.hid (Turns.gr (w := w1.alloc (.cells turnCells 197)) (heap_alloc_new w1 _) hg2)
  have HG : Hid (Gr w w2) := Lib.hid ((hg1.trans (gr_alloc w1 _)).trans hg2)
  have hs1 := hg1.size
  have hs2 := HL.out.lt
  clear hg1 hg2
  go_wp2_with fail
  go_loopw [7] (fun i wr => ∃ k : Nat, k ≤ 24 ∧ i = .int .i64 k ∧ Lanes wr g t 25 (Kec.perm s k) ∧ Turns wr w1.heap.size 197 ∧ Only g w wr) (fun i _ => 24 - (intOf i).toNat)
  case atStart => exact ⟨0, by omega, rfl, HL.out.gr HG.out, HT.out, Only.of_gr HG.out g⟩
  case round =>
    clear HT HG
    obtain ⟨k, hk, rfl, hl, ht, ho⟩ := hrel
    have HM := Lib.hid hl
    have HT := Lib.hid ht
    have HO := Lib.hid ho
    clear hl ht ho
    by_cases h1 : k < 24
    · have hidx := rc_index k h1
      go_wp2_with fail
      refine (kec_round g _ t 197 _ _ _ HM.out HT.out).mono ?_
      rintro e w3 ⟨rfl, hl3, ho3⟩
      have H3 := Lib.hid hl3
      have HO3 := Lib.hid ho3
      clear hl3 ho3
      go_wp2_with fail
      go_roundw
      case rel => exact ⟨k + 1, by omega, by go_num, H3.out, (ho3t HO3.out HT.out (by omega)), HO.out.trans HO3.out⟩
      case measure => simp [intOf]; omega
    · have h5 : k = 24 := by omega
      subst h5
      go_wp2_with fail
      exact bodyPost_end (results_none rfl _ _ _) rfl ⟨rfl, HM.out, HO.out⟩
end Go.Proofs.Ytmlajcbabimkjaa
/-
  Keccak in plain words: the permutations are one.
  Conditions: none. No program is named here.
-/
namespace Go.Proofs.Ytmlajcbabimkjaa.Kec
theorem Same.refl (a : St) : Same a a := fun _ _ => rfl
theorem Same.trans {a b c : St} (h : Same a b) (k : Same b c) : Same a c := fun i hi => (h i hi).trans (k i hi)
theorem Same.upd {a b : St} (h : Same a b) (k : Nat) {v v' : L} (hv : v = v') : Same (upd a k v) (upd b k v') := by
  intro i hi
  unfold Kec.upd
  rw [hv]
  split
  · rfl
  · exact h i hi
theorem col_same {a b : St} (h : Same a b) (x : Nat) (hx : x < 5) : col a x = col b x := by
  unfold col
  rw [h x (by omega), h (x + 5) (by omega), h (x + 10) (by omega), h (x + 15) (by omega), h (x + 20) (by omega)]
theorem dd_same {a b : St} (h : Same a b) (x : Nat) : dd a x = dd b x := by
  unfold dd
  rw [col_same h _ (Nat.mod_lt _ (by decide)), col_same h _ (Nat.mod_lt _ (by decide))]
theorem bb_same {a b : St} (h : Same a b) : ∀ k, k ≤ 25 → bb a k = bb b k
  | 0, _ => rfl
  | k + 1, hk => by
    unfold bb
    rw [bb_same h k (by omega), h k (by omega), dd_same h]
theorem ss_same {a b : St} (h : Same a b) (r : St) : ∀ k, Same (ss r a k) (ss r b k)
  | 0 => h
  | k + 1 => (ss_same h r k).upd k rfl
theorem round_same {a b : St} (h : Same a b) (n : L) : Same (round a n) (round b n) := by
  have h1 := ss_same h (bb a 25) 25
  unfold round
  rw [← bb_same h 25 (by omega)]
  exact h1.upd 0 (by rw [h1 0 (by omega)])
end Go.Proofs.Ytmlajcbabimkjaa.Kec
/-
  Keccak in plain words: bytes are taken in; the program's way and the reference's are one.
  Conditions: none. No program is named here.
-/
namespace Go.Proofs.Ytmlajcbabimkjaa
open Kec (L St rotl Same)
def absorbG (P : St → St) (p : St × Nat) (b : UInt8) : St × Nat := if p.2 + 1 = 136 then (P (takeB p.1 p.2 b.toNat), 0) else (takeB p.1 p.2 b.toNat, p.2 + 1)
def absorb (p : St × Nat) (b : UInt8) : St × Nat := absorbG (fun s => Kec.perm s 24) p b
def absorbs (l : List UInt8) : St × Nat := l.foldl absorb (fun _ => 0, 0)
def sponge (l : List UInt8) : St := Kec.perm (takeB (takeB (absorbs l).1 (absorbs l).2 1) 135 128) 24
theorem absorbs_snoc (l : List UInt8) (b : UInt8) : absorbs (l ++ [b]) = absorb (absorbs l) b := by simp [absorbs]
theorem absorbG_lt (P : St → St) (p : St × Nat) (b : UInt8) (h : p.2 < 136) : (absorbG P p b).2 < 136 := by
  unfold absorbG
  split
  · simp
  · dsimp only; omega
theorem absorb_lt (p : St × Nat) (b : UInt8) (h : p.2 < 136) : (absorb p b).2 < 136 := absorbG_lt _ p b h
theorem absorbs_lt' (l : List UInt8) : ∀ p : St × Nat, p.2 < 136 → (l.foldl absorb p).2 < 136 := by
  induction l with
  | nil => exact fun _ h => h
  | cons b l ih => exact fun p h => ih _ (absorb_lt p b h)
theorem absorbs_lt (l : List UInt8) : (absorbs l).2 < 136 := absorbs_lt' l _ (by simp)
theorem take_flat (ms : List (List UInt8)) (k : Nat) (h : k < ms.length) : (ms.take (k + 1)).flatten = (ms.take k).flatten ++ ms[k] := by
  rw [List.take_succ_eq_append_getElem h, List.flatten_append]
  simp only [List.flatten_cons, List.flatten_nil, List.append_nil]
theorem take_snoc (pre m : List UInt8) (j : Nat) (h : j < m.length) : absorbs (pre ++ m.take (j + 1)) = absorb (absorbs (pre ++ m.take j)) m[j] := by
  rw [List.take_succ_eq_append_getElem h, ← List.append_assoc, absorbs_snoc]
/-! ### The place -/
/-! ### The padding -/
/-! ### The reference's way -/
/-! ### The sum's bytes -/
def outB (f : St) (k : Nat) : UInt8 := UInt8.ofNat (f (k / 8) >>> (8 * (k % 8))).toNat
def outL (f : St) : List UInt8 := (List.range 32).map (outB f)
theorem outL_same {a b : St} (h : Same a b) : outL a = outL b := by
  unfold outL
  refine List.map_congr_left fun k hk => ?_
  have := List.mem_range.1 hk
  unfold outB
  rw [h _ (by omega)]
def hash (l : List UInt8) : List UInt8 := outL (sponge l)
theorem hash_length (l : List UInt8) : (hash l).length = 32 := by simp [hash, outL]
end Go.Proofs.Ytmlajcbabimkjaa
