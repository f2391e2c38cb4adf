/-
  rlp: a number's bytes, heads.
  Conditions: lengths are at most 2^46.
-/
import Derived.Test.YtfpigemikpbbhaaRlp
import Derived.Test.YtfpigemikpbbhaaGrow
import Derived.BigQuiet
import Derived.Deep.QuietTactic
import Derived.RegionTactic
import Derived.BigRegion
import Derived.Lib.SliceRun
namespace Go.Proofs.Ytfpigemikpbbhaa
open Go.RowKit Mono Rlp

/-- A list in whose first i and last i places the reverse stands. -/
def revd (l : List UInt8) (i : Nat) : List UInt8 := (List.range l.length).map fun k => if k < i ∨ l.length ≤ k + i then l.getD (l.length - 1 - k) 0 else l.getD k 0
theorem revd_length (l : List UInt8) (i : Nat) : (revd l i).length = l.length := by simp [revd]
theorem revd_get (l : List UInt8) (i k : Nat) (hk : k < l.length) : (revd l i)[k]? = some (if k < i ∨ l.length ≤ k + i then l.getD (l.length - 1 - k) 0 else l.getD k 0) := by
  unfold revd
  rw [List.getElem?_map, List.getElem?_range hk]
  rfl
theorem revd_zero (l : List UInt8) : revd l 0 = l := by
  apply List.ext_getElem?
  intro k
  by_cases hk : k < l.length
  · rw [revd_get l 0 k hk, if_neg (by omega)]
    simp [hk]
  · rw [List.getElem?_eq_none (by rw [revd_length]; omega), List.getElem?_eq_none (by omega)]
theorem revd_all (l : List UInt8) (i : Nat) (h : l.length ≤ 2 * i + 1) : revd l i = l.reverse := by
  apply List.ext_getElem?
  intro k
  by_cases hk : k < l.length
  · rw [revd_get l i k hk, List.getElem?_reverse hk]
    by_cases hi : k < i ∨ l.length ≤ k + i
    · rw [if_pos hi]
      simp [show l.length - 1 - k < l.length by omega]
    · rw [if_neg hi]
      have : l.length - 1 - k = k := by omega
      rw [this]
      simp [hk]
  · rw [List.getElem?_eq_none (by rw [revd_length]; omega), List.getElem?_eq_none (by simp; omega)]
theorem revd_step (l : List UInt8) (i : Nat) (h : 2 * i + 1 < l.length) : ((revd l i).set i (l.getD (l.length - 1 - i) 0)).set (l.length - 1 - i) (l.getD i 0) = revd l (i + 1) := by
  apply List.ext_getElem?
  intro k
  rw [List.getElem?_set, List.getElem?_set, List.length_set, revd_length]
  by_cases hk : k < l.length
  · rw [revd_get l (i + 1) k hk, revd_get l i k hk]
    by_cases h1 : l.length - 1 - i = k
    · rw [if_pos h1, if_pos (by omega), if_pos (by omega)]
      congr 2
      omega
    · rw [if_neg h1]
      by_cases h2 : i = k
      · subst h2
        rw [if_pos rfl, if_pos (by omega), if_pos (by omega)]
      · rw [if_neg h2]
        by_cases h3 : k < i ∨ l.length ≤ k + i
        · rw [if_pos h3, if_pos (by omega)]
        · rw [if_neg h3, if_neg (by omega)]
  · rw [List.getElem?_eq_none (l := revd l (i + 1)) (by rw [revd_length]; omega), if_neg (by omega), if_neg (by omega), List.getElem?_eq_none (by rw [revd_length]; omega)]

theorem bvs_set' (l : List UInt8) (k : Nat) (b : UInt8) : (bvs l).set k (bv b) = bvs (l.set k b) := by simp [bvs, List.map_set]
theorem own_drew {w : World} {base e size n : Nat} {v : Value} {xs : List Value} (h : w.ownsRow base e size v n xs) : w.drew.ownsRow base e size v n xs := h
def RetB (R : World → Prop) (e : Ending) (w' : World) : Prop := e = .returned (.tuple #[]) ∧ R w'
set_option maxHeartbeats 1000000 in
theorem reverse_bytes (base : Nat) (v : Value) (l : List UInt8) (w : World) (h : OwnB w base v l) (hl : l.length ≤ 1073741824) :
    Calls Try.prog 74 #[v] w (RetB fun w' => OwnB w' base v l.reverse ∧ Below base w w') := by
  obtain ⟨A, c, rfl, hc1, hc2⟩ := own_form h
  unfold maxLen at hc2
  rcases Nat.eq_zero_or_pos l.length with h0 | h0
  · obtain rfl := List.eq_nil_of_length_eq_zero h0
    have H := Lib.hid h
    clear h h0
    go_enter Try.func74, Try.ntmps74
    go_wp2
    go_loopw [2, 3] (fun i j wr => i = .int .i64 0 ∧ j = .int .i64 (-1) ∧ wr = w) (fun _ _ _ => 0)
    case atStart => exact ⟨rfl, rfl, rfl⟩
    case round =>
      obtain ⟨rfl, rfl, rfl⟩ := hrel
      go_wp2_with fail
      exact bodyPost_end (results_none rfl _ _ _) rfl ⟨rfl, H.out, Below.refl _ _⟩
  · obtain ⟨g, rfl, hgb, hgl⟩ := own_some h h0
    have H := Lib.hid h
    clear h
    go_enter Try.func74, Try.ntmps74
    go_wp2
    go_loopw [2, 3] (fun i j wr => ∃ k : Nat, 2 * k ≤ l.length ∧ i = .int .i64 k ∧ j = .int .i64 ((l.length : Int) - 1 - (k : Int)) ∧ wr.ownsRow base 5 1 (.slice (some ⟨g, 0, none⟩) l.length c) l.length (bvs (revd l k)) ∧ Below base w wr) (fun i _ _ => l.length - (intOf i).toNat)
    case atStart => exact ⟨0, by omega, rfl, by simp, by rw [revd_zero]; exact H.out, Below.refl _ _⟩
    case round =>
      clear H
      obtain ⟨k, hk, rfl, rfl, hown, hb⟩ := hrel
      have HO := Lib.hid hown
      have HB := Lib.hid hb
      clear hown hb
      by_cases h1 : 2 * k + 1 < l.length
      · have e1 := HO.out.cellAt k (by omega)
        have e2 := HO.out.cellAt (l.length - 1 - k) (by omega)
        have e3 := HO.out.frozenAt k
        have e4 := HO.out.frozenAt (l.length - 1 - k)
        have g1 : (bvs (revd l k))[k]? = some (.int .u8 ((l.getD k 0).toNat : Int)) := by
          simp only [bvs, List.getElem?_map]
          rw [revd_get l k k (by omega), if_neg (by omega)]
          rfl
        have g2 : (bvs (revd l k))[l.length - 1 - k]? = some (.int .u8 ((l.getD (l.length - 1 - k) 0).toNat : Int)) := by
          simp only [bvs, List.getElem?_map]
          rw [revd_get l k _ (by omega), if_neg (by omega)]
          rfl
        rw [g1] at e1
        rw [g2] at e2
        clear g1 g2
        have hne : k ≠ l.length - 1 - k := by omega
        go_wp2
        go_region
        go_wp2
        go_roundw
        case rel =>
          have hs := (HO.out.stored k (bv (l.getD (l.length - 1 - k) 0)))
          have hs2 := hs.1.stored (l.length - 1 - k) (bv (l.getD k 0))
          rw [bvs_set', bvs_set', revd_step l k h1] at hs2
          refine ⟨k + 1, by omega, by go_num, by congr 1; omega, own_drew hs2.1, ?_⟩
          exact ((HB.out.setCell (by dsimp only; omega) _).setCell (by dsimp only; omega) _).drew
        case measure => simp [intOf]; omega
      · have h2 : l.length ≤ 2 * k + 1 := by omega
        clear h1
        have hr := Lib.hid (revd_all l k h2)
        go_wp2_with fail
        refine bodyPost_end (results_none rfl _ _ _) rfl ⟨rfl, ?_, HB.out⟩
        unfold OwnB
        rw [List.length_reverse, ← hr.out]
        exact HO.out

theorem bv_nat (m : Nat) : Value.int .u8 ((m : Int) % 256) = bv (UInt8.ofNat m) := by
  unfold bv
  rw [UInt8.toNat_ofNat']
  rfl
theorem bv_small (m : Nat) (h : m < 256) : Value.int .u8 (m : Int) = bv (UInt8.ofNat m) := by
  unfold bv
  rw [UInt8.toNat_ofNat']
  congr 2
  omega
set_option maxHeartbeats 1000000 in
theorem rlp_big (n : Nat) (w : World) (hn : n ≤ 9223372036854775807) : Calls Try.prog 59 #[.int .i64 n] w (Ret (fun v w' => OwnB w' w.heap.size v (be n)) w) := by
  have hlen := le_length 8 n (by omega)
  go_enter Try.func59, Try.ntmps59
  go_wp2
  go_loopw [0, 3] (fun i v wr => ∃ (m : Nat) (acc : List UInt8), m ≤ n ∧ i = .int .i64 m ∧ acc ++ le m = le n ∧ acc.length ≤ 8 ∧ OwnB wr w.heap.size v acc ∧ Below w.heap.size w wr) (fun i _ _ => (intOf i).toNat)
  case atStart => exact ⟨n, [], Nat.le_refl _, rfl, rfl, by simp, OwnB.nil _ _, Below.refl _ _⟩
  case round =>
    obtain ⟨m, acc, hm, rfl, hacc, hal, hown, hb⟩ := hrel
    obtain ⟨A', c', rfl, hc1, hc2⟩ := own_form hown
    have hbs := hb.size
    have HO := Lib.hid hown
    have HB := Lib.hid hb
    have HA := Lib.hid hacc
    clear hown hb hacc
    by_cases h1 : 0 < m
    · have hle := Lib.hid (le_pos m h1)
      have hal2 : acc.length + 1 ≤ 8 := by
        have h2 := congrArg List.length HA.out
        rw [hle.out, List.length_append, List.length_cons] at h2
        omega
      go_wp2_with (at_builtin; refine wpL_append (.tmp 8) (.tmp 11) 22 slT_bytes (base := w.heap.size) _ acc.length (bvs acc) _ 1 1 (wr.heap.size + 1) [.int .u8 ((m : Int) % 256)] rfl rfl rfl rfl (HO.out.alloc _) (Rd.new _ _ _) rfl (by simp [Value.oneCell']) (by simp only [maxLen]; omega) (by omega) (by simp; omega) ?_; intro A2 c2 w2 hown2 hg2 _)
      go_roundw
      case rel =>
        refine ⟨m / 256, acc ++ [UInt8.ofNat m], by omega, by go_num, ?_, by simp; omega, ?_, (HB.out.alloc hbs _).grown hg2 (by simp; omega) fun j hj => own_block_ge HO.out j hj⟩
        · rw [List.append_assoc, List.singleton_append, ← hle.out, HA.out]
        · rw [bv_nat] at hown2
          refine ownB_of hown2 ?_
          rw [bvs_append]
          rfl
      case measure => simp [intOf]; omega
    · have h0 : m = 0 := by omega
      have HE : Hid (acc.reverse = be n) := by
        refine Lib.hid ?_
        have := HA.out
        rw [h0, le_zero, List.append_nil] at this
        rw [this]
        rfl
      clear HA hlen
      go_wp2_with fail
      refine (reverse_bytes w.heap.size _ acc _ HO.out (by omega)).mono ?_
      rintro e w2 ⟨rfl, hown2, hb2⟩
      have HO2 := Lib.hid hown2
      have HB2 := Lib.hid (HB.out.trans hb2)
      clear hown2 hb2
      go_wp2_with fail
      refine bodyPost_ret (results_tmp rfl _ _ _) rfl ?_
      refine ⟨_, rfl, HB2.out, ?_⟩
      rw [← HE.out]
      exact HO2.out
set_option maxHeartbeats 1000000 in
theorem rlp_big_neg (n : Int) (w : World) (h1 : -9223372036854775808 ≤ n) (h2 : n < 0) : Calls Try.prog 59 #[.int .i64 n] w (Ret (fun v w' => OwnB w' w.heap.size v []) w) := by
  go_enter Try.func59, Try.ntmps59
  go_wp2
  go_loopw [0, 3] (fun i v wr => i = .int .i64 n ∧ v = .slice none 0 0 ∧ wr = w) (fun _ _ _ => 0)
  case atStart => exact ⟨rfl, rfl, rfl⟩
  case round =>
    obtain ⟨rfl, rfl, rfl⟩ := hrel
    go_wp2_with fail
    refine (reverse_bytes wr.heap.size _ [] _ (OwnB.nil _ _) (by simp)).mono ?_
    rintro e w2 ⟨rfl, hown2, hb2⟩
    have HO2 := Lib.hid hown2
    have HB2 := Lib.hid hb2
    clear hown2 hb2
    go_wp2_with fail
    refine bodyPost_ret (results_tmp rfl _ _ _) rfl ?_
    exact ⟨_, rfl, HB2.out, HO2.out⟩

set_option maxHeartbeats 1000000 in
theorem clone_bytes (v : Value) (l : List UInt8) (w : World) (h : IsB w v l) (hl : l.length ≤ 140737488355328) : Calls Try.prog 61 #[v] w (Ret (fun v w' => OwnB w' w.heap.size v l) w) := by
  obtain ⟨A, c, rfl, hc1, hc2, hr⟩ := h
  cases A with
  | none =>
    have hl0 : l = [] := by
      by_cases hn : bvs l = []
      · simpa [bvs] using hn
      · obtain ⟨b, o, e, _⟩ := hr hn
        cases e
    subst hl0
    clear hr
    have hq := Lib.run_eql_slice_nil w 22 5 none 0 c 0 0 Try.underlying22
    go_enter Try.func61, Try.ntmps61
    go_wp2
    refine bodyPost_ret (results_tmp rfl _ _ _) rfl ?_
    exact ⟨_, rfl, Gr.refl _, OwnB.nil _ _⟩
  | some a =>
    have HR := Lib.hid hr
    clear hr
    have hq := Lib.run_eql_slice_nil w 22 5 (some a) l.length c 0 0 Try.underlying22
    go_enter Try.func61, Try.ntmps61
    go_wp2_with (at_builtin; refine wpL_append (.tmp 5) (.tmp 6) 22 slT_bytes (base := w.heap.size) _ 0 [] _ l.length c w.heap.size (bvs l) rfl rfl rfl rfl (own_lit w #[] 5 1 0 w.heap.size w.heap.size rfl (Nat.le_refl _) (by simp [maxLen]) rfl) (HR.out.below ((Below.refl _ _).alloc (Nat.le_refl _) _)) (by simp [bvs]) (bvs_one _) (by simp only [maxLen]; omega) (by omega) (by simp) ?_; intro A2 c2 w2 hown2 hg2 _)
    refine bodyPost_ret (results_tmp rfl _ _ _) rfl ?_
    refine ⟨_, rfl, ((Below.refl _ _).alloc (Nat.le_refl _) _).grown hg2 (by simp) (fun j hj => by cases hj; exact Nat.le_refl _), ?_⟩
    rw [Nat.zero_add, List.nil_append] at hown2
    exact hown2

set_option maxHeartbeats 1000000 in
theorem rlp_size (n : Nat) (w : World) (hn : n ≤ 4611686018427387904) : Calls Try.prog 72 #[.int .i64 n] w (Ret (eqV (.int .i64 (szB n))) w) := by
  have hl := be_length 8 n (by omega)
  by_cases h1 : n < 56
  · have hs := Lib.hid (show szB n = 1 + n from if_pos h1)
    go_enter Try.func72, Try.ntmps72
    go_wp2_with fail
    refine bodyPost_ret (results_tmp rfl _ _ _) rfl ?_
    refine ⟨_, rfl, Gr.refl _, ?_⟩
    unfold eqV
    rw [hs.out]
    simp
  · have hs := Lib.hid (show szB n = 1 + (be n).length + n from if_neg h1)
    have h2 : 55 < n := by omega
    clear h1
    go_enter Try.func72, Try.ntmps72
    go_wp2_with fail
    refine (rlp_big n _ (by omega)).mono ?_
    rintro e w1 ⟨v, rfl, hg1, hown⟩
    obtain ⟨A, c, rfl, hc1, hc2⟩ := own_form hown
    clear hown
    unfold maxLen at hc2
    go_wp2_with fail
    refine bodyPost_ret (results_tmp rfl _ _ _) rfl ?_
    refine ⟨_, rfl, hg1, ?_⟩
    unfold eqV
    rw [hs.out]
    simp
set_option maxHeartbeats 1000000 in
theorem rlp_size_any (n : Nat) (w : World) (hn : n ≤ 9223372036854775807) (h2 : 55 < n) : Calls Try.prog 72 #[.int .i64 n] w (Ret (fun v _ => ∃ z : Int, v = .int .i64 z) w) := by
  have hl := be_length 8 n (by omega)
  go_enter Try.func72, Try.ntmps72
  go_wp2_with fail
  refine (rlp_big n _ (by omega)).mono ?_
  rintro e w1 ⟨v, rfl, hg1, hown⟩
  obtain ⟨A, c, rfl, hc1, hc2⟩ := own_form hown
  clear hown
  unfold maxLen at hc2
  go_wp2_with fail
  refine bodyPost_ret (results_tmp rfl _ _ _) rfl ?_
  exact ⟨_, rfl, hg1, _, rfl⟩

set_option maxHeartbeats 1000000 in
theorem rlp_headed (base : Nat) (v : Value) (l : List UInt8) (w : World) (h : IsB w v l) (hl : l.length ≤ 70368744177664) (hb : base ≤ 192) : Calls Try.prog 73 #[.int .i64 base, v] w (Ret (fun v w' => OwnB w' w.heap.size v (head l.length base ++ l)) w) := by
  obtain ⟨A, c, rfl, hc1, hc2, hr⟩ := h
  have HR := Lib.hid hr
  clear hr
  unfold maxLen at hc2
  have hbl := be_length 8 l.length (by omega)
  by_cases h1 : l.length < 56
  · have hs := Lib.hid (show head l.length base = [UInt8.ofNat (base + l.length)] from if_pos h1)
    go_enter Try.func73, Try.ntmps73
    go_wp2_with (at_builtin; refine wpL_append (.tmp 15) (.tmp 16) 22 slT_bytes (base := w.heap.size) _ 1 [.int .u8 (((base : Int) + (l.length : Int)))] _ l.length c w.heap.size (bvs l) rfl rfl rfl rfl (own_lit w #[.int .u8 (((base : Int) + (l.length : Int)))] 5 1 1 w.heap.size w.heap.size rfl (Nat.le_refl _) (by simp [maxLen]) rfl) (HR.out.below ((Below.refl _ _).alloc (Nat.le_refl _) _)) (by simp [bvs]) (bvs_one _) (by simp only [maxLen]; omega) (by omega) (by simp) ?_; intro A2 c2 w2 hown2 hg2 _)
    refine bodyPost_ret (results_tmp rfl _ _ _) rfl ?_
    refine ⟨_, rfl, ((Below.refl _ _).alloc (Nat.le_refl _) _).grown hg2 (by simp) (fun j hj => by cases hj; exact Nat.le_refl _), ?_⟩
    refine ownB_of hown2 ?_
    rw [hs.out, ← Int.natCast_add, bv_small _ (by omega)]
    rfl
  · have hs := Lib.hid (show head l.length base = UInt8.ofNat (base + 55 + (be l.length).length) :: be l.length from if_neg h1)
    have h2 : 55 < l.length := by omega
    clear h1
    go_enter Try.func73, Try.ntmps73
    go_wp2_with fail
    refine (rlp_big l.length _ (by omega)).mono ?_
    rintro e w1 ⟨v, rfl, hg1, hown⟩
    obtain ⟨A1, c1, rfl, hd1, hd2⟩ := own_form hown
    have HO := Lib.hid hown
    have HG := Lib.hid hg1
    have hz1 := hg1.size
    clear hown hg1
    unfold maxLen at hd2
    have HRB := Lib.hid (OwnB.isB HO.out)
    obtain ⟨_, _, he, _, _, hrb⟩ := OwnB.isB HO.out
    injection he with he1 _ he2
    subst he1 he2
    have HB := Lib.hid hrb
    clear hrb HRB
    go_wp2_with first
      | (at_builtin; refine wpL_append (.tmp 26) (.tmp 27) 22 slT_bytes (base := w.heap.size) _ 1 [.int .u8 (((base : Int) + 55 + ((be l.length).length : Int)))] _ (be l.length).length c1 w1.heap.size (bvs (be l.length)) rfl rfl rfl rfl (own_lit w1 #[.int .u8 (((base : Int) + 55 + ((be l.length).length : Int)))] 5 1 1 w1.heap.size w.heap.size rfl hz1 (by simp [maxLen]) rfl) (HB.out.below ((Below.refl _ _).alloc (Nat.le_refl _) _)) (by simp [bvs]) (bvs_one _) (by simp only [maxLen]; omega) (by omega) (by simp; omega) ?_; intro A2 c2 w2 hown2 hg2 _; have HG2 := Lib.hid ((HG.out.alloc hz1 _).grown hg2 (by simp; omega) (fun j hj => by cases hj; exact hz1)); have HO2 := Lib.hid hown2; clear hown2 hg2)
      | (at_builtin; refine wpL_append (.tmp 28) (.tmp 29) 22 slT_bytes (base := w.heap.size) _ _ _ _ l.length c w.heap.size (bvs l) rfl rfl rfl rfl HO2.out (HR.out.below HG2.out) (by simp [bvs]) (bvs_one _) (by simp only [maxLen]; omega) (by omega) HG2.out.size ?_; intro A3 c3 w3 hown3 hg3 _)
    refine bodyPost_ret (results_tmp rfl _ _ _) rfl ?_
    refine ⟨_, rfl, HG2.out.grown hg3 HG2.out.size fun j hj => own_block_ge HO2.out j hj, ?_⟩
    refine ownB_of hown3 ?_
    have e1 : ((base : Int) + 55 + ((be l.length).length : Int)) = ((base + 55 + (be l.length).length : Nat) : Int) := by simp
    rw [hs.out, e1, bv_small _ (by omega)]
    simp [bvs]
end Go.Proofs.Ytfpigemikpbbhaa
