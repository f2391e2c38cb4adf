/-
  KeccakLengths: the hash of bytes of any length.
  Conditions: none.
-/
import Derived.Test.YtfpigemikpbbhaaKecSums
namespace Go.Proofs.Ytfpigemikpbbhaa
open Go.RowKit Mono

/-- The first k of n bytes are written. -/
def lenL (v : Nat) (n k : Nat) : List UInt8 := (List.range n).map fun i => if i < k then UInt8.ofNat (v + i) else 0
theorem lenL_length (v n k : Nat) : (lenL v n k).length = n := by simp [lenL]
theorem lenL_zero (v n : Nat) : lenL v n 0 = List.replicate n 0 := by
  unfold lenL
  apply List.ext_getElem
  · simp
  · intro i h1 h2
    simp
theorem lenL_get (v n k i : Nat) : (lenL v n k)[i]? = if i < n then some (if i < k then UInt8.ofNat (v + i) else 0) else none := by
  unfold lenL
  rw [List.getElem?_map]
  by_cases h : i < n
  · rw [if_pos h, List.getElem?_range h]; rfl
  · rw [if_neg h, List.getElem?_eq_none (by simp; omega)]; rfl
theorem lenL_set (v n k : Nat) : (lenL v n k).set k (UInt8.ofNat (v + k)) = lenL v n (k + 1) := by
  apply List.ext_getElem?
  intro i
  rw [List.getElem?_set, lenL_get, lenL_get, lenL_length]
  by_cases hi : i < n
  · rw [if_pos hi, if_pos hi]
    by_cases h : k = i
    · subst h
      rw [if_pos rfl, if_pos hi, if_pos (by omega)]
    · rw [if_neg h]
      by_cases h3 : i < k
      · rw [if_pos h3, if_pos (by omega)]
      · rw [if_neg h3, if_neg (by omega)]
  · rw [if_neg hi, if_neg hi]
    by_cases h : k = i
    · subst h
      rw [if_pos rfl, if_neg hi]
    · rw [if_neg h]

set_option maxRecDepth 20000 in
set_option maxHeartbeats 1000000 in
theorem lengths_small (n v : Nat) (w : World) (hn : n ≤ 1000) (_ : v < 256) : Calls Try.prog 7 #[.int .i64 n, .int .u8 v] w (Ret (eqV (.bool true)) w) := by
  have d1 : decide ((n : Int) < 0) = false := by simp
  have d2 : decide ((1000 : Int) < (n : Int)) = false := by simp; omega
  go_enter Try.func7, Try.ntmps7
  go_wp2_with fail
  refine (kec_alive _).mono ?_
  rintro e w1 ⟨_, rfl, hg1, rfl⟩
  have HG1 := Lib.hid hg1
  clear hg1
  go_wp2_with (refine wpL_make_bytes (.tmp 20) w.heap.size n rfl rfl rfl (by omega) HG1.out.size ?_; intro w2 hown2 hg2)
  clear d1 d2
  have HO2 : Hid (OwnB w2 w.heap.size (.slice (some ⟨w1.heap.size, 0, none⟩) n n) (lenL v n 0)) := Lib.hid (by rw [lenL_zero]; exact hown2)
  have HG2 := Lib.hid (HG1.out.trans hg2)
  have hs1 := HG1.out.size
  clear hown2 hg2 HG1
  go_loopw [7] (fun i wr => ∃ k : Nat, k ≤ n ∧ i = .int .i64 k ∧ OwnB wr w.heap.size (.slice (some ⟨w1.heap.size, 0, none⟩) n n) (lenL v n k) ∧ Gr w wr) (fun i _ => n - (intOf i).toNat)
  case atStart => exact ⟨0, by omega, rfl, HO2.out, HG2.out⟩
  case round =>
    clear HO2 HG2
    obtain ⟨k, hk, rfl, hown, hb⟩ := hrel
    have hbs := hb.size
    unfold OwnB at hown
    rw [lenL_length] at hown
    have HO := Lib.hid hown
    have HB := Lib.hid hb
    clear hown hb
    by_cases h1 : k < n
    · have c1 := HO.out.cellAt k (by omega)
      have c2 := HO.out.frozenAt k
      have hg : (bvs (lenL v n k))[k]? = some (.int .u8 0) := by
        simp only [bvs, List.getElem?_map, lenL_get, if_pos h1]
        rw [if_neg (by omega)]
        rfl
      rw [hg] at c1
      clear hg
      go_wp2_with fail
      go_roundw
      case rel =>
        have hv2 : Value.int .u8 (((v : Int) + k) % 256) = bv (UInt8.ofNat (v + k)) := by
          unfold bv
          congr 1
        rw [hv2]
        refine ⟨k + 1, by omega, by go_num, ?_, (Below.refl _ _).trans ?_⟩
        · unfold OwnB
          rw [lenL_length, ← lenL_set, ← bvs_set]
          exact (HO.out.stored k _).1
        · exact (HB.out.setCell (by dsimp only; omega) _)
      case measure => simp [intOf]; omega
    · have h5 : n ≤ k := by omega
      clear h1
      have hi : IsB wr (.slice (some ⟨w1.heap.size, 0, none⟩) n n) (lenL v n k) := by
        have := OwnB.isB (w := wr) (base := w.heap.size) (v := .slice (some ⟨w1.heap.size, 0, none⟩) n n) (l := lenL v n k) (by unfold OwnB; rw [lenL_length]; exact HO.out)
        exact this
      have HI := Lib.hid hi
      clear hi HO
      go_wp2_with fail
      have hz := hash_length (lenL v n k)
      have he : ∀ w : World, (binOp .eql 36 (arrV (hash (lenL v n k))) (arrV (hash (lenL v n k)))).run Try.prog w = .ok (.bool true) w := fun w => by rw [run_eql_word w _ _ hz hz]; simp
      have hq := fun (w : World) (x y : Operand) => guard_eql_word w x y (hash (lenL v n k)) (hash (lenL v n k))
      clear hz
      refine (sum_all _ [lenL v n k] _ (isBB_one (heap_alloc_new _ _) (HI.out.gr (gr_alloc _ _)))).mono ?_
      rintro e w3 ⟨_, rfl, hg3, rfl⟩
      rw [show ([lenL v n k] : List (List UInt8)).flatten = lenL v n k by simp]
      have HG3 := Lib.hid (HB.out.trans ((gr_alloc _ _).trans hg3))
      have HI3 := Lib.hid (HI.out.gr ((gr_alloc _ _).trans hg3))
      clear hg3
      go_wp2_with fail
      refine (ref_keccak _ _ _ HI3.out (by rw [lenL_length]; omega)).mono ?_
      rintro e w4 ⟨_, rfl, hg4, rfl⟩
      have HG4 := Lib.hid (HG3.out.trans hg4)
      clear hg4
      go_wp2_with fail
      refine bodyPost_ret (results_tmp rfl _ _ _) rfl ?_
      exact ⟨_, rfl, HG4.out, rfl⟩
/-- The law, whatever the number. -/
theorem lengths_all (n : Int) (v : Int) (w : World) (h1 : -9223372036854775808 ≤ n) (h2 : n ≤ 9223372036854775807) (hv0 : 0 ≤ v) (hv1 : v ≤ 255) : Calls Try.prog 7 #[.int .i64 n, .int .u8 v] w (Ret (eqV (.bool true)) w) := by
  by_cases hn : 0 ≤ n ∧ n ≤ 1000
  · have := lengths_small n.toNat v.toNat w (by omega) (by omega)
    rw [Int.toNat_of_nonneg hn.1, Int.toNat_of_nonneg hv0] at this
    exact this
  · rcases Int.lt_or_le n 0 with h | h
    · clear hn
      go_enter Try.func7, Try.ntmps7
      go_wp2_with fail
      refine (kec_alive _).mono ?_
      rintro e w1 ⟨_, rfl, hg1, rfl⟩
      go_wp2_with fail
      refine bodyPost_ret (results_tmp rfl _ _ _) rfl ?_
      exact ⟨_, rfl, hg1, rfl⟩
    · have h3 : 1000 < n := by omega
      clear hn
      go_enter Try.func7, Try.ntmps7
      go_wp2_with fail
      refine (kec_alive _).mono ?_
      rintro e w1 ⟨_, rfl, hg1, rfl⟩
      go_wp2_with fail
      refine bodyPost_ret (results_tmp rfl _ _ _) rfl ?_
      exact ⟨_, rfl, hg1, rfl⟩
end Go.Proofs.Ytfpigemikpbbhaa
