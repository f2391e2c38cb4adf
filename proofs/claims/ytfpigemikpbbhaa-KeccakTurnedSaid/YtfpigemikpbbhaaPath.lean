/-
  The functions of path, and the reference's, each by what it gives.
  Conditions: the lengths are bounded as each theorem says.
-/
import Derived.Test.YtfpigemikpbbhaaBase
import Derived.BigQuiet
import Derived.Deep.QuietTactic
import Derived.StillTailTactics
namespace Go.Proofs.Ytfpigemikpbbhaa
open Go.RowKit Mono

def common : List UInt8 → List UInt8 → Nat
  | x :: xs, y :: ys => if x = y then common xs ys + 1 else 0
  | _, _ => 0
theorem common_step (l m : List UInt8) (k : Nat) (h1 : k < l.length) (h2 : k < m.length) :
    common (l.drop k) (m.drop k) = if l[k] = m[k] then common (l.drop (k + 1)) (m.drop (k + 1)) + 1 else 0 := by
  rw [List.drop_eq_getElem_cons h1, List.drop_eq_getElem_cons h2, common]
theorem common_end (l m : List UInt8) (k : Nat) (h : l.length ≤ k ∨ m.length ≤ k) : common (l.drop k) (m.drop k) = 0 := by
  rcases h with h | h
  · rw [List.drop_eq_nil_of_le h]; rfl
  · rw [List.drop_eq_nil_of_le h]; cases l.drop k <;> rfl
theorem u8_beq (a b : UInt8) : ((a.toNat : Int) == (b.toNat : Int)) = decide (a = b) := by
  rw [Bool.eq_iff_iff]; simp only [beq_iff_eq, decide_eq_true_eq]; rw [Int.ofNat_inj, UInt8.toNat_inj]

def RetNat (n : Nat) (w : World) (e : Ending) (w' : World) : Prop := e = .returned (.int .i64 n) ∧ ∃ k, w' = w.drewN k

set_option maxHeartbeats 400000 in
theorem ref_common (v1 v2 : Value) (l m : List UInt8) (w : World) (h1 : IsB w v1 l) (h2 : IsB w v2 m) :
    Calls Try.prog 27 #[v1, v2] w (RetNat (common l m) w) := by
  obtain ⟨A, c, rfl, hl1, hl2, hA⟩ := h1
  obtain ⟨B, d, rfl, hm1, hm2, hB⟩ := h2
  unfold maxLen at hl2 hm2
  have HA := Lib.hid hA
  have HB := Lib.hid hB
  clear hA hB
  go_enter Try.func27, Try.ntmps27
  go_wp2
  go_loopw [5] (fun n wr => ∃ k : Nat, k ≤ l.length ∧ k ≤ m.length ∧ n = .int .i64 k ∧ (∃ n, wr = w.drewN n) ∧ Hid (common l m = k + common (l.drop k) (m.drop k))) (fun n _ => l.length - (intOf n).toNat)
  case atStart => exact ⟨0, by omega, by omega, rfl, ⟨0, rfl⟩, Lib.hid (by simp)⟩
  case round =>
    obtain ⟨k, hk1, hk2, rfl, ⟨nn, rfl⟩, hC⟩ := hrel
    by_cases h1 : k < l.length
    · by_cases h2 : k < m.length
      · obtain ⟨b1, o1, rfl, _, c1⟩ := HA.out (by intro e; have := bvs_length l; rw [e] at this; simp at this; omega)
        obtain ⟨b2, o2, rfl, _, c2⟩ := HB.out (by intro e; have := bvs_length m; rw [e] at this; simp at this; omega)
        have d1 := c1 k _ (bvs_at l k h1)
        have d2 := c2 k _ (bvs_at m k h2)
        clear c1 c2
        unfold bv at d1 d2
        have hst := Lib.hid (common_step l m k h1 h2)
        go_wp2
        go_quiet (fail)
        go_wp2
        · go_roundw
          case rel =>
            have he : l[k] = m[k] := by have h := ‹((l[k].toNat : Int) == (m[k].toNat : Int)) = true›; rw [u8_beq] at h; simpa using h
            exact ⟨k + 1, by omega, by omega, by go_num, ⟨nn + nq, by simp⟩, Lib.hid (by rw [hC.out, hst.out, if_pos he]; omega)⟩
          case measure => simp [intOf]; omega
        · have he : ¬ l[k] = m[k] := by have h := ‹((l[k].toNat : Int) == (m[k].toNat : Int)) = false›; rw [u8_beq] at h; simpa using h
          go_ret
          exact ⟨by rw [hC.out, hst.out, if_neg he]; simp, nn + nq, by simp⟩
      · have hst := Lib.hid (common_end l m k (by omega))
        go_wp2
        go_quiet (fail)
        go_wp2
        go_ret
        exact ⟨by rw [hC.out, hst.out]; simp, nn + nq, by simp⟩
    · have hst := Lib.hid (common_end l m k (by omega))
      go_wp2
      go_quiet (fail)
      go_wp2
      go_ret
      exact ⟨by rw [hC.out, hst.out]; simp, nn + nq, by simp⟩
set_option maxHeartbeats 400000 in
theorem path_common (v1 v2 : Value) (l m : List UInt8) (w : World) (h1 : IsB w v1 l) (h2 : IsB w v2 m) :
    Calls Try.prog 20 #[v1, v2] w (RetNat (common l m) w) := by
  obtain ⟨A, c, rfl, hl1, hl2, hA⟩ := h1
  obtain ⟨B, d, rfl, hm1, hm2, hB⟩ := h2
  unfold maxLen at hl2 hm2
  have HA := Lib.hid hA
  have HB := Lib.hid hB
  clear hA hB
  go_enter Try.func20, Try.ntmps20
  go_wp2
  go_loopw [5] (fun n wr => ∃ k : Nat, k ≤ l.length ∧ k ≤ m.length ∧ n = .int .i64 k ∧ (∃ n, wr = w.drewN n) ∧ Hid (common l m = k + common (l.drop k) (m.drop k))) (fun n _ => l.length - (intOf n).toNat)
  case atStart => exact ⟨0, by omega, by omega, rfl, ⟨0, rfl⟩, Lib.hid (by simp)⟩
  case round =>
    obtain ⟨k, hk1, hk2, rfl, ⟨nn, rfl⟩, hC⟩ := hrel
    by_cases h1 : k < l.length
    · by_cases h2 : k < m.length
      · obtain ⟨b1, o1, rfl, _, c1⟩ := HA.out (by intro e; have := bvs_length l; rw [e] at this; simp at this; omega)
        obtain ⟨b2, o2, rfl, _, c2⟩ := HB.out (by intro e; have := bvs_length m; rw [e] at this; simp at this; omega)
        have d1 := c1 k _ (bvs_at l k h1)
        have d2 := c2 k _ (bvs_at m k h2)
        clear c1 c2
        unfold bv at d1 d2
        have hst := Lib.hid (common_step l m k h1 h2)
        go_wp2
        go_quiet (fail)
        go_wp2
        · go_roundw
          case rel =>
            have he : l[k] = m[k] := by have h := ‹((l[k].toNat : Int) == (m[k].toNat : Int)) = true›; rw [u8_beq] at h; simpa using h
            exact ⟨k + 1, by omega, by omega, by go_num, ⟨nn + nq, by simp⟩, Lib.hid (by rw [hC.out, hst.out, if_pos he]; omega)⟩
          case measure => simp [intOf]; omega
        · have he : ¬ l[k] = m[k] := by have h := ‹((l[k].toNat : Int) == (m[k].toNat : Int)) = false›; rw [u8_beq] at h; simpa using h
          go_ret
          exact ⟨by rw [hC.out, hst.out, if_neg he]; simp, nn + nq, by simp⟩
      · have hst := Lib.hid (common_end l m k (by omega))
        go_wp2
        go_quiet (fail)
        go_wp2
        go_ret
        exact ⟨by rw [hC.out, hst.out]; simp, nn + nq, by simp⟩
    · have hst := Lib.hid (common_end l m k (by omega))
      go_wp2
      go_quiet (fail)
      go_wp2
      go_ret
      exact ⟨by rw [hC.out, hst.out]; simp, nn + nq, by simp⟩
end Go.Proofs.Ytfpigemikpbbhaa
