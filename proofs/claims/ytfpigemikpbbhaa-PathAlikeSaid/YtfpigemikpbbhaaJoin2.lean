/-
  path.fine and path.Join.
  Conditions: at most 2 to the 30th half bytes.
-/
import Derived.Test.YtfpigemikpbbhaaJoin
namespace Go.Proofs.Ytfpigemikpbbhaa
open Go.RowKit Mono

theorem fine_one (x : UInt8) (w : World) : Calls Try.prog 67 #[bv x] w fun e w' => e = .returned (.bool (decide (15 < x.toNat))) ∧ w' = w := by
  unfold bv
  have hlx := bv_lt x
  generalize x.toNat = n at hlx
  go_enter Try.func67, Try.ntmps67
  go_wp2
  go_ret
  simp
  omega

def RetBool (b : Bool) (w : World) (e : Ending) (w' : World) : Prop := e = .returned (.bool b) ∧ ∃ k, w' = w.drewN k
def RetInt (b : Int) (w : World) (e : Ending) (w' : World) : Prop := e = .returned (.int .i64 b) ∧ ∃ k, w' = w.drewN k
/-- The first place of a byte above 15, or -1. -/
def bigAt : List UInt8 → Nat → Int
  | [], _ => -1
  | x :: l, k => if 15 < x.toNat then k else bigAt l (k + 1)
theorem bigAt_lt (l : List UInt8) : ∀ k, (0 ≤ bigAt l k ↔ ∃ x ∈ l, 15 < x.toNat) := by
  induction l with
  | nil => intro k; simp [bigAt]
  | cons x l ih =>
    intro k
    unfold bigAt
    split
    · simp [*]
    · rw [ih]; simp [*]
theorem bigAt_step (l : List UInt8) (k : Nat) (h : k < l.length) : bigAt (l.drop k) k = if 15 < l[k].toNat then (k : Int) else bigAt (l.drop (k + 1)) (k + 1) := by
  rw [List.drop_eq_getElem_cons h, bigAt]

set_option maxHeartbeats 400000 in
theorem index_fine (v1 : Value) (l : List UInt8) (w : World) (h1 : IsB w v1 l) :
    Calls Try.prog 77 #[v1, .func (.func 67) #[] #[]] w (RetInt (bigAt l 0) w) := by
  obtain ⟨A, c, rfl, hl1, hl2, hA⟩ := h1
  unfold maxLen at hl2
  have HA := Lib.hid hA
  clear hA
  go_enter Try.func77, Try.ntmps77
  go_wp2
  go_loopw [8] (fun i wr => ∃ k : Nat, k ≤ l.length ∧ i = .int .i64 k ∧ wr = w ∧ Hid (bigAt l 0 = bigAt (l.drop k) k)) (fun i _ => l.length - (intOf i).toNat)
  case atStart => exact ⟨0, by omega, rfl, rfl, Lib.hid (by simp)⟩
  case round =>
    obtain ⟨k, hk1, rfl, rfl, hC⟩ := hrel
    by_cases h1 : k < l.length
    · obtain ⟨b1, o1, rfl, _, c1⟩ := HA.out (by intro e; have := bvs_length l; rw [e] at this; simp at this; omega)
      have d1 := c1 k _ (bvs_at l k h1)
      clear c1
      have hst := Lib.hid (bigAt_step l k h1)
      by_cases hb : 15 < l[k].toNat
      · have he : decide (15 < l[k].toNat) = true := by simpa using hb
        have hf := fine_one l[k] wr
        rw [he] at hf
        have HB := Lib.hid hb
        clear hb he
        generalize bv l[k] = u at d1 hf
        have HF := Lib.hid hf
        clear hf
        go_wp2_with (go_at_call 67; refine HF.out.mono ?_; rintro e w' ⟨rfl, rfl⟩)
        go_ret
        refine ⟨?_, 0, rfl⟩
        rw [hC.out, hst.out, if_pos HB.out]
        rfl
      · have he : decide (15 < l[k].toNat) = false := by simpa using hb
        have hf := fine_one l[k] wr
        rw [he] at hf
        have HB := Lib.hid hb
        clear hb he
        generalize bv l[k] = u at d1 hf
        have HF := Lib.hid hf
        clear hf
        go_wp2_with (go_at_call 67; refine HF.out.mono ?_; rintro e w' ⟨rfl, rfl⟩)
        go_roundw
        case rel => exact ⟨k + 1, by omega, by go_num, trivial, Lib.hid (by rw [hC.out, hst.out, if_neg HB.out])⟩
        case measure => simp [intOf]; omega
    · have hd := Lib.hid (List.drop_eq_nil_of_le (Nat.le_of_not_lt h1))
      go_wp2
      go_ret
      exact ⟨by rw [hC.out, hd.out]; rfl, 0, rfl⟩

theorem contains_fine (v1 : Value) (l : List UInt8) (w : World) (h1 : IsB w v1 l) :
    Calls Try.prog 66 #[v1, .func (.func 67) #[] #[]] w (RetBool (l.any fun x => decide (15 < x.toNat)) w) := by
  have hc := Lib.hid (index_fine v1 l w h1)
  have hb := Lib.hid (bigAt_lt l 0)
  clear h1
  generalize bigAt l 0 = n at hc hb
  go_enter Try.func66, Try.ntmps66
  go_wp2_with fail
  refine hc.out.mono ?_
  rintro e w' ⟨rfl, k, rfl⟩
  go_wp2
  go_ret
  refine ⟨?_, k, rfl⟩
  show Ending.returned (.bool (decide (0 ≤ n))) = _
  congr 2
  have := hb.out
  rw [Bool.eq_iff_iff]
  simp only [decide_eq_true_eq, List.any_eq_true]
  exact this

theorem path_fine (v1 : Value) (l : List UInt8) (w : World) (h1 : IsB w v1 l) :
    Calls Try.prog 48 #[v1] w (RetBool (!(l.any fun x => decide (15 < x.toNat))) w) := by
  have hc := Lib.hid (contains_fine v1 l w h1)
  clear h1
  generalize (l.any fun x => decide (15 < x.toNat)) = n at hc
  go_enter Try.func48, Try.ntmps48
  go_wp2_with fail
  refine hc.out.mono ?_
  rintro e w' ⟨rfl, k, rfl⟩
  go_wp2
  go_ret
  exact ⟨by simp, k, rfl⟩
end Go.Proofs.Ytfpigemikpbbhaa
