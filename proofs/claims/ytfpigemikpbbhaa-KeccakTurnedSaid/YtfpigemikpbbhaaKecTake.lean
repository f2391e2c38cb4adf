/-
  keccak's take: a byte into a lane.
  Conditions: the place is below 136.
-/
import Derived.Test.YtfpigemikpbbhaaKecMem
namespace Go.Proofs.Ytfpigemikpbbhaa
open Go.RowKit Mono
open Kec (L St rotl)

/-- A byte into the lanes. -/
def takeB (f : St) (k : Nat) (b : Nat) : St := Kec.upd f (k / 8) (f (k / 8) ^^^ (BitVec.ofNat 64 b) <<< (8 * (k % 8)))
theorem u_byte (n : Nat) (h : n < 256) : u (BitVec.ofNat 64 n) = (n : Int) := by
  unfold u
  rw [BitVec.toNat_ofNat]
  omega
/-- A call that gives nothing back. -/
def RetU (R : World → Prop) (e : Ending) (w' : World) : Prop := e = .returned (.tuple #[]) ∧ R w'

set_option maxHeartbeats 400000 in
theorem kec_take (g : Nat) (t : TypeId) (f : St) (k n : Nat) (hk : k < 136) (hn : n < 256) (w : World) (hl : Lanes w g t 25 f) :
    Calls Try.prog 51 #[.pointer (some ⟨g, 0, none⟩), .int .i64 k, .int .u8 n] w (RetU fun w' => Lanes w' g t 25 (takeB f k n) ∧ Only g w w') := by
  have hg := hl.lt
  have c1 := later_cell (w := w) (p := ⟨g, k / 8, none⟩) hg (hl.cell (k / 8) (by omega))
  unfold lv at c1
  have hu := u_range (f (k / 8))
  have hu0 := hu.1
  have HL := Lib.hid hl
  clear hl hu
  go_enter Try.func51, Try.ntmps51
  go_wp2
  refine wp_region_N 15 (by kernel_rfl) (by kernel_rfl) (by kernel_rfl) ?_
  simp only [List.take_succ_cons, List.take_zero, List.drop_succ_cons, List.drop_zero]
  refine wpN_quiet 15 (by kernel_rfl) ?_
  simp only [List.take_succ_cons, List.take_zero, List.drop_succ_cons, List.drop_zero]
  repeat (go_big_quiet_step (fail))
  refine wpQuiet_nil ?_
  refine wpN_nil (by kernel_rfl) ?_
  intro W hW
  replace hW := hW.gr
  unfold finN
  have HW := Lib.hid (HL.out.gr hW)
  have e1 := HW.out.cell (k / 8) (by omega)
  have e2 := HW.out.frozen (k / 8)
  unfold lv at e1
  go_wp2
  refine bodyPost_ret (results_none rfl _ _ _) rfl ⟨rfl, ?_⟩
  have hv : Value.int .u64 (bits .xor .u64 (u (f (k / 8))) (IntKind.u64.wrap ((n : Int) * 2 ^ (8 * (k % 8))))) = lv (f (k / 8) ^^^ (BitVec.ofNat 64 n) <<< (8 * (k % 8))) := by
    rw [← u_byte n hn, u_shl, u_xor]
    rfl
  rw [hv]
  exact ⟨HW.out.set _ _, (Only.of_gr hW g).trans (Only.set _ _ _)⟩
end Go.Proofs.Ytfpigemikpbbhaa
