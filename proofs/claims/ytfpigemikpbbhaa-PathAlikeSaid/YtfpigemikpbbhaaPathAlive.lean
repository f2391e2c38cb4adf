/-
  The document's example of a path.
  Conditions: none.
-/
import Derived.Test.YtfpigemikpbbhaaPack
import Derived.Test.YtfpigemikpbbhaaStr
namespace Go.Proofs.Ytfpigemikpbbhaa
open Go.RowKit Mono

set_option maxHeartbeats 400000 in
theorem path_alive (w : World) : Calls Try.prog 17 #[] w (Ret (eqV (.bool true)) w) := by
  have hj : joinL (hdr [1, 2, 3] true ++ [1, 2, 3]) = some [49, 35] := by decide
  have hb : IsB (w.alloc (.cells #[.int .u8 1, .int .u8 2, .int .u8 3] 5)) (.slice (some ⟨w.heap.size, 0, none⟩) 3 3) [1, 2, 3] := isB_new w _ [1, 2, 3] rfl (by simp [maxLen])
  have HP := Lib.hid (path_pack _ _ true _ hb (by simp))
  have HJ := Lib.hid hj
  have he : ((bs [49, 35]).toList == (ByteArray.mk #[49, 35]).toList) = true := by rw [bs_toList, toList_data]; rfl
  clear hb hj
  go_enter Try.func17, Try.ntmps17
  go_wp2_with fail
  refine HP.out.mono ?_
  rintro e w1 ⟨v1, rfl, hg1, v2, rfl, ho2⟩
  rw [HJ.out] at ho2

  have hc := conv_bytes ho2.isB
  simp only [HJ.out, Option.isSome_some, Option.getD_some] at hc ⊢
  go_wp2
  refine bodyPost_ret (results_tmp rfl _ _ _) rfl ?_
  refine ⟨_, rfl, (gr_alloc w _).trans hg1, ?_⟩
  simp [eqV, toList_data]
  rfl
end Go.Proofs.Ytfpigemikpbbhaa
