/-
  The document's examples of a hash.
  Conditions: none.
-/
import Derived.Test.YtfpigemikpbbhaaKecHash
import Derived.Test.YtfpigemikpbbhaaKecSum
import Derived.Test.YtfpigemikpbbhaaKecText
namespace Go.Proofs.Ytfpigemikpbbhaa
open Go.RowKit Mono

theorem bs_beq_true (l : List UInt8) (b : ByteArray) (h : l = b.data.toList) : ((bs l).toList == b.toList) = true := by rw [bs_toList, toList_data, ← h]; simp

set_option maxRecDepth 20000 in
set_option maxHeartbeats 400000 in
theorem kec_alive (w : World) : Calls Try.prog 28 #[] w (Ret (eqV (.bool true)) w) := by
  have hA := Kec.a_hash
  have hB := Kec.b_hash
  have lA : Kec.aHash.length = 32 := rfl
  have lB : Kec.bHash.length = 32 := rfl
  go_enter Try.func28, Try.ntmps28
  go_wp2_with fail
  refine (sum_all _ [] _ (IsBB.nil _)).mono ?_
  rintro e w1 ⟨_, rfl, hg1, rfl⟩
  rw [show hash ([] : List (List UInt8)).flatten = Kec.aHash from hA]
  have kc := fun (C : Array Value) (n c : Nat) => conv_const (w1.alloc (.cells (bvs Kec.aHash).toArray 36)) C n c
  simp only [alloc_len] at kc
  go_wp2_with (refine wpList_store_row rfl 36 (.tmp 1) (.tmp 3) rfl w1.heap.size (bvs Kec.aHash).toArray rfl rfl 36 _ (heap_alloc_new w1 _) (arr_info _ lA) (by rw [arr_size _ lA]; rfl) (arr_one _) ?_; rw [World.setRow_alloc_new])
  clear kc
  have hx := isBB_one (w := ((w1.alloc (.cells (bvs Kec.aHash).toArray 36)).alloc (.cells #[.int .u8 97, .int .u8 98, .int .u8 99] 5 (3, 4))).alloc (.cells #[.slice (some ⟨w1.heap.size + 1, 0, none⟩) 3 3] 22)) (g := w1.heap.size + 1 + 1) (l := [97, 98, 99])
    (heap_at _ _ _ (by simp)) (isB_block (g := w1.heap.size + 1) (t := 5) (fr := (3, 4)) (cs := #[.int .u8 97, .int .u8 98, .int .u8 99]) (l := [97, 98, 99]) ((heap_old _ _ _ (by simp)).trans (heap_at _ _ _ (by simp))) rfl (by simp [maxLen]))
  refine (sum_all _ _ _ hx).mono ?_
  rintro e w3 ⟨_, rfl, hg3, rfl⟩
  rw [show hash ([[97, 98, 99]] : List (List UInt8)).flatten = Kec.bHash from hB]
  have hr1 : w3.heap[w1.heap.size]? = some (.cells (bvs Kec.aHash).toArray 36 (0, 0)) := by
    rw [hg3.block _ (by simp; omega)]
    exact (heap_old _ _ _ (by simp; omega)).trans ((heap_old _ _ _ (by simp)).trans (heap_at _ _ _ rfl))
  have HG3 := Lib.hid (((hg1.trans (gr_alloc _ _)).trans (gr_alloc _ _)).trans (gr_alloc _ _) |>.trans hg3)
  have HR1 := Lib.hid hr1
  have hs3 := (Array.getElem?_eq_some_iff.1 hr1).1
  clear hx hg1 hg3 hr1
  go_wp2_with (refine wpList_store_row rfl 36 (.tmp 2) (.tmp 7) rfl w3.heap.size (bvs Kec.bHash).toArray rfl rfl 36 _ (heap_alloc_new w3 _) (arr_info _ lB) (by rw [arr_size _ lB]; rfl) (arr_one _) ?_; rw [World.setRow_alloc_new])
  have h1 := isB_block (w := w3.alloc (.cells (bvs Kec.bHash).toArray 36)) (g := w1.heap.size) (l := Kec.aHash) (Below.heap_alloc w3 _ _ hs3 |>.trans HR1.out) rfl (by rw [lA]; simp [maxLen])
  rw [lA] at h1
  refine (ref_text _ _ _ h1 (by rw [lA]; omega)).mono ?_
  rintro e w4 ⟨_, rfl, hg4, rfl⟩
  have h2 := isB_block (w := w4) (g := w3.heap.size) (l := Kec.bHash) ((hg4.block _ (by simp)).trans (heap_alloc_new w3 _)) rfl (by rw [lB]; simp [maxLen])
  rw [lB] at h2
  have HG4 := Lib.hid ((HG3.out.trans (gr_alloc w3 _)).trans hg4)
  have HH2 := Lib.hid h2
  clear h1 h2 hg4 HG3
  go_wp2_with fail
  · refine (ref_text _ _ _ HH2.out (by rw [lB]; omega)).mono ?_
    rintro e w5 ⟨_, rfl, hg5, rfl⟩
    have HG5 := Lib.hid (HG4.out.trans hg5)
    clear HG4 hg5
    go_wp2_with fail
    refine bodyPost_ret (results_tmp rfl _ _ _) rfl ⟨_, rfl, HG5.out, ?_⟩
    refine congrArg Value.bool ?_
    rw [bs_toList]
    decide
  · rename_i h
    exact absurd (by rw [bs_toList]; decide) h
end Go.Proofs.Ytfpigemikpbbhaa
