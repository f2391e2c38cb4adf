/-
  '[]byte(s)' of a string that is no constant.
  Conditions: none.
-/
import Derived.Test.YtfpigemikpbbhaaStr
import Derived.Test.YtfpigemikpbbhaaArr
import Derived.Lib.ConvBytes
namespace Go.Proofs.Ytfpigemikpbbhaa
set_option linter.unusedVariables false
open Go.RowKit Mono

theorem conv_str (w : World) (s : ByteArray) : (convert 9 22 (.string s)).run Try.prog w = .ok (.slice (some ⟨w.heap.size, 0, none⟩) s.size (grownCap w s.size 0 5)) (Lib.bytesWorld w 5 s) :=
  Lib.run_convert_string_bytes w 9 22 5 s Try.underlying9 Try.underlying22 Try.underlying5
theorem gr_bytesWorld (w : World) (s : ByteArray) : Gr w (Lib.bytesWorld w 5 s) := by
  refine ⟨?_, ?_, ?_, by rw [Lib.bytesWorld_size]; omega, fun k hk => Lib.bytesWorld_at_old w _ s k hk⟩ <;> simp [Lib.bytesWorld, World.freeze, World.alloc, World.drew, -World.alloc_eq, -World.drew_eq]
theorem isB_bytesWorld (w : World) (s : ByteArray) (l : List UInt8) (hl : l = s.data.toList) (hs : s.size ≤ maxLen) : IsB (Lib.bytesWorld w 5 s) (.slice (some ⟨w.heap.size, 0, none⟩) s.size (grownCap w s.size 0 5)) l := by
  have hz : s.size = l.length := by rw [hl, Array.length_toList]; rfl
  refine ⟨_, _, by rw [hz], by rw [← hz]; exact grownCap_ge _ _ _ _, grownCap_le_maxLen _ _ _ _ hs, fun _ => ⟨_, 0, rfl, by rw [Lib.bytesWorld_size]; omega, fun j u hu => ?_⟩⟩
  have hj : j < l.length := by
    have := (List.getElem?_eq_some_iff.1 hu).1
    simpa [bvs] using this
  rw [Nat.zero_add, Lib.bytesWorld_cell w _ s j (by omega), ← hu, ← hl]
  simp [bvs, bv, hj]
theorem isB_bytesWorld' (w : World) (s : ByteArray) (l : List UInt8) (n g c : Nat) (hl : l = s.data.toList) (hn : n = l.length) (hs : n ≤ maxLen) (hg : g = w.heap.size) (hc : c = grownCap w n 0 5) : IsB (Lib.bytesWorld w 5 s) (.slice (some ⟨g, 0, none⟩) n c) l := by
  have hz : s.size = n := by rw [hn, hl, Array.length_toList]; rfl
  have := isB_bytesWorld w s l hl (by omega)
  rw [hg, hc]
  rwa [hz] at this
end Go.Proofs.Ytfpigemikpbbhaa
