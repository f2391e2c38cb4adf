/-
  Merged (wip/tools/merge.py): OpenSh, OpenDiff, JCuts.
  Conditions: none.
-/
import Derived.Test.YtekacgocjplfjaaZP3
import Derived.Test.YtekacgocjplfjaaZP18
import Derived.Test.YtekacgocjplfjaaZP13
import Derived.Test.YtekacgocjplfjaaZP11
import Derived.Test.YtekacgocjplfjaaZP10
/-
  What data that come in read as, by their shape: numbers, bools, arrays of bytes, bytes, slices and structs of these.
  Conditions: none.
-/
namespace Go.Proofs.Ytekacgocjplfjaa
set_option linter.unusedVariables false
set_option maxRecDepth 100000
open Go.RowKit Mono Go.ChangeShapes Go.WideShapes Go.Deep
namespace E
inductive Sh where
  | bool
  | int (k : IntKind)
  | arr (n : Nat)
  | bytes
  | slice (b : Nat) (s : Sh)
  | struct (ss : List Sh)
mutual
def Sh.size : Sh → Nat
  | .arr n => n
  | .struct ss => Sh.sizes ss
  | _ => 1
def Sh.sizes : List Sh → Nat
  | [] => 0
  | s :: ss => s.size + Sh.sizes ss
end
def Sh.agg : Sh → Bool
  | .arr _ => true
  | .struct _ => true
  | _ => false
mutual
/-- A type of the program is of such a shape. -/
def Sh.Is : Sh → TypeId → Prop
  | .bool, t => Try.prog.underlying t = some .bool ∧ Try.prog.cellsOf t = 1
  | .int k, t => Try.prog.underlying t = some (.int k) ∧ Try.prog.cellsOf t = 1
  | .arr n, t => Try.prog.underlying t = some (.array n 5) ∧ Try.prog.cellsOf t = n
  | .bytes, t => Try.prog.underlying t = some (.slice 5) ∧ Try.prog.cellsOf t = 1
  | .slice b s, t => Try.prog.cellsOf t = 1 ∧ ∃ e, Try.prog.underlying t = some (.slice e) ∧ Try.prog.bytesOf e = b ∧ s.Is e
  | .struct ss, t => ∃ fs : Array Field, Try.prog.underlying t = some (.struct fs) ∧ Try.prog.cellsOf t = Sh.sizes ss ∧ Sh.IsF ss 0 fs.toList
def Sh.IsF : List Sh → Nat → List Field → Prop
  | [], _, fs => fs = []
  | s :: ss, o, fs => ∃ f rest, fs = f :: rest ∧ f.offset = o ∧ s.Is f.type ∧ Sh.IsF ss (o + s.size) rest
end
mutual
/-- What cells of such a shape read as, no slice of which takes more than N bytes. -/
def Sh.Of (N : Nat) : Sh → D → Prop
  | .bool, d => ∃ b, d = .v (.bool b)
  | .int k, d => ∃ n, d = .v (.int k n) ∧ (Lit.int k n).wf = true
  | .arr n, d => ∃ l : List UInt8, l.length = n ∧ d = .arr n l
  | .bytes, d => ∃ l : List UInt8, l.length ≤ N ∧ d = .bs l
  | .slice b s, d => ∃ ds : List D, ds.length * b ≤ N ∧ d = .sl s.size ds ∧ ∀ x ∈ ds, s.Of N x
  | .struct ss, d => ∃ ds, d = .tup ds ∧ Sh.OfL N ss ds
def Sh.OfL (N : Nat) : List Sh → List D → Prop
  | [], ds => ds = []
  | s :: ss, ds => ∃ d rest, ds = d :: rest ∧ s.Of N d ∧ Sh.OfL N ss rest
end
theorem Sh.Is.cells : ∀ {s : Sh} {t : TypeId}, s.Is t → Try.prog.cellsOf t = s.size
  | .bool, t, h => by rw [Sh.Is] at h; exact h.2
  | .int k, t, h => by rw [Sh.Is] at h; exact h.2
  | .arr n, t, h => by rw [Sh.Is] at h; exact h.2
  | .bytes, t, h => by rw [Sh.Is] at h; exact h.2
  | .slice b s, t, h => by rw [Sh.Is] at h; exact h.1
  | .struct ss, t, h => by
    rw [Sh.Is] at h
    obtain ⟨fs, _, h2, _⟩ := h
    exact h2
theorem rows_mk {ok : Nat → Prop} {w : World} {z : Nat} {Q : D → Prop} : ∀ {rows : List (List Value)}, (∀ r ∈ rows, r.length = z ∧ ∃ d, Q d ∧ Reads ok w d r) → ∃ ds, ds.length = rows.length ∧ (∀ x ∈ ds, Q x) ∧ ReadsRows ok w z ds rows
  | [], _ => ⟨[], rfl, by simp, by rw [ReadsRows]⟩
  | r :: rows, h => by
    obtain ⟨ds, h1, h2, h3⟩ := rows_mk (rows := rows) fun r hr => h r (by simp [hr])
    obtain ⟨hz, d, hd, hr⟩ := h r (by simp)
    refine ⟨d :: ds, by simp [h1], fun x hx => ?_, by rw [ReadsRows]; exact ⟨r, rows, rfl, hz, hr, h3⟩⟩
    rcases List.mem_cons.1 hx with rfl | hx
    · exact hd
    · exact h2 x hx
section
variable {H : Type} {enc : TypeId × Value → H} {w : World} {spare : Nat → Bool} {held : Bool} {N : Nat}
mutual
theorem sh_trod : ∀ (s : Sh) (t : TypeId) (fuel : Nat) (cs : List Value) (x : DataW H × List MemPlace), s.Is t → DataW.trod enc Try.prog w 0 spare held fuel t cs = some x → (∀ k ∈ x.1.weights Try.prog t, k ≤ N) → ∃ d, s.Of N d ∧ Reads (fun b => b < w.heap.size) w d cs
  | .bool, t, fuel, cs, x, hs, h, hN => by
    rw [Sh.Is] at hs
    obtain ⟨b, rfl, _⟩ := DataW.trod_bool hs.1 h
    exact ⟨.v (.bool b), by rw [Sh.Of]; exact ⟨b, rfl⟩, by rw [Reads]; exact ⟨rfl, rfl⟩⟩
  | .int k, t, fuel, cs, x, hs, h, hN => by
    rw [Sh.Is] at hs
    obtain ⟨n, rfl, _, hw⟩ := DataW.trod_int hs.1 h
    exact ⟨.v (.int k n), by rw [Sh.Of]; exact ⟨n, rfl, hw⟩, by rw [Reads]; exact ⟨rfl, rfl⟩⟩
  | .arr n, t, fuel, cs, x, hs, h, hN => by
    rw [Sh.Is] at hs
    obtain ⟨l, hl, rfl⟩ := arr_of_trod hs.1 hs.2 h
    exact ⟨.arr n l, by rw [Sh.Of]; exact ⟨l, hl, rfl⟩, by rw [Reads]; exact ⟨hl, rfl⟩⟩
  | .bytes, t, fuel, cs, x, hs, h, hN => by
    rw [Sh.Is] at hs
    have hl : ∃ v, cs = [v] := by
      rcases DataW.trod_slice hs.1 h with ⟨hcs, _⟩ | ⟨a, len, cap, elems, rest, f, hfu, hcs, _⟩
      · exact ⟨_, hcs⟩
      · exact ⟨_, hcs⟩
    obtain ⟨v, rfl⟩ := hl
    obtain ⟨A, c, f, rows, rfl, h1, h2, h3, _, _, _, h5, h8⟩ := slice_rowsW hs.1 (by kernel_rfl : Try.prog.cellsOf 5 = 1) h
    obtain ⟨l, h6, h7⟩ := bytes_of_rows fun r hr => by
      obtain ⟨y, hy, _⟩ := h5 r hr
      exact u8_of_trod hy
    rw [h7] at h3
    have hl : l.length ≤ N := by
      rw [h6]
      by_cases hr : rows = []
      · rw [hr]; simp
      · obtain ⟨k, hk, hk2⟩ := h8 hr
        rw [(by kernel_rfl : Try.prog.bytesOf 5 = 1), Nat.mul_one] at hk2
        exact Nat.le_trans hk2 (hN k hk)
    exact ⟨.bs l, by rw [Sh.Of]; exact ⟨l, hl, rfl⟩, by rw [Reads]; exact ⟨_, rfl, A, c, by rw [h6], by rw [h6]; exact h1, h2, h3⟩⟩
  | .slice b s, t, fuel, cs, x, hs, h, hN => by
    rw [Sh.Is] at hs
    obtain ⟨_, e, hu, hb, he⟩ := hs
    have hl : ∃ v, cs = [v] := by
      rcases DataW.trod_slice hu h with ⟨hcs, _⟩ | ⟨a, len, cap, elems, rest, f, hfu, hcs, _⟩
      · exact ⟨_, hcs⟩
      · exact ⟨_, hcs⟩
    obtain ⟨v, rfl⟩ := hl
    obtain ⟨A, c, f, rows, rfl, h1, h2, h3, h4, h5, _, h6, h8⟩ := slice_rowsW hu he.cells h
    obtain ⟨ds, g1, g2, g3⟩ := rows_mk (ok := fun b => b < w.heap.size) (w := w) (z := s.size) (Q := s.Of N) fun r hr => by
      obtain ⟨y, hy, hk⟩ := h6 r hr
      exact ⟨h4 r hr, sh_trod s e f r y he hy fun k hk' => hN k (hk k hk')⟩
    have hl : ds.length * b ≤ N := by
      rw [g1, ← hb]
      by_cases hr : rows = []
      · rw [hr]; simp
      · obtain ⟨k, hk, hk2⟩ := h8 hr
        exact Nat.le_trans hk2 (hN k hk)
    refine ⟨.sl s.size ds, by rw [Sh.Of]; exact ⟨ds, hl, rfl, g2⟩, ?_⟩
    rw [Reads]
    exact ⟨A, c, rows, by rw [g1], by rw [g1]; exact h1, h2, fun e => by rw [g1, (h5 e).1]; exact ⟨rfl, (h5 e).2⟩, h3, g3⟩
  | .struct ss, t, fuel, cs, x, hs, h, hN => by
    rw [Sh.Is] at hs
    obtain ⟨fs, hu, hc, hf⟩ := hs
    obtain ⟨xs, n, _, hx, hl, hxl, hg⟩ := DataW.trod_struct hu h
    obtain ⟨ds, h1, h2⟩ := sh_trods ss 0 n cs fs.toList hf (by rw [hl, hc, Nat.zero_add]) fun f hm => by
      obtain ⟨i, hi, rfl⟩ := List.getElem_of_mem hm
      have hi' : i < fs.size := by simpa using hi
      have := hg i fs[i] (by rw [Array.getElem?_eq_getElem hi'])
      rw [List.getElem?_eq_getElem (by omega)] at this
      refine ⟨_, this, fun k hk => hN k ?_⟩
      rw [hx]
      simp only [DataW.weights, hu]
      exact DataW.weights_mem_each (j := i) (t := fs[i].type) (d := xs[i].1) (by simp [Array.getElem?_eq_getElem hi']) (by rw [List.getElem?_map, List.getElem?_eq_getElem (by omega)]; rfl) k hk
    exact ⟨.tup ds, by rw [Sh.Of]; exact ⟨ds, rfl, h1⟩, by rw [Reads]; simpa using h2⟩
theorem sh_trods : ∀ (ss : List Sh) (o n : Nat) (cs : List Value) (fs : List Field), Sh.IsF ss o fs → cs.length = o + Sh.sizes ss → (∀ f ∈ fs, ∃ y, DataW.trod enc Try.prog w 0 spare held n f.type ((cs.drop f.offset).take (Try.prog.cellsOf f.type)) = some y ∧ ∀ k ∈ y.1.weights Try.prog f.type, k ≤ N) →
    ∃ ds, Sh.OfL N ss ds ∧ ReadsL (fun b => b < w.heap.size) w ds (cs.drop o)
  | [], o, n, cs, fs, hf, hl, h => ⟨[], by rw [Sh.OfL], by
    rw [ReadsL]
    rw [Sh.sizes] at hl
    exact List.drop_eq_nil_of_le (by omega)⟩
  | s :: ss, o, n, cs, fs, hf, hl, h => by
    rw [Sh.IsF] at hf
    obtain ⟨f, rest, rfl, rfl, hs, hf⟩ := hf
    rw [Sh.sizes] at hl
    obtain ⟨y, hy, hk⟩ := h f (by simp)
    rw [hs.cells] at hy
    obtain ⟨d, h1, h2⟩ := sh_trod s f.type n _ y hs hy hk
    obtain ⟨ds, h3, h4⟩ := sh_trods ss (f.offset + s.size) n cs rest hf (by omega) fun g hg => h g (by simp [hg])
    refine ⟨d :: ds, by rw [Sh.OfL]; exact ⟨d, ds, rfl, h1, h3⟩, ?_⟩
    rw [ReadsL]
    refine ⟨_, _, ?_, h2, h4⟩
    rw [← List.drop_drop, List.take_append_drop]
end
theorem sh_agg {s : Sh} {d : D} (h : s.Of N d) : d.agg = s.agg := by
  cases s <;> rw [Sh.Of] at h
  · obtain ⟨_, rfl⟩ := h
    rfl
  · obtain ⟨_, rfl, _⟩ := h
    rfl
  · obtain ⟨_, _, rfl⟩ := h
    rfl
  · obtain ⟨_, _, rfl⟩ := h
    rfl
  · obtain ⟨_, _, rfl, _⟩ := h
    rfl
  · obtain ⟨_, rfl, _⟩ := h
    rfl
variable {r : Reach} {b0 : Nat} {v : Value} {d : DataW H} {ps : List MemPlace}
theorem sh_value {s : Sh} {t : TypeId} (hs : s.Is t) (hv : Value.okWide Try.prog w r b0 t v) (h : DataW.Trod enc Try.prog w 0 spare held t v d ps) : v = if s.agg then .agg v.cells else v.cells.toList.headD undef := by
  cases s <;> rw [Sh.Is] at hs
  · obtain ⟨b, rfl, _⟩ := open_bool hs.1 hv h
    rfl
  · obtain ⟨n, rfl, _⟩ := open_int hs.1 hv h
    rfl
  · simp only [Value.okWide, hs.1] at hv
    obtain ⟨cs, rfl, _⟩ := hv
    rfl
  · obtain ⟨a, n, c, rfl⟩ := okWide_slice hs.1 hv
    rfl
  · obtain ⟨_, e, hu, _, _⟩ := hs
    obtain ⟨a, n, c, rfl⟩ := okWide_slice hu hv
    rfl
  · obtain ⟨fs, hu, _⟩ := hs
    simp only [Value.okWide, hu] at hv
    obtain ⟨cs, rfl, _⟩ := hv
    rfl
/-- A parameter, by its type's shape. -/
theorem o_sh {s : Sh} {t : TypeId} (hs : s.Is t) (hv : Value.okWide Try.prog w r b0 t v) (h : DataW.Trod enc Try.prog w 0 spare held t v d ps) (hN : ∀ k ∈ d.weights Try.prog t, k ≤ N) : ∃ D, s.Of N D ∧ ReadV (fun b => b < w.heap.size) w D v := by
  have h3 := sh_value hs hv h
  obtain ⟨fuel, hf⟩ := h
  obtain ⟨D, h1, h2⟩ := sh_trod s t fuel _ _ hs hf hN
  refine ⟨D, h1, _, h2, ?_⟩
  unfold form
  rw [sh_agg h1]
  simpa using h3
end
end E
end Go.Proofs.Ytekacgocjplfjaa
/-
  What data that come in read as: api.Diff.
  Conditions: none.
-/
namespace Go.Proofs.Ytekacgocjplfjaa
set_option linter.unusedVariables false
set_option maxRecDepth 100000
open Go.RowKit Mono Go.ChangeShapes Go.WideShapes Go.Deep Jn
namespace E
def shSl : Sh := .struct [.arr 32, .arr 32]
def shCh : Sh := .struct [.arr 20, .bool, .int .i64, .arr 32, .bytes, .slice 64 shSl]
def shDf : Sh := .struct [.arr 32, .arr 32, .slice 112 shCh]
theorem is_slot : shSl.Is 48 := by
  unfold shSl
  rw [Sh.Is]
  refine ⟨_, Try.underlying48, by kernel_rfl, ?_⟩
  simp only [Sh.IsF, Sh.Is]
  exact ⟨_, _, rfl, rfl, ⟨Try.underlying23, by kernel_rfl⟩, _, _, rfl, rfl, ⟨Try.underlying23, by kernel_rfl⟩, rfl⟩
theorem is_change : shCh.Is 51 := by
  unfold shCh
  rw [Sh.Is]
  refine ⟨_, Try.underlying51, by kernel_rfl, ?_⟩
  simp only [Sh.IsF, Sh.Is]
  exact ⟨_, _, rfl, rfl, ⟨Try.underlying44, by kernel_rfl⟩, _, _, rfl, rfl, ⟨Try.underlying4, by kernel_rfl⟩, _, _, rfl, rfl, ⟨Try.underlying2, by kernel_rfl⟩, _, _, rfl, rfl, ⟨Try.underlying23, by kernel_rfl⟩, _, _, rfl, rfl, ⟨Try.underlying29, by kernel_rfl⟩, _, _, rfl, rfl, ⟨by kernel_rfl, _, Try.underlying49, by kernel_rfl, is_slot⟩, rfl⟩
theorem is_diff : shDf.Is 26 := by
  unfold shDf
  rw [Sh.Is]
  refine ⟨_, Try.underlying26, by kernel_rfl, ?_⟩
  simp only [Sh.IsF, Sh.Is]
  exact ⟨_, _, rfl, rfl, ⟨Try.underlying23, by kernel_rfl⟩, _, _, rfl, rfl, ⟨Try.underlying23, by kernel_rfl⟩, _, _, rfl, rfl, ⟨by kernel_rfl, _, Try.underlying24, by kernel_rfl, is_change⟩, rfl⟩
theorem map_of {α : Type} {Q : D → Prop} {P : α → Prop} {f : α → D} (h : ∀ d, Q d → ∃ a, P a ∧ d = f a) : ∀ {ds : List D}, (∀ x ∈ ds, Q x) → ∃ rs : List α, (∀ a ∈ rs, P a) ∧ ds = rs.map f
  | [], _ => ⟨[], by simp, rfl⟩
  | d :: ds, hd => by
    obtain ⟨a, h1, rfl⟩ := h d (hd d (by simp))
    obtain ⟨rs, h2, rfl⟩ := map_of h fun x hx => hd x (List.mem_cons_of_mem _ hx)
    refine ⟨a :: rs, fun b hb => ?_, rfl⟩
    rcases List.mem_cons.1 hb with rfl | hb
    · exact h1
    · exact h2 b hb
def _root_.Go.Proofs.Ytekacgocjplfjaa.Jn.Ch.most (N : Nat) (c : Ch) : Prop := c.code.length ≤ N ∧ c.slots.length * 64 ≤ N
def _root_.Go.Proofs.Ytekacgocjplfjaa.Jn.Df.most (N : Nat) (d : Df) : Prop := d.chs.length * 112 ≤ N ∧ ∀ c ∈ d.chs, c.most N
variable {N : Nat}
theorem of_slot {d : D} (h : shSl.Of N d) : ∃ s : Sl, s.ok ∧ d = dSl s := by
  unfold shSl at h
  simp only [Sh.Of, Sh.OfL] at h
  obtain ⟨_, rfl, _, _, rfl, ⟨k, h1, rfl⟩, _, _, rfl, ⟨v, h2, rfl⟩, rfl⟩ := h
  exact ⟨⟨k, v⟩, ⟨h1, h2⟩, rfl⟩
theorem of_change {d : D} (h : shCh.Of N d) : ∃ c : Ch, (c.ok ∧ c.most N) ∧ d = dCh c := by
  unfold shCh at h
  simp only [Sh.Of, Sh.OfL] at h
  obtain ⟨_, rfl, _, _, rfl, ⟨a, h1, rfl⟩, _, _, rfl, ⟨g, rfl⟩, _, _, rfl, ⟨n, rfl, hn⟩, _, _, rfl, ⟨b, h2, rfl⟩, _, _, rfl, ⟨c, hc, rfl⟩, _, _, rfl, ⟨ss, hl, rfl, hs⟩, rfl⟩ := h
  obtain ⟨ss, h3, rfl⟩ := map_of (fun _ => of_slot) hs
  have hb := bounds_i64 hn
  rw [List.length_map] at hl
  exact ⟨⟨a, g, n, b, c, ss⟩, ⟨⟨h1, h2, hb.1, hb.2, h3⟩, hc, hl⟩, rfl⟩
theorem of_diff {d : D} (h : shDf.Of N d) : ∃ x : Df, (x.ok ∧ x.most N) ∧ d = dDf x := by
  unfold shDf at h
  simp only [Sh.Of, Sh.OfL] at h
  obtain ⟨_, rfl, _, _, rfl, ⟨a, h1, rfl⟩, _, _, rfl, ⟨b, h2, rfl⟩, _, _, rfl, ⟨cs, hl, rfl, hs⟩, rfl⟩ := h
  obtain ⟨cs, h3, rfl⟩ := map_of (fun _ => of_change) hs
  rw [List.length_map] at hl
  exact ⟨⟨a, b, cs⟩, ⟨⟨h1, h2, fun c hc => (h3 c hc).1⟩, hl, fun c hc => (h3 c hc).2⟩, rfl⟩
end E
def o_diffN_says (w : World) (v : Value) : Prop := ∃ d : Df, d.ok ∧ d.most reachBytes ∧ E.ReadV (fun b => b < w.heap.size) w (E.dDf d) v
section
variable {H : Type} {enc : TypeId × Value → H} {w : World} {spare : Nat → Bool} {held : Bool} {r : Reach} {b0 : Nat} {v : Value} {d : DataW H} {ps : List MemPlace}
theorem o_diffN (hv : Value.okWide Try.prog w r b0 26 v) (h : DataW.Trod enc Try.prog w 0 spare held 26 v d ps) (hN : ∀ k ∈ d.weights Try.prog 26, k ≤ reachBytes) : o_diffN_says w v := by
  obtain ⟨D, h1, h2⟩ := E.o_sh E.is_diff hv h hN
  obtain ⟨x, ⟨h3, h4⟩, rfl⟩ := E.of_diff h1
  exact ⟨x, h3, h4, h2⟩
end
end Go.Proofs.Ytekacgocjplfjaa
/-
  What stands ahead of an item's last byte, or goes on behind it, is no item: plain.
  Conditions: none.
-/
namespace Go.Proofs.Ytekacgocjplfjaa
set_option linter.unusedVariables false
open Go.RowKit Mono Rlp Jn
/-! ### The beginning of an item's bytes, and an item's bytes with more behind -/
theorem hdr_whole {n h m base : Nat} {p t : List UInt8} (hb : base = 128 ∨ base = 192) (hn : n ≤ t.length) (hm : n ≤ most) (hl : p.length < (head n base).length + n) (hp : p = (head n base ++ t).take p.length) (h0 : p ≠ []) (h1 : base ≤ (p.getD 0 0).toNat) (h2 : (p.getD 0 0).toNat < base + 64) :
    hdr p base ≠ some (h, m) := fun hh => by
  obtain ⟨g1, g2, g3, g4⟩ := hdr_spec hh h0 h1 (by omega) h2
  have g5 : (head n base ++ t).take h = head m base := by
    rw [hp, List.take_take, Nat.min_eq_left (by omega)] at g1
    exact g1
  have g6 : p.length ≤ (head n base ++ t).length := by
    have := congrArg List.length hp
    rw [List.length_take] at this
    omega
  have g7 : (head m base).length = h := by rw [← g5, List.length_take]; omega
  have hmm : m ≤ most := by
    rw [List.length_append] at g6
    have := head_length n base
    unfold hdr at hh
    split at hh
    · split at hh
      · cases hh
        have := h2
        simp only [most]
        omega
      · cases hh
    · split at hh
      · cases hh
      · split at hh
        · cases hh
        · split at hh
          · cases hh
            omega
          · cases hh
  have e1 := hdr_head m base ((head n base ++ t).drop h) hb (by rw [List.length_drop]; omega) hmm
  rw [← g5, List.take_append_drop, hdr_head n base t hb hn hm] at e1
  simp only [Option.some.injEq, Prod.mk.injEq] at e1
  rw [List.length_take] at e1
  omega
theorem readR_short {r : Raw} {b : List UInt8} (hr : ∃ xs bs, r = .mk true bs xs) (hb : packed r = some b) {k : Nat} (hk : k < b.length) : readR (b.take k) = .error 4 := by
  obtain ⟨xs, bs, rfl⟩ := hr
  obtain ⟨rfl, hl⟩ := packed_le hb
  rw [E] at hk hl ⊢
  rw [List.length_append] at hk hl
  unfold readR
  rw [if_neg (by rw [List.length_take]; omega)]
  have hm : (EL xs).length ≤ most := by omega
  generalize hn : (EL xs).length = n at *
  have hk' : (((head n 192 ++ EL xs).take k)).length = k := by rw [List.length_take, List.length_append]; omega
  have hh := fun h m => hdr_whole (h := h) (m := m) (n := n) (base := 192) (p := (head n 192 ++ EL xs).take k) (t := EL xs) (.inr rfl) (by omega) (by omega) (by rw [hk']; omega) (by rw [hk'])
  have hp : parse 32 ((head n 192 ++ EL xs).take k) = .error 4 := by
    obtain ⟨c, t, hc, c1, c2⟩ : ∃ c t, head n 192 = c :: t ∧ 192 ≤ c.toNat ∧ c.toNat < 256 := by
      unfold head
      split
      · exact ⟨_, _, rfl, by rw [UInt8.toNat_ofNat']; omega, UInt8.toNat_lt _⟩
      · refine ⟨_, _, rfl, ?_, UInt8.toNat_lt _⟩
        have := be_length 4 n (by simp only [most] at hm; omega)
        rw [UInt8.toNat_ofNat']
        omega
    cases k with
    | zero => rfl
    | succ k =>
      rw [hc, List.cons_append, List.take_succ_cons] at hh ⊢
      have h3 : hdr (c :: List.take k (t ++ EL xs)) 192 = none := by
        cases hq : hdr (c :: List.take k (t ++ EL xs)) 192 with
        | none => rfl
        | some q => exact absurd hq (hh q.1 q.2 (by simp) (by simpa using c1) (by simpa using c2))
      rw [parse, stepP_cons, if_neg (by rw [UInt8.lt_iff_toNat_lt]; simp; omega), if_neg (by rw [UInt8.lt_iff_toNat_lt]; simp; omega)]
      dsimp only
      rw [h3]
  rw [hp]
theorem readR_more {r : Raw} {b m : List UInt8} (hb : packed r = some b) (hm : m ≠ []) (hl : (b ++ m).length ≤ most) : readR (b ++ m) = .error 4 := by
  have hb' := hb
  obtain ⟨rfl, h1⟩ := packed_le hb
  unfold packed at hb'
  split at hb'
  · rename_i n hn
    unfold readR
    rw [if_neg (by omega), parse_of r 0 32 n m rfl hn h1]
    dsimp only
    rw [if_neg]
    rw [List.length_append]
    have := List.length_pos_iff.2 hm
    omega
  · cases hb'
theorem packD_ok {d : Df} {b : List UInt8} (h : Jn.packD d = .ok b) : packed (dfI d) = some b := by
  unfold Jn.packD at h
  split at h
  · split at h
    · rename_i hp
      cases h
      exact hp
    · cases h
  · cases h
end Go.Proofs.Ytekacgocjplfjaa
