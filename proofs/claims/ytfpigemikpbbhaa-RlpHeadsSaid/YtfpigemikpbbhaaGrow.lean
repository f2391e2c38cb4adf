/-
  An append that must grow; '[]byte("..")'.
  Conditions: none.
-/
import Derived.Test.YtfpigemikpbbhaaBase
import Derived.ArgAppend
import Derived.Lib.SlBytesConst
import Derived.OwnWalk
namespace Go.Proofs.Ytfpigemikpbbhaa
open Go.RowKit Mono

theorem own_some {w : World} {base e size n c : Nat} {A : Option Addr} {xs : List Value} (h : w.ownsRow base e size (.slice A n c) n xs) (hn : 0 < n) : ∃ g, A = some ⟨g, 0, none⟩ ∧ base ≤ g ∧ g < w.heap.size := by
  rcases h.2 with ⟨_, h0⟩ | ⟨g, cp, cur, hv, hb, hh, _⟩
  · omega
  · injection hv with hA _ _
    refine ⟨g, hA, hb, ?_⟩
    rcases Nat.lt_or_ge g w.heap.size with h1 | h1
    · exact h1
    · rw [Array.getElem?_eq_none h1] at hh; cases hh
/-- The value may be appended to: it owns its row, or its row is full. -/
def App (w : World) (base e size : Nat) (v : Value) (n : Nat) (xs : List Value) : Prop :=
  w.ownsRow base e size v n xs ∨ ∃ a, v = .slice (some a) n n ∧ xs.length = n * size ∧ Rd w w.heap.size (some a) xs
def AppB (w : World) (base : Nat) (v : Value) (l : List UInt8) : Prop := App w base 5 1 v l.length (bvs l)
theorem App.form {w : World} {base e size n : Nat} {v : Value} {xs : List Value} (h : App w base e size v n xs) (hn : n ≤ maxLen) : ∃ A c, v = .slice A n c ∧ n ≤ c ∧ c ≤ maxLen := by
  rcases h with h | ⟨a, rfl, _, _⟩
  · exact own_form h
  · exact ⟨_, _, rfl, Nat.le_refl _, hn⟩
theorem App.gr {w w' : World} {base e size n : Nat} {v : Value} {xs : List Value} (h : App w base e size v n xs) (hg : Gr w w') : App w' base e size v n xs := by
  rcases h with h | ⟨a, rfl, hl, hr⟩
  · exact .inl (own_gr h hg)
  · exact .inr ⟨a, rfl, hl, hr.gr hg⟩
theorem AppB.isB {w : World} {base : Nat} {v : Value} {l : List UInt8} (h : AppB w base v l) (hn : l.length ≤ maxLen) : IsB w v l := by
  rcases h with h | ⟨a, rfl, _, hr⟩
  · exact OwnB.isB h
  · exact ⟨_, _, rfl, Nat.le_refl _, hn, hr⟩
theorem OwnB.app {w : World} {base : Nat} {v : Value} {l : List UInt8} (h : OwnB w base v l) : AppB w base v l := .inl h

/-- The append law, at a value that may be appended to. -/
theorem wpL_app {P : Program} {w : World} {ops : Array Oper} {rest : List Oper} {o : Oper} {a : Act} {Q : Exit → Act → World → Prop} (s x : Operand) (t : TypeId)
    {base e size bytes : Nat} (T : SlT P t e size bytes) (v : Value) (n : Nat) (xs : List Value) (A : Option Addr) (m c B : Nat) (news : List Value)
    (hgd : o.guard = none) (ho : o.op = .call { callee := .builtin .append, args := #[s, x], argTypes := #[t, t] }) (hs : a.eval s = v) (hx : a.eval x = .slice A m c)
    (hown : App w base e size v n xs) (hm : 0 < m) (hr : Rd w B A news) (hl : news.length = m * size) (h1 : ∀ u ∈ news, u.oneCell' = true)
    (h63 : n + m ≤ maxLen) (hbytes : (n + m) * bytes ≤ 140737488355328) (hbase : base ≤ w.heap.size)
    (h : ∀ A' c' w', w'.ownsRow base e size (.slice A' (n + m) c') (n + m) (xs ++ news) → Below base w w' → wpList P ops Q rest (a.put o.dst (.slice A' (n + m) c')) w') : wpList P ops Q (o :: rest) a w := by
  rcases hown with hown | ⟨a0, rfl, hlo, hr0⟩
  · refine wpL_append s x t T v n xs A m c B news hgd ho hs hx hown hr hl h1 h63 hbytes hbase fun A' c' w' h2 h3 _ => h A' c' w' h2 ?_
    exact (Below.refl base w).grown h3 hbase fun j hj => own_block_ge hown j hj
  · have hne : news ≠ [] := fun e => by
      rw [e] at hl
      have := Nat.mul_pos hm T.pos
      simp at hl
      omega
    obtain ⟨b, o', rfl, hb, hc⟩ := hr hne
    obtain ⟨i, z, hi, hz, hsize, hby, hzs⟩ := T.info
    refine wpList_append_grows w hgd s x t ho e i z size bytes T.und hi hz hsize hby hzs T.pos (some a0) n n xs hs (fun e => by cases e) hlo (fun b' e j u hj => ?_) ⟨b, o', none⟩ m c news hx hl (fun j u hj => by rw [add_none]; exact hc j u hj) h1 (by omega) h63 hbytes fun v' w' h2 h3 => ?_
    · injection e with e
      subst e
      obtain ⟨b2, o2, e2, _, hc2⟩ := hr0 (fun e => by rw [e] at hj; simp at hj)
      injection e2 with e2
      subst e2
      rw [add_none]
      exact hc2 j u hj
    · obtain ⟨A', c', rfl, _, _⟩ := own_form h2
      exact h A' c' w' (own_base h2 hbase) ((Below.refl base w).grown h3 hbase fun j hj => by cases hj)

/-- A row with a mark: '[]byte("..")'. -/
theorem rd_marked (w : World) (cs : Array Value) (e : TypeId) (fr : Nat × Nat) : Rd (w.alloc (.cells cs e fr)) (w.heap.size + 1) (some ⟨w.heap.size, 0, none⟩) cs.toList := fun _ =>
  ⟨w.heap.size, 0, rfl, by omega, fun j u hu => by
    rw [cell_of_row _ _ _ cs e fr (heap_alloc_new w _)]
    simpa using hu⟩
theorem conv_const (w : World) (C : Array Value) (n c : Nat) : (convert 22 22 (.slice (some ⟨w.heap.size, 0, none⟩) n c)).run Try.prog (w.alloc (.cells C 5)) = .ok (.slice (some ⟨w.heap.size, 0, none⟩) n c) (w.alloc (.cells C 5 (C.size, C.size + 1))) :=
  Lib.run_convert_bytes_const w 22 5 C n c Try.underlying22 Try.underlying5
/-- 'make([]byte, n)'. -/
theorem wpL_make_bytes {w : World} {ops : Array Oper} {rest : List Oper} {o : Oper} {a : Act} {Q : Exit → Act → World → Prop} (x : Operand) (base n : Nat)
    (hg : o.guard = none) (ho : o.op = Op.makeSlice 22 x x) (hx : a.eval x = .int .i64 (n : Int)) (hn : n ≤ 140737488355328) (hb : base ≤ w.heap.size)
    (h : ∀ w', OwnB w' base (.slice (some ⟨w.heap.size, 0, none⟩) n n) (List.replicate n 0) → Gr w w' → wpList Try.prog ops Q rest (a.put o.dst (.slice (some ⟨w.heap.size, 0, none⟩) n n)) w') : wpList Try.prog ops Q (o :: rest) a w := by
  have hi : (Try.prog.info? 5).map (fun i => (i.zero, i.size, i.bytes)) = some (some (.int .u8 0), 1, 1) := by kernel_rfl
  obtain ⟨i, hi, hz, h1, h2⟩ := info_parts hi
  refine wpList_make_full w hg x x 22 ho base 5 i (.int .u8 0) 1 Try.underlying22 hi hz h1 .i64 .i64 n n n hx hx rfl rfl (by rw [h2]; omega) (by simp only [maxLen]; omega) hb fun w' hown hgr => h w' (ownB_of hown ?_) ?_
  · rw [Nat.mul_one]
    have := toList_madeCells_one (.int .u8 0) n
    simp only [Value.cells]
    rw [this]
    simp [bvs, bv]
  · exact ⟨hgr.os, hgr.tape, hgr.output, hgr.size, fun k hk => hgr.block k hk (by simp)⟩
end Go.Proofs.Ytfpigemikpbbhaa
