/-
  Arrays of bytes; slices of slices of bytes; rows.
  Conditions: none.
-/
import Derived.Test.YtfpigemikpbbhaaStr
import Derived.Test.YtfpigemikpbbhaaGrow
import Derived.Laws.Rows
import Derived.Laws.Tables
import Derived.Deep.WholeRow
import Derived.Stop.BytesEq
namespace Go.Proofs.Ytfpigemikpbbhaa
open Go.RowKit Mono

theorem lt_of_some {w : World} {g : Nat} {o : Obj} (h : w.heap[g]? = some o) : g < w.heap.size := by
  rcases Nat.lt_or_ge g w.heap.size with h1 | h1
  · exact h1
  · rw [Array.getElem?_eq_none h1] at h; cases h
theorem bvs_set (l : List UInt8) (k : Nat) (b : UInt8) : (bvs l).set k (bv b) = bvs (l.set k b) := by simp [bvs, List.map_set]
theorem heap_setRow_same (w : World) (g : Nat) (cs cs' : Array Value) (t : TypeId) (hg : w.heap[g]? = some (.cells cs t (0, 0))) : (w.setRow g cs').heap[g]? = some (.cells cs' t (0, 0)) := by
  simp [World.setRow, Array.getElem?_modify, hg]
theorem gr_setRow {w w' : World} (h : Gr w w') (g : Nat) (cs : Array Value) (hg : w.heap.size ≤ g) : Gr w (w'.setRow g cs) :=
  ⟨h.os, h.tape, h.output, by rw [size_setRow]; exact h.size, fun i hi => by
    rw [← h.block i hi]
    simp only [World.setRow]
    rw [Array.getElem?_modify, if_neg (by omega)]⟩
/-- An array of bytes. -/
def arrV (l : List UInt8) : Value := .agg (bvs l).toArray
theorem arr_size (l : List UInt8) (h : l.length = 32) : (bvs l).toArray.size = 32 := by simp [bvs, h]
theorem arr_info (l : List UInt8) (h : l.length = 32) : (Try.prog.info? 36).map (·.size) = some (bvs l).toArray.size := by
  rw [arr_size l h]
  kernel_rfl
theorem arr_one (l : List UInt8) : (bvs l).toArray.all (·.oneCell') = true := by
  rw [List.all_toArray, List.all_eq_true]
  exact fun x hx => bvs_one l x hx
theorem run_eql_word (w : World) (l m : List UInt8) (hl : l.length = 32) (hm : m.length = 32) : (binOp .eql 36 (arrV l) (arrV m)).run Try.prog w = .ok (.bool (l == m)) w :=
  run_eql_bytes w 36 5 32 Try.underlying36 Try.underlying5 (fun w => by kernel_rfl) l m hl hm
theorem run_neq_word (w : World) (l m : List UInt8) (hl : l.length = 32) (hm : m.length = 32) : (binOp .neq 36 (arrV l) (arrV m)).run Try.prog w = .ok (.bool (l != m)) w := by
  have h1 : (binOp .neq 36 (arrV l) (arrV m)).run Try.prog w = ((Op.equalIn 10000 36 (arrV l) (arrV m)).run Try.prog w).andThen fun b w' => .ok (.bool (!b)) w' := by
    simp only [arrV, binOp, Op.equal, Op.maxDepth, Sem.run_bind, Sem.run_pure]
  rw [h1]
  have h2 := run_equalIn_bytes w 9998 36 5 32 Try.underlying36 Try.underlying5 (fun w => by kernel_rfl) l m hl hm
  rw [show (Op.equalIn 10000 36 (arrV l) (arrV m)) = (Op.equalIn (9998 + 2) 36 (.agg (l.map Extern.Stop.cell).toArray) (.agg (m.map Extern.Stop.cell).toArray)) from rfl, h2]
  rfl
theorem guard_eql_word (w : World) (x y : Operand) (l m : List UInt8) : (eqGuard .eql 36 x y (arrV l) (arrV m)).run Try.prog w = .ok () w := by kernel_rfl
theorem guard_neq_word (w : World) (x y : Operand) (l m : List UInt8) : (eqGuard .neq 36 x y (arrV l) (arrV m)).run Try.prog w = .ok () w := by kernel_rfl
/-- An array that lies in a block of its own. -/
def Arr (w : World) (g : Nat) (t : TypeId) (l : List UInt8) : Prop := w.heap[g]? = some (.cells (bvs l).toArray t (0, 0))
theorem Arr.lt {w : World} {g : Nat} {t : TypeId} {l : List UInt8} (h : Arr w g t l) : g < w.heap.size := lt_of_some h
theorem Arr.gr {w w' : World} {g : Nat} {t : TypeId} {l : List UInt8} (h : Arr w g t l) (hg : Gr w w') : Arr w' g t l := (hg.block g h.lt).trans h
theorem growsTo_load_word {w : World} {g : Nat} {t : TypeId} {l : List UInt8} (h : Arr w g t l) (hl : l.length = 32) {o : Oper} {a : Act} {x : Operand} (ho : o.op = .load 36 x) (hx : a.eval x = .pointer (some ⟨g, 0, none⟩)) :
    growsTo Try.prog (eqV (arrV l)) w ((execOp a.eval o).run Try.prog w) := by
  have hr := run_loadVar_row w g t 36 (bvs l).toArray (0, 0) _ h Try.underlying36 rfl (arr_info l hl)
  unfold execOp
  simp only [ho, hx, Instr.loadAt, Instr.sureAddr, Sem.run_bind, Sem.run_pure, Result.andThen_ok, hr]
  exact ⟨Gr.refl w, rfl⟩
/-- A call whose one operand is a slot. -/
theorem growsTo_call1 {V : VP} {w : World} {o : Oper} {b : Act} {f : FuncId} {t : Tmp} {ty : TypeId} (ho : o.op = .call { callee := .value (.func f), args := #[.tmp t], argTypes := #[ty] })
    (hf : ∀ args w, (callFunc f args).run Try.prog w = .ok (.enter f args) w)
    (hc : Calls Try.prog f #[b.tmps.getD t undef] w fun e w' => ∃ v, e = .returned v ∧ Gr w w' ∧ V v w') : growsTo Try.prog V w ((execOp b.eval o).run Try.prog w) := by
  refine growsTo_call (f := f) (args := #[b.tmps.getD t undef]) ?_ hc
  unfold execOp
  rw [ho]
  simp [go_sem, Act.eval, hf]
/-- A value reads as a slice of slices of bytes. -/
def IsBB (w : World) (v : Value) (ms : List (List UInt8)) : Prop :=
  ∃ (A : Option Addr) (c : Nat) (vals : List Value), v = .slice A ms.length c ∧ ms.length ≤ c ∧ c ≤ maxLen ∧ vals.length = ms.length ∧ Rd w w.heap.size A vals ∧ ∀ (i : Nat) (x : Value) (m : List UInt8), vals[i]? = some x → ms[i]? = some m → IsB w x m
theorem IsBB.nil (w : World) : IsBB w (.slice none 0 0) [] := ⟨none, 0, [], rfl, Nat.le_refl _, by simp [maxLen], rfl, Rd.nil, fun i x m h => by simp at h⟩
theorem IsBB.gr {w w' : World} {v : Value} {ms : List (List UInt8)} (h : IsBB w v ms) (hg : Gr w w') : IsBB w' v ms := by
  obtain ⟨A, c, vals, rfl, h1, h2, h3, h4, h5⟩ := h
  exact ⟨A, c, vals, rfl, h1, h2, h3, h4.gr hg, fun i x m a b => (h5 i x m a b).gr hg⟩

theorem IsBB.at {w : World} {B : Nat} {A : Option Addr} {vals : List Value} {ms : List (List UInt8)} (hlen : vals.length = ms.length) (hrd : Rd w B A vals) (hel : ∀ (i : Nat) (x : Value) (m : List UInt8), vals[i]? = some x → ms[i]? = some m → IsB w x m) (k : Nat) (hk : k < ms.length) :
    ∃ b o x, A = some ⟨b, o, none⟩ ∧ b < B ∧ w.cell? ⟨b, o + k, none⟩ = some x ∧ IsB w x ms[k] := by
  have hk' : k < vals.length := by omega
  obtain ⟨b, o, e, hb, hc⟩ := hrd (fun e => by rw [e] at hk'; simp at hk')
  exact ⟨b, o, vals[k], e, hb, hc k _ (List.getElem?_eq_getElem hk'), hel k _ _ (List.getElem?_eq_getElem hk') (List.getElem?_eq_getElem hk)⟩
theorem isB_at {w : World} {B : Nat} {A : Option Addr} {m : List UInt8} (h : Rd w B A (bvs m)) (k : Nat) (hk : k < m.length) : ∃ b o, A = some ⟨b, o, none⟩ ∧ b < B ∧ w.cell? ⟨b, o + k, none⟩ = some (.int .u8 (m[k].toNat : Int)) := by
  obtain ⟨b, o, e, hb, hc⟩ := h (fun e => by have := congrArg List.length e; rw [bvs_length] at this; simp at this; rw [this] at hk; simp at hk)
  exact ⟨b, o, e, hb, hc k _ (bvs_at m k hk)⟩

theorem isB_block {w : World} {g : Nat} {l : List UInt8} {t : TypeId} {fr : Nat × Nat} {cs : Array Value} (h : w.heap[g]? = some (.cells cs t fr)) (hc : cs.toList = bvs l) (hn : l.length ≤ maxLen) : IsB w (.slice (some ⟨g, 0, none⟩) l.length l.length) l := by
  refine ⟨_, _, rfl, Nat.le_refl _, hn, fun _ => ⟨g, 0, rfl, ?_, fun j u hu => ?_⟩⟩
  · rcases Nat.lt_or_ge g w.heap.size with h1 | h1
    · exact h1
    · rw [Array.getElem?_eq_none h1] at h; cases h
  · rw [Nat.zero_add, cell_of_row w g j cs t fr h, ← hu, ← hc]
    simp
theorem isBB_one {w : World} {g : Nat} {l : List UInt8} {v : Value} {t : TypeId} (h : w.heap[g]? = some (.cells #[v] t (0, 0))) (hv : IsB w v l) : IsBB w (.slice (some ⟨g, 0, none⟩) 1 1) [l] := by
  refine ⟨_, 1, [v], rfl, Nat.le_refl _, by simp [maxLen], rfl, fun _ => ⟨g, 0, rfl, ?_, fun j u hu => ?_⟩, fun i x m hx hm => ?_⟩
  · rcases Nat.lt_or_ge g w.heap.size with h1 | h1
    · exact h1
    · rw [Array.getElem?_eq_none h1] at h; cases h
  · rw [Nat.zero_add, cell_of_row w g j _ t (0, 0) h, ← hu]
    simp
  · have hi : i = 0 := by
      have := (List.getElem?_eq_some_iff.1 hx).1
      simpa using this
    subst hi
    simp at hx hm
    rw [← hx, ← hm]
    exact hv
theorem isBB_block {w : World} {g : Nat} {vals : List Value} {ms : List (List UInt8)} {t : TypeId} (h : w.heap[g]? = some (.cells vals.toArray t (0, 0))) (hl : vals.length = ms.length) (hm : ms.length ≤ maxLen)
    (hv : ∀ (i : Nat) (x : Value) (m : List UInt8), vals[i]? = some x → ms[i]? = some m → IsB w x m) : IsBB w (.slice (some ⟨g, 0, none⟩) ms.length ms.length) ms := by
  refine ⟨_, _, vals, rfl, Nat.le_refl _, hm, hl, fun _ => ⟨g, 0, rfl, lt_of_some h, fun j u hu => ?_⟩, hv⟩
  rw [Nat.zero_add, cell_of_row w g j _ t (0, 0) h, ← hu]
  simp
theorem size_new (w : World) (o : Obj) : (w.alloc o).heap.size = w.heap.size + 1 := by simp
theorem heap_at (w : World) (o : Obj) (g : Nat) (h : g = w.heap.size) : (w.alloc o).heap[g]? = some o := by
  subst h
  exact heap_alloc_new w o
theorem heap_old (w : World) (o : Obj) (g : Nat) (h : g < w.heap.size) : (w.alloc o).heap[g]? = w.heap[g]? := Below.heap_alloc w o g h
end Go.Proofs.Ytfpigemikpbbhaa
