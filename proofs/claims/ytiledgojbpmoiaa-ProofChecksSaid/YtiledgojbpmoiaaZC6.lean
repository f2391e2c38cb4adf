/-
 Merged (wip/tools/merge.py): NumPlain, E8, ETy, E9.
 Conditions: none.
-/
import Derived.Test.YtiledgojbpmoiaaZC2
import Derived.Test.YtiledgojbpmoiaaZC5
/-
 Numbers and words as items (plain): zeros ahead, a word's bytes, what an item's number is.
 Conditions: none. No program is named here.
-/
namespace Go.Proofs.Ytiledgojbpmoiaa
set_option linter.unusedVariables false
namespace Rlp
def strip : List UInt8 → List UInt8
 | [] => []
 | b :: l => if b = 0 then strip l else b :: l
def numB : Raw → Option (List UInt8)
 | .mk false bs _ => if bs.head? = some 0 then none else some bs
 | .mk true _ _ => none
def pad (bs : List UInt8) : List UInt8 := List.replicate (32 - bs.length) 0 ++ bs
def zero32 : List UInt8 := List.replicate 32 0
def wordR (x : Raw) : Option (List UInt8) := (numB x).bind fun bs => if bs.length ≤ 32 then some (pad bs) else none
def intR (x : Raw) : Option Nat := (numB x).bind fun bs => if bs.length ≤ 8 ∧ val bs ≤ 9223372036854775807 then some (val bs) else none
end Rlp
end Go.Proofs.Ytiledgojbpmoiaa
/-
 The abstract machine: tables of types; nil slices; calls whose arguments read otherwise.
 Conditions: none.
-/
namespace Go.Proofs.Ytiledgojbpmoiaa
set_option linter.unusedVariables false
open Go.RowKit Mono Rlp
namespace E
def assoc {α : Type} : List (Nat × α) → Nat → Option α
 | [], _ => none
 | (k, x) :: l, n => if k = n then some x else assoc l n
theorem assoc_mem {α : Type} : ∀ (l : List (Nat × α)) (n : Nat) (x : α), assoc l n = some x → (n, x) ∈ l
 | [], n, x, h => by simp [assoc] at h
 | (k, y) :: l, n, x, h => by
  rw [assoc] at h
  split at h
  ·
   rename_i e
   cases h
   subst e
   simp
  · exact List.mem_cons_of_mem _ (assoc_mem l n x h)
def slB (P : Program) (T : Nat) : Option (Nat × Nat × Nat × Nat) :=
 match P.underlying T with
 | some (.slice e) => match P.info? e with
  | some i => match i.zero with
   | some z => some (e, i.size, i.bytes, z.cells.size)
   | none => none
  | none => none
 | _ => none
def arB (P : Program) (T : Nat) : Option (Nat × Nat × Nat) :=
 match P.underlying T with
 | some (.array n e) => match P.info? e with
  | some i => some (n, e, i.size)
  | none => none
 | _ => none
def stB (P : Program) (T : Nat) : Option (List (Nat × Nat × Bool)) :=
 match P.underlying T with
 | some (.struct fs) => fs.toList.mapM fun f => match P.info? f.type, P.underlying f.type with
  | some i, some d => some (f.offset, i.size, d.isRow)
  | _, _ => none
 | _ => none
theorem sl_of {T e z y y' : Nat} (h : slB Try.prog T = some (e, z, y, y')) : SlTy T e z := by
 unfold slB at h
 split at h
 ·
  rename_i e' hu
  split at h
  ·
   rename_i i hi
   split at h
   ·
    cases h
    exact ⟨hu, by rw [hi]; rfl⟩
   · cases h
  · cases h
 · cases h
theorem slT_of {T e z y : Nat} (h : slB Try.prog T = some (e, z, y, z)) (h0 : 0 < z) : SlT Try.prog T e z y := by
 unfold slB at h
 split at h
 ·
  rename_i e' hu
  split at h
  ·
   rename_i i hi
   split at h
   ·
    rename_i zv hz
    simp only [Option.some.injEq, Prod.mk.injEq] at h
    obtain ⟨h1, h2, h3, h4⟩ := h
    subst h1
    exact ⟨hu, ⟨i, zv, hi, hz, h2, h3, h4⟩, h0⟩
   · cases h
  · cases h
 · cases h
theorem ar_of {T n e z : Nat} (h : arB Try.prog T = some (n, e, z)) : ArTy T n e z := by
 unfold arB at h
 split at h
 ·
  rename_i n' e' hu
  split at h
  ·
   rename_i i hi
   cases h
   exact ⟨hu, by rw [hi]; rfl⟩
  · cases h
 · cases h
theorem mapM_get {α β : Type} {f : α → Option β} : ∀ (l : List α) (r : List β) (k : Nat) (y : β), l.mapM f = some r → r[k]? = some y → ∃ x, l[k]? = some x ∧ f x = some y
 | [], r, k, y, h, hk => by
  simp at h
  subst h
  simp at hk
 | a :: l, r, k, y, h, hk => by
  rw [List.mapM_cons] at h
  cases ha : f a with
  | none => rw [ha] at h; cases h
  | some b =>
   rw [ha] at h
   cases hl : l.mapM f with
   | none => rw [hl] at h; cases h
   | some bs =>
    rw [hl] at h
    cases h
    cases k with
    | zero => cases hk; exact ⟨a, rfl, ha⟩
    | succ k => exact mapM_get l bs k y hl (by simpa using hk)
theorem mapM_map {α β γ : Type} {f : α → Option β} {g : α → Option γ} {p : β → γ} (hfg : ∀ a b, f a = some b → g a = some (p b)) : ∀ (l : List α) (r : List β), l.mapM f = some r → l.mapM g = some (r.map p)
 | [], r, h => by
  simp at h
  subst h
  simp
 | a :: l, r, h => by
  rw [List.mapM_cons] at h ⊢
  cases ha : f a with
  | none => rw [ha] at h; cases h
  | some b =>
   rw [ha] at h
   cases hl : l.mapM f with
   | none => rw [hl] at h; cases h
   | some bs =>
    rw [hl] at h
    cases h
    rw [hfg a b ha, mapM_map hfg l bs hl]
    rfl
theorem st_fld {T k off sz : Nat} {ag : Bool} {l : List (Nat × Nat × Bool)} (h : stB Try.prog T = some l) (hk : l[k]? = some (off, sz, ag)) (h0 : 0 < sz) : Fld Try.prog T k off sz ag := by
 unfold stB at h
 split at h
 ·
  rename_i fs hu
  obtain ⟨f, h1, h2⟩ := mapM_get _ _ _ _ h hk
  split at h2
  ·
   rename_i i d hi hd
   cases h2
   exact ⟨⟨fs, f, d, hu, by simpa using h1, rfl, by rw [hi]; rfl, hd, rfl⟩, h0⟩
  · cases h2
 · cases h
theorem st_of {T : Nat} {l : List (Nat × Nat × Bool)} (h : stB Try.prog T = some l) : StTy T (l.map fun x => (x.1, x.2.1)) := by
 unfold stB at h
 split at h
 ·
  rename_i fs hu
  refine ⟨fs, hu, mapM_map (fun f b hb => ?_) _ _ h⟩
  split at hb
  ·
   rename_i i d hi hd
   cases hb
   rw [hi]
   rfl
  · cases hb
 · cases h
mutual
def cellsD : D → List Value
 | .v x => [x]
 | .arr _ l => bvs l
 | .tup ds => cellsDs ds
 | _ => []
def cellsDs : List D → List Value
 | [] => []
 | d :: ds => cellsD d ++ cellsDs ds
end
mutual
def closedD : D → Bool
 | .v x => x.oneCell'
 | .arr n l => l.length == n
 | .tup ds => closedDs ds
 | _ => false
def closedDs : List D → Bool
 | [] => true
 | d :: ds => closedD d && closedDs ds
end
mutual
theorem closed_reads {ok : Nat → Prop} {w : World} : ∀ d : D, closedD d = true → Reads ok w d (cellsD d)
 | .v x, h => by rw [Reads]; exact ⟨h, rfl⟩
 | .arr n l, h => by rw [Reads]; exact ⟨by simpa [closedD] using h, rfl⟩
 | .tup ds, h => by rw [Reads]; exact closed_readsL ds h
 | .bs l, h => by cases h
 | .sl z ds, h => by cases h
 | .pd d, h => by cases h
 | .ifc t d, h => by cases h
theorem closed_readsL {ok : Nat → Prop} {w : World} : ∀ ds : List D, closedDs ds = true → ReadsL ok w ds (cellsDs ds)
 | [], h => by rw [ReadsL]; rfl
 | d :: ds, h => by
  simp only [closedDs, Bool.and_eq_true] at h
  rw [ReadsL]
  exact ⟨_, _, rfl, closed_reads d h.1, closed_readsL ds h.2⟩
end
theorem zero_of {T : Nat} {d : D} (h : ((Try.prog.info? T).bind (·.zero)).map (·.cells.toList) = some (cellsD d)) (hc : closedD d = true) : Zero T d := by
 cases hz : (Try.prog.info? T).bind (·.zero) with
 | none => rw [hz] at h; cases h
 | some z =>
  rw [hz] at h
  have h1 : z.cells.toList = cellsD d := by simpa using h
  exact ⟨z, hz, fun ok w => by rw [h1]; exact closed_reads d hc⟩
def AllZ : List (Nat × D) → Prop
 | [] => True
 | (T, d) :: l => Zero T d ∧ AllZ l
theorem AllZ.get : ∀ (l : List (Nat × D)) (T : Nat) (d : D), AllZ l → assoc l T = some d → Zero T d
 | [], T, d, _, h => by simp [assoc] at h
 | (k, e) :: l, T, d, h, hk => by
  rw [assoc] at hk
  split at hk
  ·
   rename_i e
   cases hk
   subst e
   exact h.1
  · exact AllZ.get l T d h.2 hk
/-! ### Maps, pointers, zero values as values -/
def cnB (P : Program) (T : Nat) : Bool :=
 match P.underlying T with
 | some (.interface _) => false
 | some _ => true
 | none => false
structure ZeroV (T : Nat) (d : D) : Prop where
 get : ∃ z, (∀ w, (zeroValue T).run Try.prog w = .ok z w) ∧ ∀ ok w, ReadV ok w d z
theorem zv_of {T : Nat} {d : D} (h : (Try.prog.info? T).bind (·.zero) = some (form d (cellsD d))) (hc : closedD d = true) : ZeroV T d := by
 refine ⟨form d (cellsD d), fun w => ?_, fun ok w => ⟨_, closed_reads d hc, rfl⟩⟩
 cases hi : Try.prog.info? T with
 | none => rw [hi] at h; cases h
 | some i =>
  rw [hi] at h
  have hz : i.zero = some (form d (cellsD d)) := by simpa using h
  simp [zeroValue, typeInfo, hi, hz]
def AllZV : List (Nat × D) → Prop
 | [] => True
 | (T, d) :: l => ZeroV T d ∧ AllZV l
theorem AllZV.get : ∀ (l : List (Nat × D)) (T : Nat) (d : D), AllZV l → assoc l T = some d → ZeroV T d
 | [], T, d, _, h => by simp [assoc] at h
 | (k, e) :: l, T, d, h, hk => by
  rw [assoc] at hk
  split at hk
  ·
   rename_i e
   cases hk
   subst e
   exact h.1
  · exact AllZV.get l T d h.2 hk
end E
end Go.Proofs.Ytiledgojbpmoiaa
/-
 The program's types, as tables: sizes, elements, fields, zero values. (Printed by wip/tools/ety.py; each row is held against the program.)
 Conditions: none.
-/
namespace Go.Proofs.Ytiledgojbpmoiaa
open Go.RowKit Mono Rlp
namespace E
def tyL : List (Nat × Nat × Bool) := [(2, 1, false), (3, 1, false), (4, 1, false), (5, 1, false), (7, 4, true), (9, 1, false), (12, 1, false), (13, 2, true), (15, 1, false), (16, 1, false), (17, 1, false), (18, 1, true), (21, 1, false), (22, 32, true), (23, 32, true), (24, 1, false), (25, 1, false), (27, 1, false), (34, 2, true), (35, 2, true), (36, 1, false), (42, 32, true), (51, 1, false), (52, 3, true), (53, 3, true), (64, 1, false), (65, 1, false), (66, 25, true), (67, 25, true), (72, 1, false), (74, 2, true), (75, 2, true), (76, 1, false), (79, 2, true), (80, 2, true), (81, 1, false), (82, 16, true), (83, 17, true), (84, 17, true), (92, 1, false), (99, 1, false), (100, 25, true), (102, 24, true), (105, 1, false), (111, 1, false), (112, 1, false), (117, 2, true), (118, 2, true), (128, 5, true), (143, 1, false), (150, 1, false), (154, 1, false), (158, 1, false), (163, 1, false), (168, 4, true), (170, 0, true), (171, 0, true), (179, 11, true), (20, 1, false), (41, 1, false), (121, 1, false)]
theorem tyL_ok : (tyL.all fun x => tyB Try.prog x.1 == some x.2) = true := by kernel_rfl
def slL : List (Nat × Nat × Nat × Nat) := [(24, 5, 1, 1), (25, 24, 1, 24), (36, 35, 2, 48), (51, 53, 3, 56), (92, 118, 2, 48)]
theorem slL_ok : (slL.all fun x => slB Try.prog x.1 == some (x.2.1, x.2.2.1, x.2.2.2, x.2.2.1)) = true := by kernel_rfl
def arL : List (Nat × Nat × Nat × Nat) := [(22, 32, 5, 1), (23, 32, 5, 1), (42, 32, 5, 1), (66, 25, 65, 1), (67, 25, 65, 1), (82, 16, 41, 1), (100, 25, 3, 1), (102, 24, 65, 1), (128, 5, 65, 1), (170, 0, 16, 1)]
theorem arL_ok : (arL.all fun x => arB Try.prog x.1 == some x.2) = true := by kernel_rfl
def stL : List (Nat × List (Nat × Nat × Bool)) := [(7, [(0, 1, false), (1, 1, false), (2, 1, false), (3, 1, false)]), (13, [(0, 1, false), (1, 1, false)]), (18, [(0, 1, false)]), (34, [(0, 1, false), (1, 1, false)]), (35, [(0, 1, false), (1, 1, false)]), (52, [(0, 1, false), (1, 1, false), (2, 1, false)]), (53, [(0, 1, false), (1, 1, false), (2, 1, false)]), (74, [(0, 1, false), (1, 1, false)]), (75, [(0, 1, false), (1, 1, false)]), (79, [(0, 1, false), (1, 1, false)]), (80, [(0, 1, false), (1, 1, false)]), (83, [(0, 16, true), (16, 1, false)]), (84, [(0, 16, true), (16, 1, false)]), (117, [(0, 1, false), (1, 1, false)]), (118, [(0, 1, false), (1, 1, false)]), (168, [(0, 1, false), (1, 1, false), (2, 1, false), (3, 1, false)]), (171, [(0, 0, true)]), (179, [(0, 1, false), (1, 1, false), (2, 1, false), (3, 1, false), (4, 1, false), (5, 1, false), (6, 1, false), (7, 1, false), (8, 1, false), (9, 1, false), (10, 1, false)])]
theorem stL_ok : (stL.all fun x => stB Try.prog x.1 == some x.2) = true := by kernel_rfl
def zeroL : List (Nat × D) := [(2, .v (.int .i64 0)), (3, .v (.int .i64 0)), (4, .v (.bool false)), (5, .v (.int .u8 0)), (7, .tup [.v (.int .i64 0), .v (.int .i64 0), .v (.bool false), .v (.int .u8 0)]), (12, .v (.int .u64 0)), (15, .v (.pointer none)), (16, .v (.pointer none)), (17, .v (.pointer none)), (18, .tup [.v (.pointer none)]), (20, .v .nilIface), (21, .v (.int .i32 0)), (22, .arr 32 zero32), (23, .arr 32 zero32), (24, .v (.slice none 0 0)), (25, .v (.slice none 0 0)), (27, .v (.int .i64 0)), (34, .tup [.v (.slice none 0 0), .v (.slice none 0 0)]), (35, .tup [.v (.slice none 0 0), .v (.slice none 0 0)]), (36, .v (.slice none 0 0)), (41, .v .nilIface), (42, .arr 32 zero32), (51, .v (.slice none 0 0)), (52, .tup [.v (.bool false), .v (.slice none 0 0), .v (.slice none 0 0)]), (53, .tup [.v (.bool false), .v (.slice none 0 0), .v (.slice none 0 0)]), (64, .v (.int .u64 0)), (65, .v (.int .u64 0)), (66, .tup [.v (.int .u64 0), .v (.int .u64 0), .v (.int .u64 0), .v (.int .u64 0), .v (.int .u64 0), .v (.int .u64 0), .v (.int .u64 0), .v (.int .u64 0), .v (.int .u64 0), .v (.int .u64 0), .v (.int .u64 0), .v (.int .u64 0), .v (.int .u64 0), .v (.int .u64 0), .v (.int .u64 0), .v (.int .u64 0), .v (.int .u64 0), .v (.int .u64 0), .v (.int .u64 0), .v (.int .u64 0), .v (.int .u64 0), .v (.int .u64 0), .v (.int .u64 0), .v (.int .u64 0), .v (.int .u64 0)]), (67, .tup [.v (.int .u64 0), .v (.int .u64 0), .v (.int .u64 0), .v (.int .u64 0), .v (.int .u64 0), .v (.int .u64 0), .v (.int .u64 0), .v (.int .u64 0), .v (.int .u64 0), .v (.int .u64 0), .v (.int .u64 0), .v (.int .u64 0), .v (.int .u64 0), .v (.int .u64 0), .v (.int .u64 0), .v (.int .u64 0), .v (.int .u64 0), .v (.int .u64 0), .v (.int .u64 0), .v (.int .u64 0), .v (.int .u64 0), .v (.int .u64 0), .v (.int .u64 0), .v (.int .u64 0), .v (.int .u64 0)]), (72, .v (.pointer none)), (74, .tup [.v (.slice none 0 0), .v (.slice none 0 0)]), (75, .tup [.v (.slice none 0 0), .v (.slice none 0 0)]), (76, .v (.pointer none)), (79, .tup [.v (.slice none 0 0), .v .nilIface]), (80, .tup [.v (.slice none 0 0), .v .nilIface]), (81, .v (.pointer none)), (82, .tup [.v .nilIface, .v .nilIface, .v .nilIface, .v .nilIface, .v .nilIface, .v .nilIface, .v .nilIface, .v .nilIface, .v .nilIface, .v .nilIface, .v .nilIface, .v .nilIface, .v .nilIface, .v .nilIface, .v .nilIface, .v .nilIface]), (83, .tup [.tup [.v .nilIface, .v .nilIface, .v .nilIface, .v .nilIface, .v .nilIface, .v .nilIface, .v .nilIface, .v .nilIface, .v .nilIface, .v .nilIface, .v .nilIface, .v .nilIface, .v .nilIface, .v .nilIface, .v .nilIface, .v .nilIface], .v (.slice none 0 0)]), (84, .tup [.tup [.v .nilIface, .v .nilIface, .v .nilIface, .v .nilIface, .v .nilIface, .v .nilIface, .v .nilIface, .v .nilIface, .v .nilIface, .v .nilIface, .v .nilIface, .v .nilIface, .v .nilIface, .v .nilIface, .v .nilIface, .v .nilIface], .v (.slice none 0 0)]), (92, .v (.slice none 0 0)), (99, .v (.pointer none)), (100, .tup [.v (.int .i64 0), .v (.int .i64 0), .v (.int .i64 0), .v (.int .i64 0), .v (.int .i64 0), .v (.int .i64 0), .v (.int .i64 0), .v (.int .i64 0), .v (.int .i64 0), .v (.int .i64 0), .v (.int .i64 0), .v (.int .i64 0), .v (.int .i64 0), .v (.int .i64 0), .v (.int .i64 0), .v (.int .i64 0), .v (.int .i64 0), .v (.int .i64 0), .v (.int .i64 0), .v (.int .i64 0), .v (.int .i64 0), .v (.int .i64 0), .v (.int .i64 0), .v (.int .i64 0), .v (.int .i64 0)]), (102, .tup [.v (.int .u64 0), .v (.int .u64 0), .v (.int .u64 0), .v (.int .u64 0), .v (.int .u64 0), .v (.int .u64 0), .v (.int .u64 0), .v (.int .u64 0), .v (.int .u64 0), .v (.int .u64 0), .v (.int .u64 0), .v (.int .u64 0), .v (.int .u64 0), .v (.int .u64 0), .v (.int .u64 0), .v (.int .u64 0), .v (.int .u64 0), .v (.int .u64 0), .v (.int .u64 0), .v (.int .u64 0), .v (.int .u64 0), .v (.int .u64 0), .v (.int .u64 0), .v (.int .u64 0)]), (105, .v (.pointer none)), (111, .v (.pointer none)), (112, .v (.pointer none)), (117, .tup [.v (.slice none 0 0), .v (.slice none 0 0)]), (118, .tup [.v (.slice none 0 0), .v (.slice none 0 0)]), (121, .v .nilIface), (128, .tup [.v (.int .u64 0), .v (.int .u64 0), .v (.int .u64 0), .v (.int .u64 0), .v (.int .u64 0)]), (143, .v (.int .i64 0)), (150, .v (.int .u32 0)), (154, .v (.int .u64 0)), (158, .v (.pointer none)), (163, .v (.pointer none)), (170, .tup []), (171, .tup [.tup []])]
theorem zeroL_ok : AllZ zeroL := by
 repeat first | exact trivial | refine ⟨zero_of (by kernel_rfl) rfl, ?_⟩
def cnL : List Nat := [2, 3, 4, 5, 7, 9, 12, 13, 15, 16, 17, 18, 21, 22, 23, 24, 25, 27, 34, 35, 36, 42, 51, 52, 53, 64, 65, 66, 67, 72, 74, 75, 76, 79, 80, 81, 82, 83, 84, 92, 99, 100, 102, 105, 111, 112, 117, 118, 128, 143, 150, 154, 158, 163, 168, 170, 171, 179]
theorem cnL_ok : (cnL.all fun x => cnB Try.prog x) = true := by kernel_rfl
theorem zvL_ok : AllZV zeroL := by
 repeat first | exact trivial | refine ⟨zv_of (by kernel_rfl) rfl, ?_⟩
end E
end Go.Proofs.Ytiledgojbpmoiaa
/-
 The abstract machine: the rules as the walk takes them.
 Conditions: none.
-/
namespace Go.Proofs.Ytiledgojbpmoiaa
set_option linter.unusedVariables false
open Go.RowKit Mono Rlp
namespace E
def dstB (N : Nat) (d : Option Tmp) : Bool :=
 match d with
 | some t => decide (t < N)
 | none => true
section
variable {N : Nat} {X : Cx N} {S S' : St} {a : Act} {w w' : World} {ops : Array Oper} {o : Oper} {Q : Exit → Act → World → Prop} {l : List Oper} {T : St → List Fr → Prop} {E : List Fr}
theorem dst_of (h : dstB N o.dst = true) : ∀ t, o.dst = some t → t < N := fun t ht => by
 rw [ht] at h
 simpa [dstB] using h
theorem tyI {T sz : Nat} {ag : Bool} (h : assoc tyL T = some (sz, ag)) : Ty Try.prog T sz ag := ty_of (by
 have := List.all_eq_true.1 tyL_ok _ (assoc_mem _ _ _ h)
 simpa using this)
theorem slI {T e z y : Nat} (h : assoc slL T = some (e, z, y)) : SlTy T e z := by
 have := List.all_eq_true.1 slL_ok _ (assoc_mem _ _ _ h)
 exact sl_of (y := y) (y' := z) (by simpa using this)
theorem slTI {T e z y : Nat} (h : assoc slL T = some (e, z, y)) (h0 : Nat.blt 0 z = true) : SlT Try.prog T e z y := by
 have := List.all_eq_true.1 slL_ok _ (assoc_mem _ _ _ h)
 exact slT_of (by simpa using this) (by simpa using h0)
theorem arI' {T n e z : Nat} (h : assoc arL T = some (n, e, z)) : ArTy T n e z := by
 have := List.all_eq_true.1 arL_ok _ (assoc_mem _ _ _ h)
 exact ar_of (by simpa using this)
theorem fldI {T k off sz : Nat} {ag : Bool} {l : List (Nat × Nat × Bool)} (h : assoc stL T = some l) (hk : l[k]? = some (off, sz, ag)) (h0 : Nat.blt 0 sz = true) : Fld Try.prog T k off sz ag := by
 have := List.all_eq_true.1 stL_ok _ (assoc_mem _ _ _ h)
 exact st_fld (by simpa using this) hk (by simpa using h0)
theorem stI {T : Nat} {l : List (Nat × Nat × Bool)} (h : assoc stL T = some l) : StTy T (l.map fun x => (x.1, x.2.1)) := by
 have := List.all_eq_true.1 stL_ok _ (assoc_mem _ _ _ h)
 exact st_of (by simpa using this)
theorem zeroI {T : Nat} {d : D} (h : assoc zeroL T = some d) : Zero T d := AllZ.get _ _ _ zeroL_ok h
variable {rs : List (Tmp × R)} {os : List Obj} {fs : List (Value × D)}
theorem dst_lt {t : Tmp} (hd : o.dst = some t) (hN : Nat.blt t N = true) : ∀ u, o.dst = some u → u < N := fun u hu => by
 rw [hd] at hu
 cases hu
 simpa using hN
theorem ES.still {t : Tmp} {r : R} (hO : Still ops ⟨rs, os, fs⟩ o r) (hg : guardOf ops ⟨rs, os, fs⟩ o = some true) (hd : o.dst = some t) (hN : Nat.blt t N = true) (k : EL X ops Q l ⟨(t, r) :: rs, os, fs⟩) : EL X ops Q (o :: l) ⟨rs, os, fs⟩ :=
 EL.still hg (dst_lt hd hN) hO (by rw [hd]; exact k)
theorem ES.skip {t : Tmp} (hg : guardOf ops ⟨rs, os, fs⟩ o = some false) (hd : o.dst = some t) (hN : Nat.blt t N = true) (k : EL X ops Q l ⟨(t, .tpl []) :: rs, os, fs⟩) : EL X ops Q (o :: l) ⟨rs, os, fs⟩ := EL.skip hg (dst_lt hd hN) (by rw [hd]; exact k)
theorem ES.alloc {t : Tmp} {T : TypeId} {d : D} (ho : o.op = .alloc T) (hz : assoc zeroL T = some d) (hg : guardOf ops ⟨rs, os, fs⟩ o = some true) (hd : o.dst = some t) (hN : Nat.blt t N = true)
  (k : ∀ g, EL X ops Q l ⟨(t, .val (.v (.pointer (some ⟨g, 0, none⟩)))) :: rs, .var g T d :: os, fs⟩) : EL X ops Q (o :: l) ⟨rs, os, fs⟩ := EL.alloc ho hg (dst_lt hd hN) (zeroI hz) fun g => by rw [hd]; exact k g
theorem ES.box {t : Tmp} {T : TypeId} {x : Operand} {d : D} (ho : o.op = .box T x) (hx : ev ⟨rs, os, fs⟩ x = some (.val d)) (hg : guardOf ops ⟨rs, os, fs⟩ o = some true) (hd : o.dst = some t) (hN : Nat.blt t N = true)
  (k : ∀ g, EL X ops Q l ⟨(t, .val (.v (.pointer (some ⟨g, 0, none⟩)))) :: rs, .var g T d :: os, fs⟩) : EL X ops Q (o :: l) ⟨rs, os, fs⟩ := EL.box ho hg (dst_lt hd hN) hx fun g => by rw [hd]; exact k g
theorem RefineL.refl (F : List (Value × D)) : ∀ ds : List D, RefineL F ds ds
 | [] => by rw [RefineL]
 | d :: ds => by
  rw [RefineL]
  refine ⟨d, ds, rfl, ?_, RefineL.refl F ds⟩
  exact Refine.refl F d
where Refine.refl (F : List (Value × D)) : ∀ d : D, Refine F d d
 | .v x => by rw [Refine]; exact .inl rfl
 | .tup ds => by rw [Refine]; exact ⟨ds, rfl, RefineL.refl F ds⟩
 | .arr n l => by rw [Refine]
 | .bs l => by rw [Refine]
 | .sl z ds => by rw [Refine]
 | .pd d => by rw [Refine]
 | .ifc t d => by rw [Refine]
theorem RefineL.readVs {ok : Nat → Prop} {F : List (Value × D)} (hF : ∀ f ∈ F, Reads ok w f.2 [f.1]) : ∀ (ds l : List D) (xs : List Value), RefineL F ds l → ReadVs ok w ds xs → ReadVs ok w l xs
 | [], l, xs, h, hr => by rw [RefineL] at h; subst h; exact hr
 | d :: ds, l, xs, h, hr => by
  rw [RefineL] at h
  obtain ⟨d', ds', rfl, h1, h2⟩ := h
  obtain ⟨x, rest, rfl, h3, h4⟩ := hr
  exact ⟨x, rest, rfl, h1.readV hF h3, RefineL.readVs hF ds ds' rest h2 h4⟩
theorem g_callR {f : FuncId} {args : Array Operand} {tys : Array TypeId} {ds ds' : List D} {Φ : R → Prop} (hF : Fn f ds' Φ) (ho : o.op = .call { callee := .value (.func f), args := args, argTypes := tys }) (hx : evs S args.toList = some ds) (hf : Enters f) (hR : RefineL S.facts ds ds') : Grows ops S o Φ := fun base ok a w ha => by
 have hr := RefineL.readVs ha.facts _ _ _ hR (ha.evs _ _ hx fun t ht => looks_of (x := .tmp t) rfl (by rw [ho]; simp only [Op.operands, Call.operands]; simp; simpa using ht))
 have hrun : (execOp a.eval o).run Try.prog w = .ok (.enter f (args.map a.eval)) w := by
  unfold execOp
  simp [ho, resolve, Act.eval, Deferred.ofValue, invoke, hf (args.map a.eval) w]
 rw [hrun]
 refine ⟨Gr.refl w, ?_⟩
 have := hF.go ok w _ ha.lt hr
 have he : (args.toList.map a.eval).toArray = args.map a.eval := by
  apply Array.ext'
  simp
 rw [he] at this
 refine this.mono ?_
 rintro e w' ⟨hg, v, r, rfl, hr, hv⟩
 exact ⟨v, rfl, hg, r, hr, hv⟩
theorem ES.call {t : Tmp} {f : FuncId} {args : Array Operand} {tys : Array TypeId} {ds ds' : List D} {r : R} (hF : Fn f ds' (· = r)) (ho : o.op = .call { callee := .value (.func f), args := args, argTypes := tys }) (hx : evs ⟨rs, os, fs⟩ args.toList = some ds) (hf : Enters f) (hR : RefineL fs ds ds') (hg : guardOf ops ⟨rs, os, fs⟩ o = some true) (hd : o.dst = some t) (hN : Nat.blt t N = true) (k : EL X ops Q l ⟨(t, r) :: rs, os, fs⟩) : EL X ops Q (o :: l) ⟨rs, os, fs⟩ :=
 EL.grow hg (dst_lt hd hN) (g_callR hF ho hx hf hR) (by rw [hd]; exact k)
theorem ES.grow {t : Tmp} {r : R} (hO : Grows ops ⟨rs, os, fs⟩ o (· = r)) (hg : guardOf ops ⟨rs, os, fs⟩ o = some true) (hd : o.dst = some t) (hN : Nat.blt t N = true) (k : EL X ops Q l ⟨(t, r) :: rs, os, fs⟩) : EL X ops Q (o :: l) ⟨rs, os, fs⟩ := EL.grow hg (dst_lt hd hN) hO (by rw [hd]; exact k)
theorem EH.still {t : Tmp} {r : R} (hO : Still ops ⟨rs, os, fs⟩ o r) (hg : guardOf ops ⟨rs, os, fs⟩ o = some true) (ht : o.dst = some t) (hd : offB N (some t) E = true) (k : EM N ops T l ⟨(t, r) :: rs, os, fs⟩ E) : EM N ops T (o :: l) ⟨rs, os, fs⟩ E := EM.still hg (by rw [ht]; exact hd) hO (by rw [ht]; exact k)
theorem EH.skip {t : Tmp} (hg : guardOf ops ⟨rs, os, fs⟩ o = some false) (ht : o.dst = some t) (hd : offB N (some t) E = true) (k : EM N ops T l ⟨(t, .tpl []) :: rs, os, fs⟩ E) : EM N ops T (o :: l) ⟨rs, os, fs⟩ E := EM.skip hg (by rw [ht]; exact hd) (by rw [ht]; exact k)
theorem EH.grow {t : Tmp} {r : R} (hO : Grows ops ⟨rs, os, fs⟩ o (· = r)) (hg : guardOf ops ⟨rs, os, fs⟩ o = some true) (ht : o.dst = some t) (hd : offB N (some t) E = true) (k : EM N ops T l ⟨(t, r) :: rs, os, fs⟩ E) : EM N ops T (o :: l) ⟨rs, os, fs⟩ E := EM.grow hg (by rw [ht]; exact hd) hO (by rw [ht]; exact k)
theorem EH.call {t : Tmp} {f : FuncId} {args : Array Operand} {tys : Array TypeId} {ds ds' : List D} {r : R} (hF : Fn f ds' (· = r)) (ho : o.op = .call { callee := .value (.func f), args := args, argTypes := tys }) (hx : evs ⟨rs, os, fs⟩ args.toList = some ds) (hf : Enters f) (hR : RefineL fs ds ds') (hg : guardOf ops ⟨rs, os, fs⟩ o = some true) (ht : o.dst = some t) (hd : offB N (some t) E = true) (k : EM N ops T l ⟨(t, r) :: rs, os, fs⟩ E) : EM N ops T (o :: l) ⟨rs, os, fs⟩ E :=
 EM.grow hg (by rw [ht]; exact hd) (g_callR hF ho hx hf hR) (by rw [ht]; exact k)
theorem EH.alloc {t : Tmp} {Ty : TypeId} {d : D} (ho : o.op = .alloc Ty) (hz : assoc zeroL Ty = some d) (ht : o.dst = some t) (hg : guardOf ops ⟨rs, os, fs⟩ o = some true) (hd : offB N (some t) E = true) (k : EM N ops T l ⟨(t, .any) :: rs, os, fs⟩ (E ++ [(t, Ty, d)])) : EM N ops T (o :: l) ⟨rs, os, fs⟩ E := EM.new hg ht hd (n_alloc ho (zeroI hz)) k
theorem EH.box {t : Tmp} {Ty : TypeId} {x : Operand} {d : D} (ho : o.op = .box Ty x) (hx : ev ⟨rs, os, fs⟩ x = some (.val d)) (ht : o.dst = some t) (hg : guardOf ops ⟨rs, os, fs⟩ o = some true) (hd : offB N (some t) E = true) (k : EM N ops T l ⟨(t, .any) :: rs, os, fs⟩ (E ++ [(t, Ty, d)])) : EM N ops T (o :: l) ⟨rs, os, fs⟩ E := EM.new hg ht hd (n_box ho hx) k
theorem g_buildI {T : Nat} {parts : Array (Nat × Operand)} {l : List (Nat × Nat × Bool)} {d0 d : D} {ps : List (Nat × D)} (ho : o.op = .build T parts) (hx : evps S parts.toList = some ps) (hT : assoc stL T = some l) (hz : assoc zeroL T = some d0) (hd0 : d0.agg = true) (hf : fillD (l.map fun x => (x.1, x.2.1)) d0 ps = some d) : Still ops S o (.val d) := g_build ho hx (stI hT) (zeroI hz) hd0 hf
theorem g_build0I {T n e z : Nat} {d : D} (ho : o.op = .build T #[]) (hT : assoc arL T = some (n, e, z)) (hz : assoc zeroL T = some d) (hd : d.agg = true) : Still ops S o (.val d) := g_build0 ho (arI' hT) (zeroI hz) hd
def litB (n z : Nat) : Bool := Nat.blt 0 n && Nat.blt 0 z && Nat.ble (n * z) 16777216
def allB (z : Nat) (ps : List (Nat × D)) : Bool := ps.all fun p => p.2.size == z
theorem g_slice_litI {T e z y n : Nat} {parts : Array (Nat × Operand)} {ps : List (Nat × D)} {ds : List D} {d0 : D} (ho : o.op = .buildSlice T n parts) (hx : evps S parts.toList = some ps) (hT : assoc slL T = some (e, z, y)) (hz : assoc zeroL e = some d0) (hin : inRow 0 ps = some ds) (hsz : allB z ps = true) (hn : ps.length = n) (h0 : litB n z = true) : Grows ops S o (· = .val (.sl z ds)) := by
 simp only [litB, Bool.and_eq_true, Nat.blt_eq, Nat.ble_eq] at h0
 exact g_slice_lit ho hx (slI hT) (zeroI hz) hin (fun p hp => by simpa using List.all_eq_true.1 hsz p hp) hn h0.1 h0.2
theorem g_fieldI {x : Operand} {T k off sz g n : Nat} {ag : Bool} {l : List (Nat × Nat × Bool)} (ho : o.op = .fieldAddr T x k) (hx : ev S x = some (.val (.v (.pointer (some ⟨g, n, none⟩))))) (h : assoc stL T = some l) (hk : l[k]? = some (off, sz, ag)) (h0 : Nat.blt 0 sz = true) : Still ops S o (.val (.v (.pointer (some ⟨g, n + off, none⟩)))) := g_field ho hx (fldI h hk h0)
theorem g_field_pdI {x : Operand} {T k off sz : Nat} {ag : Bool} {d d' : D} {l : List (Nat × Nat × Bool)} (ho : o.op = .fieldAddr T x k) (hx : ev S x = some (.val (.pd d))) (h : assoc stL T = some l) (hk : l[k]? = some (off, sz, ag)) (h0 : Nat.blt 0 sz = true) (hs : d.sub off sz ag = some d') : Still ops S o (.val (.pd d')) := g_field_pd ho hx (fldI h hk h0) hs
theorem g_loadI {x : Operand} {T sz g n : Nat} {ag : Bool} {t : TypeId} {d d' : D} (i : Nat) (ho : o.op = .load T x) (hx : ev S x = some (.val (.v (.pointer (some ⟨g, n, none⟩))))) (hi : S.objs[i]? = some (.var g t d)) (hT : assoc tyL T = some (sz, ag)) (hs : d.sub n sz ag = some d') : Still ops S o (.val d') := g_load i ho hx hi (tyI hT) hs
theorem g_load_pdI {x : Operand} {T sz : Nat} {ag : Bool} {d d' : D} (ho : o.op = .load T x) (hx : ev S x = some (.val (.pd d))) (hT : assoc tyL T = some (sz, ag)) (hs : d.sub 0 sz ag = some d') : Still ops S o (.val d') := g_load_pd ho hx (tyI hT) hs
theorem g_indexI {x y : Operand} {T e z b : Nat} {k : Int} {ds : List D} (ho : o.op = .indexAddr T x y) (hx : ev S x = some (.val (.sl z ds))) (hy : ev S y = some (.val (.v (.int .i64 k)))) (hT : assoc slL T = some (e, z, b)) (hz : Nat.blt 0 z = true) (h0 : 0 ≤ k) (hk : k.toNat < ds.length) : Still ops S o (.val (.pd ds[k.toNat])) := g_index ho hx hy (slI hT) (by simpa using hz) h0 hk
theorem g_index_bsI {x y : Operand} {T e b : Nat} {k : Int} {l : List UInt8} (ho : o.op = .indexAddr T x y) (hx : ev S x = some (.val (.bs l))) (hy : ev S y = some (.val (.v (.int .i64 k)))) (hT : assoc slL T = some (e, 1, b)) (h0 : 0 ≤ k) (hk : k.toNat < l.length) : Still ops S o (.val (.pd (.v (bv l[k.toNat])))) := g_index_bs ho hx hy (slI hT) h0 hk
theorem g_len_bsI {x : Operand} {T e z y : Nat} {l : List UInt8} (ho : o.op = .call { callee := .builtin .len, args := #[x], argTypes := #[T] }) (hx : ev S x = some (.val (.bs l))) (hT : assoc slL T = some (e, z, y)) : Still ops S o (.val (.v (.int .i64 l.length))) := g_len_bs ho hx (slI hT).und
theorem g_len_slI {x : Operand} {T e z y z' : Nat} {ds : List D} (ho : o.op = .call { callee := .builtin .len, args := #[x], argTypes := #[T] }) (hx : ev S x = some (.val (.sl z' ds))) (hT : assoc slL T = some (e, z, y)) : Still ops S o (.val (.v (.int .i64 ds.length))) := g_len_sl ho hx (slI hT).und
theorem g_len_nilI {x : Operand} {T e n c z y : Nat} {A : Option Addr} (ho : o.op = .call { callee := .builtin .len, args := #[x], argTypes := #[T] }) (hx : ev S x = some (.val (.v (.slice A n c)))) (hT : assoc slL T = some (e, z, y)) : Still ops S o (.val (.v (.int .i64 n))) := g_len_nil ho hx (slI hT).und
theorem g_len_rowI {x : Operand} {T e e' z z' y : Nat} {v : Value} {ds : List D} (i : Nat) (ho : o.op = .call { callee := .builtin .len, args := #[x], argTypes := #[T] }) (hx : ev S x = some (.val (.v v))) (hi : S.objs[i]? = some (.row v e' z ds)) (hT : assoc slL T = some (e, z', y)) : Still ops S o (.val (.v (.int .i64 ds.length))) := g_len_row i ho hx hi (slI hT).und
theorem ES.append {t : Tmp} {T e z y : Nat} {s x : Operand} {v : Value} {ds es : List D} (i : Nat) (ho : o.op = .call { callee := .builtin .append, args := #[s, x], argTypes := #[T, T] }) (hT : assoc slL T = some (e, z, y)) (hz : Nat.blt 0 z = true)
  (hs : ev ⟨rs, os, fs⟩ s = some (.val (.v v))) (hi : os[i]? = some (.row v e z ds)) (hx : ev ⟨rs, os, fs⟩ x = some (.val (.sl z es))) (hg : guardOf ops ⟨rs, os, fs⟩ o = some true) (hd : o.dst = some t) (hN : Nat.blt t N = true) (hlen : (ds.length + es.length) * y ≤ 140737488355328 ∧ ds.length + es.length ≤ 9223372036854775807)
  (k : ∀ v', EL X ops Q l ⟨(t, .val (.v v')) :: rs, os.set i (.row v' e z (ds ++ es)), fs⟩) : EL X ops Q (o :: l) ⟨rs, os, fs⟩ := EL.append i ho hg (dst_lt hd hN) (slTI hT hz) hs hi hx hlen fun v' => by rw [hd]; exact k v'
theorem EH.nil {l' : List Oper} {F : List Fr} (hF : F = []) (h : EL X ops Q l' S) : EM N ops (fun S' E => openF (EL X ops Q l') E S') [] S F := by
 subst hF
 exact h
theorem EH.nil1 {l' : List Oper} {t : Tmp} {Ty : TypeId} {d : D} {F : List Fr} (hF : F = [(t, Ty, d)]) (h : ∀ g, EL X ops Q l' ⟨(t, .val (.v (.pointer (some ⟨g, 0, none⟩)))) :: rs, .var g Ty d :: os, fs⟩) : EM N ops (fun S' E => openF (EL X ops Q l') E S') [] ⟨rs, os, fs⟩ F := by
 subst hF
 exact h
end
end E
end Go.Proofs.Ytiledgojbpmoiaa
