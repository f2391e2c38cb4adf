/-
 Merged: lemmas of this claim.
 Conditions: none.
-/
import Derived.Test.YtelbhdobjdnglaaGreatZC5
import Derived.Test.YtelbhdobjdnglaaGreatZC0
namespace Go.Proofs.YtelbhdobjdnglaaGreat
set_option linter.unusedVariables false
open Go.RowKit Mono Rlp
namespace E
def assoc {α : Type} : List (Nat × α) → Nat → Option α
 | [], _ => none
 | (k, x) :: l, n => if k = n then some x else assoc l n
theorem jK {α : Type} : ∀ (l : List (Nat × α)) (n : Nat) (x : α), assoc l n = some x → (n, x) ∈ l
 | [], n, x, h => by simp [assoc] at h
 | (k, y) :: l, n, x, h => by
  rw [assoc] at h
  split at h
  ·
   rename_i e
   cases h
   subst e
   simp
  · exact WZ _ (jK l n x h)
def slB (P : Program) (T : Nat) : Option (Nat × Nat × Nat × Nat) :=
 match P.underlying T with
 | some (.slice e) => match P.info? e with
  | some i => match i.zero with
   | some z => some (e, i.size, i.bytes, z.cells.size)
   | none => none
  | none => none
 | _ => none
def arB (P : Program) (T : Nat) : Option (Nat × Nat × Nat) :=
 match P.underlying T with
 | some (.array n e) => match P.info? e with
  | some i => some (n, e, i.size)
  | none => none
 | _ => none
def stB (P : Program) (T : Nat) : Option (List (Nat × Nat × Bool)) :=
 match P.underlying T with
 | some (.struct fs) => fs.toList.mapM fun f => match P.info? f.type, P.underlying f.type with
  | some i, some d => some (f.offset, i.size, d.isRow)
  | _, _ => none
 | _ => none
theorem Vt {T e z y y' : Nat} (h : slB Tryz.prog T = some (e, z, y, y')) : QB T e z := by
 unfold slB at h
 split at h
 ·
  rename_i e' hu
  split at h
  ·
   rename_i i hi
   split at h
   ·
    cases h
    exact ⟨hu, by rw [hi]; rfl⟩
   · cases h
  · cases h
 · cases h
theorem Ub {T e z y : Nat} (h : slB Tryz.prog T = some (e, z, y, z)) (h0 : 0 < z) : SlT Tryz.prog T e z y := by
 unfold slB at h
 split at h
 ·
  rename_i e' hu
  split at h
  ·
   rename_i i hi
   split at h
   ·
    rename_i zv hz
    simp only [Xw, Prod.mk.injEq] at h
    obtain ⟨h1, h2, h3, h4⟩ := h
    subst h1
    exact ⟨hu, ⟨i, zv, hi, hz, h2, h3, h4⟩, h0⟩
   · cases h
  · cases h
 · cases h
theorem V9 {T n e z : Nat} (h : arB Tryz.prog T = some (n, e, z)) : Tt T n e z := by
 unfold arB at h
 split at h
 ·
  rename_i n' e' hu
  split at h
  ·
   rename_i i hi
   cases h
   exact ⟨hu, by rw [hi]; rfl⟩
  · cases h
 · cases h
theorem FH {α β : Type} {f : α → Option β} : ∀ (l : List α) (r : List β) (k : Nat) (y : β), l.mapM f = some r → r[k]? = some y → ∃ x, l[k]? = some x ∧ f x = some y
 | [], r, k, y, h, hk => by
  simp at h
  subst h
  simp at hk
 | a :: l, r, k, y, h, hk => by
  rw [List.mapM_cons] at h
  cases ha : f a with
  | none => rw [ha] at h; cases h
  | some b =>
   rw [ha] at h
   cases hl : l.mapM f with
   | none => rw [hl] at h; cases h
   | some bs =>
    rw [hl] at h
    cases h
    cases k with
    | zero => cases hk; exact ⟨a, rfl, ha⟩
    | succ k => exact FH l bs k y hl (by simpa using hk)
theorem mapM_map {α β γ : Type} {f : α → Option β} {g : α → Option γ} {p : β → γ} (hfg : ∀ a b, f a = some b → g a = some (p b)) : ∀ (l : List α) (r : List β), l.mapM f = some r → l.mapM g = some (r.map p)
 | [], r, h => by
  simp at h
  subst h
  simp
 | a :: l, r, h => by
  rw [List.mapM_cons] at h ⊢
  cases ha : f a with
  | none => rw [ha] at h; cases h
  | some b =>
   rw [ha] at h
   cases hl : l.mapM f with
   | none => rw [hl] at h; cases h
   | some bs =>
    rw [hl] at h
    cases h
    rw [hfg a b ha, mapM_map hfg l bs hl]
    rfl
theorem Ua {T k off sz : Nat} {ag : Bool} {l : List (Nat × Nat × Bool)} (h : stB Tryz.prog T = some l) (hk : l[k]? = some (off, sz, ag)) (h0 : 0 < sz) : Fld Tryz.prog T k off sz ag := by
 unfold stB at h
 split at h
 ·
  rename_i fs hu
  obtain ⟨f, h1, h2⟩ := FH _ _ _ _ h hk
  split at h2
  ·
   rename_i i d hi hd
   cases h2
   exact ⟨⟨fs, f, d, hu, by simpa using h1, rfl, by rw [hi]; rfl, hd, rfl⟩, h0⟩
  · cases h2
 · cases h
theorem Vq {T : Nat} {l : List (Nat × Nat × Bool)} (h : stB Tryz.prog T = some l) : Td T (l.map fun x => (x.1, x.2.1)) := by
 unfold stB at h
 split at h
 ·
  rename_i fs hu
  refine ⟨fs, hu, mapM_map (fun f b hb => ?_) _ _ h⟩
  split at hb
  ·
   rename_i i d hi hd
   cases hb
   rw [hi]
   rfl
  · cases hb
 · cases h
mutual
def cellsD : D → List Value
 | .v x => [x]
 | .arr _ l => bvs l
 | .tup ds => Ed ds
 | _ => []
def Ed : List D → List Value
 | [] => []
 | d :: ds => cellsD d ++ Ed ds
end
mutual
def uQ : D → Bool
 | .v x => x.oneCell'
 | .arr n l => l.length == n
 | .tup ds => uP ds
 | _ => false
def uP : List D → Bool
 | [] => true
 | d :: ds => uQ d && uP ds
end
mutual
theorem pG {ok : Nat → Prop} {w : World} : ∀ d : D, uQ d = true → Reads ok w d (cellsD d)
 | .v x, h => by rw [Reads]; exact ⟨h, rfl⟩
 | .arr n l, h => by rw [Reads]; exact ⟨by simpa [uQ] using h, rfl⟩
 | .tup ds, h => by rw [Reads]; exact sO ds h
 | .bs l, h => by cases h
 | .sl z ds, h => by cases h
 | .pd d, h => by cases h
 | .ifc t d, h => by cases h
theorem sO {ok : Nat → Prop} {w : World} : ∀ ds : List D, uP ds = true → dF ok w ds (Ed ds)
 | [], h => by rw [dF]; rfl
 | d :: ds, h => by
  simp only [uP, XG] at h
  rw [dF]
  exact ⟨_, _, rfl, pG d h.1, sO ds h.2⟩
end
theorem QM {T : Nat} {d : D} (h : ((Tryz.prog.info? T).bind (·.zero)).map (·.cells.toList) = some (cellsD d)) (hc : uQ d = true) : Zero T d := by
 cases hz : (Tryz.prog.info? T).bind (·.zero) with
 | none => rw [hz] at h; cases h
 | some z =>
  rw [hz] at h
  have h1 : z.cells.toList = cellsD d := by simpa using h
  exact ⟨z, hz, fun ok w => by rw [h1]; exact pG d hc⟩
def NS : List (Nat × D) → Prop
 | [] => True
 | (T, d) :: l => Zero T d ∧ NS l
theorem NS.get : ∀ (l : List (Nat × D)) (T : Nat) (d : D), NS l → assoc l T = some d → Zero T d
 | [], T, d, _, h => by simp [assoc] at h
 | (k, e) :: l, T, d, h, hk => by
  rw [assoc] at hk
  split at hk
  ·
   rename_i e
   cases hk
   subst e
   exact h.1
  · exact NS.get l T d h.2 hk
def cnB (P : Program) (T : Nat) : Bool :=
 match P.underlying T with
 | some (.interface _) => false
 | some _ => true
 | none => false
def Vy (P : Program) (T : Nat) : Bool :=
 match P.underlying T with
 | some (.pointer _) => true
 | _ => false
def Ul (P : Program) (T : Nat) : Option (Nat × Nat × Nat) :=
 match P.underlying T with
 | some (.map k e) => match P.underlying k with
  | some (.array n b) => match P.underlying b, P.info? b with
   | some (.int .u8), some i => if i.size = 1 then some (k, n, e) else none
   | _, _ => none
  | _ => none
 | _ => none
structure Aw (K n : Nat) : Prop where
 get : ∃ e, Tryz.prog.underlying K = some (.array n e) ∧ Tryz.prog.underlying e = some (.int .u8) ∧ ∀ w, (sizeOf e).run Tryz.prog w = .ok 1 w
structure CU (T : Nat) (d : D) : Prop where
 get : ∃ z, (∀ w, (zeroValue T).run Tryz.prog w = .ok z w) ∧ ∀ ok w, bW ok w d z
theorem Vk {T : Nat} {d : D} (h : (Tryz.prog.info? T).bind (·.zero) = some (form d (cellsD d))) (hc : uQ d = true) : CU T d := by
 refine ⟨form d (cellsD d), fun w => ?_, fun ok w => ⟨_, pG d hc, rfl⟩⟩
 cases hi : Tryz.prog.info? T with
 | none => rw [hi] at h; cases h
 | some i =>
  rw [hi] at h
  have hz : i.zero = some (form d (cellsD d)) := by simpa using h
  simp [zeroValue, typeInfo, hi, hz]
def CW : List (Nat × D) → Prop
 | [] => True
 | (T, d) :: l => CU T d ∧ CW l
theorem CW.get : ∀ (l : List (Nat × D)) (T : Nat) (d : D), CW l → assoc l T = some d → CU T d
 | [], T, d, _, h => by simp [assoc] at h
 | (k, e) :: l, T, d, h, hk => by
  rw [assoc] at hk
  split at hk
  ·
   rename_i e
   cases hk
   subst e
   exact h.1
  · exact CW.get l T d h.2 hk
theorem Uk {T K n e : Nat} (h : Ul Tryz.prog T = some (K, n, e)) : Tryz.prog.underlying T = some (.map K e) ∧ Aw K n := by
 unfold Ul at h
 split at h
 ·
  rename_i k e' hu
  split at h
  ·
   rename_i n' b hk
   split at h
   ·
    rename_i i hb hi
    split at h
    ·
     rename_i hs
     cases h
     exact ⟨hu, b, hk, hb, fun w => by simp [sizeOf, typeInfo, hi, hs]⟩
    · cases h
   · cases h
  · cases h
 · cases h
def tyL : List (Nat × Nat × Bool) := [(2, 1, false), (3, 1, false), (4, 1, false), (5, 1, false), (7, 4, true), (9, 1, false), (12, 1, false), (13, 2, true), (15, 1, false), (16, 1, false), (17, 1, false), (18, 1, true), (21, 1, false), (22, 1, false), (26, 1, false), (28, 32, true), (29, 32, true), (30, 1, false), (33, 1, false), (38, 1, false), (39, 33, true), (40, 33, true), (42, 1, false), (43, 1, true), (44, 1, true), (46, 1, false), (52, 2, true), (53, 2, true), (56, 1, false), (61, 1, false), (62, 1, false), (64, 97, true), (65, 97, true), (76, 1, false), (78, 1, false), (79, 1, true), (80, 1, true), (81, 20, true), (82, 20, true), (83, 1, false), (84, 55, true), (85, 55, true), (93, 1, false), (99, 1, false), (100, 1, false), (101, 1, false), (102, 2, true), (103, 2, true), (104, 35, true), (105, 35, true), (114, 1, false), (117, 1, false), (118, 25, true), (119, 1, false), (121, 1, false), (122, 1, false), (123, 1, false), (124, 3, true), (125, 3, true), (129, 16, true), (130, 53, true), (131, 53, true), (136, 1, false), (137, 3, true), (138, 3, true), (143, 1, false), (145, 2, true), (146, 2, true), (147, 1, false), (148, 3, true), (149, 3, true), (153, 1, false), (154, 2, true), (155, 2, true), (163, 1, false), (166, 64, true), (167, 64, true), (179, 32, true), (186, 33, true), (187, 33, true), (188, 1, false), (193, 1, false), (197, 1, false), (200, 5, true), (231, 25, true), (233, 1, false), (235, 2, true), (236, 2, true), (237, 1, false), (239, 2, true), (240, 2, true), (241, 1, false), (242, 16, true), (243, 17, true), (244, 17, true), (247, 2, true), (248, 2, true), (264, 1, false), (265, 25, true), (267, 24, true), (270, 1, false), (286, 1, false), (293, 1, false), (302, 1, false), (306, 1, false), (311, 1, false), (320, 4, true), (322, 0, true), (323, 0, true), (331, 11, true), (20, 1, false), (110, 1, false), (275, 1, false)]
theorem TY : (tyL.all fun x => tyB Tryz.prog x.1 == some x.2) = true := by kernel_rfl
def slL : List (Nat × Nat × Nat × Nat) := [(22, 53, 2, 48), (26, 22, 1, 24), (33, 40, 33, 56), (38, 5, 1, 1), (56, 29, 32, 32), (61, 4, 1, 1), (76, 85, 55, 112), (83, 167, 64, 64), (93, 38, 1, 24), (99, 105, 35, 88), (101, 187, 33, 40), (136, 138, 3, 56), (143, 146, 2, 48), (188, 248, 2, 48), (193, 110, 1, 16)]
theorem Oh : (slL.all fun x => slB Tryz.prog x.1 == some (x.2.1, x.2.2.1, x.2.2.2, x.2.2.1)) = true := by kernel_rfl
def arL : List (Nat × Nat × Nat × Nat) := [(28, 32, 5, 1), (29, 32, 5, 1), (81, 20, 5, 1), (82, 20, 5, 1), (118, 25, 117, 1), (129, 16, 123, 1), (179, 32, 5, 1), (200, 5, 117, 1), (231, 25, 117, 1), (242, 16, 110, 1), (265, 25, 3, 1), (267, 24, 117, 1), (322, 0, 16, 1)]
theorem U8 : (arL.all fun x => arB Tryz.prog x.1 == some x.2) = true := by kernel_rfl
def stL : List (Nat × List (Nat × Nat × Bool)) := [(7, [(0, 1, false), (1, 1, false), (2, 1, false), (3, 1, false)]), (13, [(0, 1, false), (1, 1, false)]), (18, [(0, 1, false)]), (39, [(0, 32, true), (32, 1, false)]), (40, [(0, 32, true), (32, 1, false)]), (43, [(0, 1, false)]), (44, [(0, 1, false)]), (52, [(0, 1, false), (1, 1, false)]), (53, [(0, 1, false), (1, 1, false)]), (64, [(0, 1, false), (1, 32, true), (33, 32, true), (65, 32, true)]), (65, [(0, 1, false), (1, 32, true), (33, 32, true), (65, 32, true)]), (79, [(0, 1, false)]), (80, [(0, 1, false)]), (84, [(0, 20, true), (20, 1, false), (21, 32, true), (53, 1, false), (54, 1, false)]), (85, [(0, 20, true), (20, 1, false), (21, 32, true), (53, 1, false), (54, 1, false)]), (102, [(0, 1, false), (1, 1, false)]), (103, [(0, 1, false), (1, 1, false)]), (104, [(0, 1, false), (1, 1, false), (2, 1, false), (3, 32, true)]), (105, [(0, 1, false), (1, 1, false), (2, 1, false), (3, 32, true)]), (124, [(0, 1, false), (1, 1, false), (2, 1, false)]), (125, [(0, 1, false), (1, 1, false), (2, 1, false)]), (130, [(0, 1, false), (1, 1, false), (2, 1, false), (3, 1, false), (4, 16, true), (20, 32, true), (52, 1, false)]), (131, [(0, 1, false), (1, 1, false), (2, 1, false), (3, 1, false), (4, 16, true), (20, 32, true), (52, 1, false)]), (137, [(0, 1, false), (1, 1, false), (2, 1, false)]), (138, [(0, 1, false), (1, 1, false), (2, 1, false)]), (145, [(0, 1, false), (1, 1, false)]), (146, [(0, 1, false), (1, 1, false)]), (148, [(0, 1, false), (1, 1, false), (2, 1, false)]), (149, [(0, 1, false), (1, 1, false), (2, 1, false)]), (154, [(0, 1, false), (1, 1, false)]), (155, [(0, 1, false), (1, 1, false)]), (166, [(0, 32, true), (32, 32, true)]), (167, [(0, 32, true), (32, 32, true)]), (186, [(0, 32, true), (32, 1, false)]), (187, [(0, 32, true), (32, 1, false)]), (235, [(0, 1, false), (1, 1, false)]), (236, [(0, 1, false), (1, 1, false)]), (239, [(0, 1, false), (1, 1, false)]), (240, [(0, 1, false), (1, 1, false)]), (243, [(0, 16, true), (16, 1, false)]), (244, [(0, 16, true), (16, 1, false)]), (247, [(0, 1, false), (1, 1, false)]), (248, [(0, 1, false), (1, 1, false)]), (320, [(0, 1, false), (1, 1, false), (2, 1, false), (3, 1, false)]), (323, [(0, 0, true)]), (331, [(0, 1, false), (1, 1, false), (2, 1, false), (3, 1, false), (4, 1, false), (5, 1, false), (6, 1, false), (7, 1, false), (8, 1, false), (9, 1, false), (10, 1, false)])]
theorem Oe : (stL.all fun x => stB Tryz.prog x.1 == some x.2) = true := by kernel_rfl
def iy : List (Nat × D) := [(2, .v (.int .i64 0)), (3, .v (.int .i64 0)), (4, .v (.bool false)), (5, .v (.int .u8 0)), (7, .tup [.v (.int .i64 0), .v (.int .i64 0), .v (.bool false), .v (.int .u8 0)]), (12, .v (.int .u64 0)), (15, .v (.pointer none)), (16, .v (.pointer none)), (17, .v (.pointer none)), (18, .tup [.v (.pointer none)]), (20, .v .nilIface), (21, .v (.int .i32 0)), (22, .v (.slice none 0 0)), (26, .v (.slice none 0 0)), (28, .arr 32 zero32), (29, .arr 32 zero32), (30, .v (.int .i64 0)), (33, .v (.slice none 0 0)), (38, .v (.slice none 0 0)), (39, .tup [.arr 32 zero32, .v (.slice none 0 0)]), (40, .tup [.arr 32 zero32, .v (.slice none 0 0)]), (42, .v (.pointer none)), (43, .tup [.v (.slice none 0 0)]), (44, .tup [.v (.slice none 0 0)]), (46, .v (.pointer none)), (52, .tup [.v (.slice none 0 0), .v (.slice none 0 0)]), (53, .tup [.v (.slice none 0 0), .v (.slice none 0 0)]), (56, .v (.slice none 0 0)), (61, .v (.slice none 0 0)), (62, .v (.pointer none)), (64, .tup [.v (.int .i64 0), .arr 32 zero32, .arr 32 zero32, .arr 32 zero32]), (65, .tup [.v (.int .i64 0), .arr 32 zero32, .arr 32 zero32, .arr 32 zero32]), (76, .v (.slice none 0 0)), (78, .v (.pointer none)), (79, .tup [.v (.slice none 0 0)]), (80, .tup [.v (.slice none 0 0)]), (81, .arr 20 (List.replicate 20 0)), (82, .arr 20 (List.replicate 20 0)), (83, .v (.slice none 0 0)), (84, .tup [.arr 20 (List.replicate 20 0), .v (.int .i64 0), .arr 32 zero32, .v (.slice none 0 0), .v (.slice none 0 0)]), (85, .tup [.arr 20 (List.replicate 20 0), .v (.int .i64 0), .arr 32 zero32, .v (.slice none 0 0), .v (.slice none 0 0)]), (93, .v (.slice none 0 0)), (99, .v (.slice none 0 0)), (100, .v (.pointer none)), (101, .v (.slice none 0 0)), (102, .tup [.v (.slice none 0 0), .v (.slice none 0 0)]), (103, .tup [.v (.slice none 0 0), .v (.slice none 0 0)]), (104, .tup [.v (.int .i64 0), .v (.slice none 0 0), .v (.slice none 0 0), .arr 32 zero32]), (105, .tup [.v (.int .i64 0), .v (.slice none 0 0), .v (.slice none 0 0), .arr 32 zero32]), (110, .v .nilIface), (114, .v (.map none)), (117, .v (.int .u64 0)), (118, .tup [.v (.int .u64 0), .v (.int .u64 0), .v (.int .u64 0), .v (.int .u64 0), .v (.int .u64 0), .v (.int .u64 0), .v (.int .u64 0), .v (.int .u64 0), .v (.int .u64 0), .v (.int .u64 0), .v (.int .u64 0), .v (.int .u64 0), .v (.int .u64 0), .v (.int .u64 0), .v (.int .u64 0), .v (.int .u64 0), .v (.int .u64 0), .v (.int .u64 0), .v (.int .u64 0), .v (.int .u64 0), .v (.int .u64 0), .v (.int .u64 0), .v (.int .u64 0), .v (.int .u64 0), .v (.int .u64 0)]), (119, .v (.int .u64 0)), (121, .v (.pointer none)), (122, .v (.pointer none)), (123, .v (.pointer none)), (124, .tup [.v (.pointer none), .v (.pointer none), .v (.bool false)]), (125, .tup [.v (.pointer none), .v (.pointer none), .v (.bool false)]), (129, .tup [.v (.pointer none), .v (.pointer none), .v (.pointer none), .v (.pointer none), .v (.pointer none), .v (.pointer none), .v (.pointer none), .v (.pointer none), .v (.pointer none), .v (.pointer none), .v (.pointer none), .v (.pointer none), .v (.pointer none), .v (.pointer none), .v (.pointer none), .v (.pointer none)]), (130, .tup [.v (.int .i64 0), .v (.slice none 0 0), .v (.slice none 0 0), .v (.pointer none), .tup [.v (.pointer none), .v (.pointer none), .v (.pointer none), .v (.pointer none), .v (.pointer none), .v (.pointer none), .v (.pointer none), .v (.pointer none), .v (.pointer none), .v (.pointer none), .v (.pointer none), .v (.pointer none), .v (.pointer none), .v (.pointer none), .v (.pointer none), .v (.pointer none)], .arr 32 zero32, .v (.bool false)]), (131, .tup [.v (.int .i64 0), .v (.slice none 0 0), .v (.slice none 0 0), .v (.pointer none), .tup [.v (.pointer none), .v (.pointer none), .v (.pointer none), .v (.pointer none), .v (.pointer none), .v (.pointer none), .v (.pointer none), .v (.pointer none), .v (.pointer none), .v (.pointer none), .v (.pointer none), .v (.pointer none), .v (.pointer none), .v (.pointer none), .v (.pointer none), .v (.pointer none)], .arr 32 zero32, .v (.bool false)]), (136, .v (.slice none 0 0)), (137, .tup [.v (.bool false), .v (.slice none 0 0), .v (.slice none 0 0)]), (138, .tup [.v (.bool false), .v (.slice none 0 0), .v (.slice none 0 0)]), (143, .v (.slice none 0 0)), (145, .tup [.v (.slice none 0 0), .v (.slice none 0 0)]), (146, .tup [.v (.slice none 0 0), .v (.slice none 0 0)]), (147, .v (.pointer none)), (148, .tup [.v (.slice none 0 0), .v (.pointer none), .v (.bool false)]), (149, .tup [.v (.slice none 0 0), .v (.pointer none), .v (.bool false)]), (153, .v (.map none)), (154, .tup [.v (.map none), .v (.map none)]), (155, .tup [.v (.map none), .v (.map none)]), (163, .v (.map none)), (166, .tup [.arr 32 zero32, .arr 32 zero32]), (167, .tup [.arr 32 zero32, .arr 32 zero32]), (179, .arr 32 zero32), (186, .tup [.arr 32 zero32, .v (.int .i64 0)]), (187, .tup [.arr 32 zero32, .v (.int .i64 0)]), (188, .v (.slice none 0 0)), (193, .v (.slice none 0 0)), (200, .tup [.v (.int .u64 0), .v (.int .u64 0), .v (.int .u64 0), .v (.int .u64 0), .v (.int .u64 0)]), (231, .tup [.v (.int .u64 0), .v (.int .u64 0), .v (.int .u64 0), .v (.int .u64 0), .v (.int .u64 0), .v (.int .u64 0), .v (.int .u64 0), .v (.int .u64 0), .v (.int .u64 0), .v (.int .u64 0), .v (.int .u64 0), .v (.int .u64 0), .v (.int .u64 0), .v (.int .u64 0), .v (.int .u64 0), .v (.int .u64 0), .v (.int .u64 0), .v (.int .u64 0), .v (.int .u64 0), .v (.int .u64 0), .v (.int .u64 0), .v (.int .u64 0), .v (.int .u64 0), .v (.int .u64 0), .v (.int .u64 0)]), (233, .v (.pointer none)), (235, .tup [.v (.slice none 0 0), .v (.slice none 0 0)]), (236, .tup [.v (.slice none 0 0), .v (.slice none 0 0)]), (237, .v (.pointer none)), (239, .tup [.v (.slice none 0 0), .v .nilIface]), (240, .tup [.v (.slice none 0 0), .v .nilIface]), (241, .v (.pointer none)), (242, .tup [.v .nilIface, .v .nilIface, .v .nilIface, .v .nilIface, .v .nilIface, .v .nilIface, .v .nilIface, .v .nilIface, .v .nilIface, .v .nilIface, .v .nilIface, .v .nilIface, .v .nilIface, .v .nilIface, .v .nilIface, .v .nilIface]), (243, .tup [.tup [.v .nilIface, .v .nilIface, .v .nilIface, .v .nilIface, .v .nilIface, .v .nilIface, .v .nilIface, .v .nilIface, .v .nilIface, .v .nilIface, .v .nilIface, .v .nilIface, .v .nilIface, .v .nilIface, .v .nilIface, .v .nilIface], .v (.slice none 0 0)]), (244, .tup [.tup [.v .nilIface, .v .nilIface, .v .nilIface, .v .nilIface, .v .nilIface, .v .nilIface, .v .nilIface, .v .nilIface, .v .nilIface, .v .nilIface, .v .nilIface, .v .nilIface, .v .nilIface, .v .nilIface, .v .nilIface, .v .nilIface], .v (.slice none 0 0)]), (247, .tup [.v (.slice none 0 0), .v (.slice none 0 0)]), (248, .tup [.v (.slice none 0 0), .v (.slice none 0 0)]), (264, .v (.pointer none)), (265, .tup [.v (.int .i64 0), .v (.int .i64 0), .v (.int .i64 0), .v (.int .i64 0), .v (.int .i64 0), .v (.int .i64 0), .v (.int .i64 0), .v (.int .i64 0), .v (.int .i64 0), .v (.int .i64 0), .v (.int .i64 0), .v (.int .i64 0), .v (.int .i64 0), .v (.int .i64 0), .v (.int .i64 0), .v (.int .i64 0), .v (.int .i64 0), .v (.int .i64 0), .v (.int .i64 0), .v (.int .i64 0), .v (.int .i64 0), .v (.int .i64 0), .v (.int .i64 0), .v (.int .i64 0), .v (.int .i64 0)]), (267, .tup [.v (.int .u64 0), .v (.int .u64 0), .v (.int .u64 0), .v (.int .u64 0), .v (.int .u64 0), .v (.int .u64 0), .v (.int .u64 0), .v (.int .u64 0), .v (.int .u64 0), .v (.int .u64 0), .v (.int .u64 0), .v (.int .u64 0), .v (.int .u64 0), .v (.int .u64 0), .v (.int .u64 0), .v (.int .u64 0), .v (.int .u64 0), .v (.int .u64 0), .v (.int .u64 0), .v (.int .u64 0), .v (.int .u64 0), .v (.int .u64 0), .v (.int .u64 0), .v (.int .u64 0)]), (270, .v (.pointer none)), (275, .v .nilIface), (286, .v (.int .i64 0)), (293, .v (.int .u32 0)), (302, .v (.int .u64 0)), (306, .v (.pointer none)), (311, .v (.pointer none)), (322, .tup []), (323, .tup [.tup []])]
theorem NT : NS iy := by
 repeat first | exact trivial | refine ⟨QM (by kernel_rfl) rfl, ?_⟩
def cnL : List Nat := [2, 3, 4, 5, 7, 9, 12, 13, 15, 16, 17, 18, 21, 22, 26, 28, 29, 30, 33, 38, 39, 40, 42, 43, 44, 46, 52, 53, 56, 61, 62, 64, 65, 76, 78, 79, 80, 81, 82, 83, 84, 85, 93, 99, 100, 101, 102, 103, 104, 105, 114, 117, 118, 119, 121, 122, 123, 124, 125, 129, 130, 131, 136, 137, 138, 143, 145, 146, 147, 148, 149, 153, 154, 155, 163, 166, 167, 179, 186, 187, 188, 193, 197, 200, 231, 233, 235, 236, 237, 239, 240, 241, 242, 243, 244, 247, 248, 264, 265, 267, 270, 286, 293, 302, 306, 311, 320, 322, 323, 331]
theorem UZ : (cnL.all fun x => cnB Tryz.prog x) = true := by kernel_rfl
def rX : List (Nat × Nat × Nat × Nat) := [(114, 29, 32, 38), (153, 29, 32, 3), (163, 29, 32, 4)]
theorem Ru : (rX.all fun x => Ul Tryz.prog x.1 == some x.2) = true := by kernel_rfl
def Uh : List Nat := [15, 16, 17, 42, 46, 62, 78, 100, 121, 122, 123, 147, 233, 237, 241, 264, 270, 306, 311]
theorem Ri : (Uh.all fun x => Vy Tryz.prog x) = true := by kernel_rfl
theorem TS : CW iy := by
 repeat first | exact trivial | refine ⟨Vk (by kernel_rfl) rfl, ?_⟩
def UW (N : Nat) (d : Option Tmp) : Bool :=
 match d with
 | some t => decide (t < N)
 | none => true
section
variable {N : Nat} {X : Cx N} {S S' : St} {a : Act} {w w' : World} {ops : Array Oper} {o : Oper} {Q : Exit → Act → World → Prop} {l : List Oper} {T : St → List Fr → Prop} {E : List Fr}
theorem UU (h : UW N o.dst = true) : ∀ t, o.dst = some t → t < N := fun t ht => by
 rw [ht] at h
 simpa [UW] using h
theorem tyI {T sz : Nat} {ag : Bool} (h : assoc tyL T = some (sz, ag)) : Ty Tryz.prog T sz ag := Vm (by
 have := Xk.1 TY _ (jK _ _ _ h)
 simpa using this)
theorem slI {T e z y : Nat} (h : assoc slL T = some (e, z, y)) : QB T e z := by
 have := Xk.1 Oh _ (jK _ _ _ h)
 exact Vt (y := y) (y' := z) (by simpa using this)
theorem Og {T e z y : Nat} (h : assoc slL T = some (e, z, y)) (h0 : Nat.blt 0 z = true) : SlT Tryz.prog T e z y := by
 have := Xk.1 Oh _ (jK _ _ _ h)
 exact Ub (by simpa using this) (by simpa using h0)
theorem U9 {T n e z : Nat} (h : assoc arL T = some (n, e, z)) : Tt T n e z := by
 have := Xk.1 U8 _ (jK _ _ _ h)
 exact V9 (by simpa using this)
theorem V3 {T k off sz : Nat} {ag : Bool} {l : List (Nat × Nat × Bool)} (h : assoc stL T = some l) (hk : l[k]? = some (off, sz, ag)) (h0 : Nat.blt 0 sz = true) : Fld Tryz.prog T k off sz ag := by
 have := Xk.1 Oe _ (jK _ _ _ h)
 exact Ua (by simpa using this) hk (by simpa using h0)
theorem stI {T : Nat} {l : List (Nat × Nat × Bool)} (h : assoc stL T = some l) : Td T (l.map fun x => (x.1, x.2.1)) := by
 have := Xk.1 Oe _ (jK _ _ _ h)
 exact Vq (by simpa using this)
theorem Es {T : Nat} {d : D} (h : assoc iy T = some d) : Zero T d := NS.get _ _ _ NT h
variable {rs : List (Tmp × R)} {os : List Obj} {fs : List (Value × D)}
theorem jf {t : Tmp} (hd : o.dst = some t) (hN : Nat.blt t N = true) : ∀ u, o.dst = some u → u < N := fun u hu => by
 rw [hd] at hu
 cases hu
 simpa using hN
theorem ES.still {t : Tmp} {r : R} (hO : Still ops ⟨rs, os, fs⟩ o r) (hg : guardOf ops ⟨rs, os, fs⟩ o = some true) (hd : o.dst = some t) (hN : Nat.blt t N = true) (k : EL X ops Q l ⟨(t, r) :: rs, os, fs⟩) : EL X ops Q (o :: l) ⟨rs, os, fs⟩ :=
 EL.still hg (jf hd hN) hO (by rw [hd]; exact k)
theorem ES.skip {t : Tmp} (hg : guardOf ops ⟨rs, os, fs⟩ o = some false) (hd : o.dst = some t) (hN : Nat.blt t N = true) (k : EL X ops Q l ⟨(t, .tpl []) :: rs, os, fs⟩) : EL X ops Q (o :: l) ⟨rs, os, fs⟩ := EL.skip hg (jf hd hN) (by rw [hd]; exact k)
theorem ES.alloc {t : Tmp} {T : TypeId} {d : D} (ho : o.op = .alloc T) (hz : assoc iy T = some d) (hg : guardOf ops ⟨rs, os, fs⟩ o = some true) (hd : o.dst = some t) (hN : Nat.blt t N = true)
  (k : ∀ g, EL X ops Q l ⟨(t, .val (.v (.pointer (some ⟨g, 0, none⟩)))) :: rs, .var g T d :: os, fs⟩) : EL X ops Q (o :: l) ⟨rs, os, fs⟩ := EL.alloc ho hg (jf hd hN) (Es hz) fun g => by rw [hd]; exact k g
theorem ES.box {t : Tmp} {T : TypeId} {x : Operand} {d : D} (ho : o.op = .box T x) (hx : ev ⟨rs, os, fs⟩ x = some (.val d)) (hg : guardOf ops ⟨rs, os, fs⟩ o = some true) (hd : o.dst = some t) (hN : Nat.blt t N = true)
  (k : ∀ g, EL X ops Q l ⟨(t, .val (.v (.pointer (some ⟨g, 0, none⟩)))) :: rs, .var g T d :: os, fs⟩) : EL X ops Q (o :: l) ⟨rs, os, fs⟩ := EL.box ho hg (jf hd hN) hx fun g => by rw [hd]; exact k g
theorem aj.refl (F : List (Value × D)) : ∀ ds : List D, aj F ds ds
 | [] => by rw [aj]
 | d :: ds => by
  rw [aj]
  refine ⟨d, ds, rfl, ?_, aj.refl F ds⟩
  exact Refine.refl F d
where Refine.refl (F : List (Value × D)) : ∀ d : D, Refine F d d
 | .v x => by rw [Refine]; exact .inl rfl
 | .tup ds => by rw [Refine]; exact ⟨ds, rfl, aj.refl F ds⟩
 | .arr n l => by rw [Refine]
 | .bs l => by rw [Refine]
 | .sl z ds => by rw [Refine]
 | .pd d => by rw [Refine]
 | .ifc t d => by rw [Refine]
theorem aj.yN {ok : Nat → Prop} {F : List (Value × D)} (hF : ∀ f ∈ F, Reads ok w f.2 [f.1]) : ∀ (ds l : List D) (xs : List Value), aj F ds l → fH ok w ds xs → fH ok w l xs
 | [], l, xs, h, hr => by rw [aj] at h; subst h; exact hr
 | d :: ds, l, xs, h, hr => by
  rw [aj] at h
  obtain ⟨d', ds', rfl, h1, h2⟩ := h
  obtain ⟨x, rest, rfl, h3, h4⟩ := hr
  exact ⟨x, rest, rfl, h1.kP hF h3, aj.yN hF ds ds' rest h2 h4⟩
theorem D5 {f : FuncId} {args : Array Operand} {tys : Array TypeId} {ds ds' : List D} {Φ : R → Prop} (hF : Fn f ds' Φ) (ho : o.op = .call { callee := .value (.func f), args := args, argTypes := tys }) (hx : evs S args.toList = some ds) (hf : Enters f) (hR : aj S.facts ds ds') : oN ops S o Φ := fun base ok a w ha => by
 have hr := aj.yN ha.facts _ _ _ hR (ha.evs _ _ hx fun t ht => aU (x := .tmp t) rfl (by rw [ho]; simp only [Op.operands, Call.operands]; simp; simpa using ht))
 have hrun : (execOp a.eval o).run Tryz.prog w = .ok (.enter f (args.map a.eval)) w := by
  unfold execOp
  simp [ho, resolve, Act.eval, Deferred.ofValue, invoke, hf (args.map a.eval) w]
 rw [hrun]
 refine ⟨Gr.refl w, ?_⟩
 have := hF.go ok w _ ha.lt hr
 have he : (args.toList.map a.eval).toArray = args.map a.eval := by
  apply Zc
  simp
 rw [he] at this
 refine this.mono ?_
 rintro e w' ⟨hg, v, r, rfl, hr, hv⟩
 exact ⟨v, rfl, hg, r, hr, hv⟩
theorem ES.call {t : Tmp} {f : FuncId} {args : Array Operand} {tys : Array TypeId} {ds ds' : List D} {r : R} (hF : Fn f ds' (· = r)) (ho : o.op = .call { callee := .value (.func f), args := args, argTypes := tys }) (hx : evs ⟨rs, os, fs⟩ args.toList = some ds) (hf : Enters f) (hR : aj fs ds ds') (hg : guardOf ops ⟨rs, os, fs⟩ o = some true) (hd : o.dst = some t) (hN : Nat.blt t N = true) (k : EL X ops Q l ⟨(t, r) :: rs, os, fs⟩) : EL X ops Q (o :: l) ⟨rs, os, fs⟩ :=
 EL.grow hg (jf hd hN) (D5 hF ho hx hf hR) (by rw [hd]; exact k)
theorem ES.V5 {t : Tmp} {f : FuncId} {args : Array Operand} {tys : Array TypeId} {ds ds' : List D} {Φ : R → Prop} (hF : Fn f ds' Φ) (ho : o.op = .call { callee := .value (.func f), args := args, argTypes := tys }) (hx : evs ⟨rs, os, fs⟩ args.toList = some ds) (hf : Enters f) (hR : aj fs ds ds') (hg : guardOf ops ⟨rs, os, fs⟩ o = some true) (hd : o.dst = some t) (hN : Nat.blt t N = true) (k : ∀ r, Φ r → EL X ops Q l ⟨(t, r) :: rs, os, fs⟩) : EL X ops Q (o :: l) ⟨rs, os, fs⟩ :=
 EL.growE hg (jf hd hN) (D5 hF ho hx hf hR) fun r hr => by rw [hd]; exact k r hr
theorem ES.grow {t : Tmp} {r : R} (hO : oN ops ⟨rs, os, fs⟩ o (· = r)) (hg : guardOf ops ⟨rs, os, fs⟩ o = some true) (hd : o.dst = some t) (hN : Nat.blt t N = true) (k : EL X ops Q l ⟨(t, r) :: rs, os, fs⟩) : EL X ops Q (o :: l) ⟨rs, os, fs⟩ := EL.grow hg (jf hd hN) hO (by rw [hd]; exact k)
theorem EH.still {t : Tmp} {r : R} (hO : Still ops ⟨rs, os, fs⟩ o r) (hg : guardOf ops ⟨rs, os, fs⟩ o = some true) (ht : o.dst = some t) (hd : fM N (some t) E = true) (k : EM N ops T l ⟨(t, r) :: rs, os, fs⟩ E) : EM N ops T (o :: l) ⟨rs, os, fs⟩ E := EM.still hg (by rw [ht]; exact hd) hO (by rw [ht]; exact k)
theorem EH.skip {t : Tmp} (hg : guardOf ops ⟨rs, os, fs⟩ o = some false) (ht : o.dst = some t) (hd : fM N (some t) E = true) (k : EM N ops T l ⟨(t, .tpl []) :: rs, os, fs⟩ E) : EM N ops T (o :: l) ⟨rs, os, fs⟩ E := EM.skip hg (by rw [ht]; exact hd) (by rw [ht]; exact k)
theorem EH.grow {t : Tmp} {r : R} (hO : oN ops ⟨rs, os, fs⟩ o (· = r)) (hg : guardOf ops ⟨rs, os, fs⟩ o = some true) (ht : o.dst = some t) (hd : fM N (some t) E = true) (k : EM N ops T l ⟨(t, r) :: rs, os, fs⟩ E) : EM N ops T (o :: l) ⟨rs, os, fs⟩ E := EM.grow hg (by rw [ht]; exact hd) hO (by rw [ht]; exact k)
theorem EH.call {t : Tmp} {f : FuncId} {args : Array Operand} {tys : Array TypeId} {ds ds' : List D} {r : R} (hF : Fn f ds' (· = r)) (ho : o.op = .call { callee := .value (.func f), args := args, argTypes := tys }) (hx : evs ⟨rs, os, fs⟩ args.toList = some ds) (hf : Enters f) (hR : aj fs ds ds') (hg : guardOf ops ⟨rs, os, fs⟩ o = some true) (ht : o.dst = some t) (hd : fM N (some t) E = true) (k : EM N ops T l ⟨(t, r) :: rs, os, fs⟩ E) : EM N ops T (o :: l) ⟨rs, os, fs⟩ E :=
 EM.grow hg (by rw [ht]; exact hd) (D5 hF ho hx hf hR) (by rw [ht]; exact k)
theorem EH.alloc {t : Tmp} {Ty : TypeId} {d : D} (ho : o.op = .alloc Ty) (hz : assoc iy Ty = some d) (ht : o.dst = some t) (hg : guardOf ops ⟨rs, os, fs⟩ o = some true) (hd : fM N (some t) E = true) (k : EM N ops T l ⟨(t, .any) :: rs, os, fs⟩ (E ++ [(t, Ty, d)])) : EM N ops T (o :: l) ⟨rs, os, fs⟩ E := EM.new hg ht hd (DJ ho (Es hz)) k
theorem EH.box {t : Tmp} {Ty : TypeId} {x : Operand} {d : D} (ho : o.op = .box Ty x) (hx : ev ⟨rs, os, fs⟩ x = some (.val d)) (ht : o.dst = some t) (hg : guardOf ops ⟨rs, os, fs⟩ o = some true) (hd : fM N (some t) E = true) (k : EM N ops T l ⟨(t, .any) :: rs, os, fs⟩ (E ++ [(t, Ty, d)])) : EM N ops T (o :: l) ⟨rs, os, fs⟩ E := EM.new hg ht hd (JL ho hx) k
theorem F9 {T : Nat} {parts : Array (Nat × Operand)} {l : List (Nat × Nat × Bool)} {d0 d : D} {ps : List (Nat × D)} (ho : o.op = .build T parts) (hx : rY S parts.toList = some ps) (hT : assoc stL T = some l) (hz : assoc iy T = some d0) (hd0 : d0.agg = true) (hf : sN (l.map fun x => (x.1, x.2.1)) d0 ps = some d) : Still ops S o (.val d) := RY ho hx (stI hT) (Es hz) hd0 hf
theorem Cj {T n e z : Nat} {d : D} (ho : o.op = .build T #[]) (hT : assoc arL T = some (n, e, z)) (hz : assoc iy T = some d) (hd : d.agg = true) : Still ops S o (.val d) := Pz ho (U9 hT) (Es hz) hd
def Ry (n z : Nat) : Bool := Nat.blt 0 n && Nat.blt 0 z && Nat.ble (n * z) 16777216
def allB (z : Nat) (ps : List (Nat × D)) : Bool := ps.all fun p => p.2.size == z
theorem uM {T e z y n : Nat} {parts : Array (Nat × Operand)} {ps : List (Nat × D)} {ds : List D} {d0 : D} (ho : o.op = .buildSlice T n parts) (hx : rY S parts.toList = some ps) (hT : assoc slL T = some (e, z, y)) (hz : assoc iy e = some d0) (hin : qJ 0 ps = some ds) (hsz : allB z ps = true) (hn : ps.length = n) (h0 : Ry n z = true) : oN ops S o (· = .val (.sl z ds)) := by
 simp only [Ry, XG, Nat.blt_eq, Nat.ble_eq] at h0
 exact FY ho hx (slI hT) (Es hz) hin (fun p hp => by simpa using Xk.1 hsz p hp) hn h0.1 h0.2
theorem F8 {x : Operand} {T k off sz g n : Nat} {ag : Bool} {l : List (Nat × Nat × Bool)} (ho : o.op = .fieldAddr T x k) (hx : ev S x = some (.val (.v (.pointer (some ⟨g, n, none⟩))))) (h : assoc stL T = some l) (hk : l[k]? = some (off, sz, ag)) (h0 : Nat.blt 0 sz = true) : Still ops S o (.val (.v (.pointer (some ⟨g, n + off, none⟩)))) := RU ho hx (V3 h hk h0)
theorem wZ {x : Operand} {T k off sz : Nat} {ag : Bool} {d d' : D} {l : List (Nat × Nat × Bool)} (ho : o.op = .fieldAddr T x k) (hx : ev S x = some (.val (.pd d))) (h : assoc stL T = some l) (hk : l[k]? = some (off, sz, ag)) (h0 : Nat.blt 0 sz = true) (hs : d.sub off sz ag = some d') : Still ops S o (.val (.pd d')) := I9 ho hx (V3 h hk h0) hs
theorem J3 {x : Operand} {T sz g n : Nat} {ag : Bool} {t : TypeId} {d d' : D} (i : Nat) (ho : o.op = .load T x) (hx : ev S x = some (.val (.v (.pointer (some ⟨g, n, none⟩))))) (hi : S.objs[i]? = some (.var g t d)) (hT : assoc tyL T = some (sz, ag)) (hs : d.sub n sz ag = some d') : Still ops S o (.val d') := UJ i ho hx hi (tyI hT) hs
theorem zC {x : Operand} {T sz : Nat} {ag : Bool} {d d' : D} (ho : o.op = .load T x) (hx : ev S x = some (.val (.pd d))) (hT : assoc tyL T = some (sz, ag)) (hs : d.sub 0 sz ag = some d') : Still ops S o (.val d') := Na ho hx (tyI hT) hs
theorem Py {x y : Operand} {T e z b : Nat} {k : Int} {ds : List D} (ho : o.op = .indexAddr T x y) (hx : ev S x = some (.val (.sl z ds))) (hy : ev S y = some (.val (.v (.int .i64 k)))) (hT : assoc slL T = some (e, z, b)) (hz : Nat.blt 0 z = true) (h0 : 0 ≤ k) (hk : k.toNat < ds.length) : Still ops S o (.val (.pd ds[k.toNat])) := RS ho hx hy (slI hT) (by simpa using hz) h0 hk
theorem F6 {x y : Operand} {T e b : Nat} {k : Int} {l : List UInt8} (ho : o.op = .indexAddr T x y) (hx : ev S x = some (.val (.bs l))) (hy : ev S y = some (.val (.v (.int .i64 k)))) (hT : assoc slL T = some (e, 1, b)) (h0 : 0 ≤ k) (hk : k.toNat < l.length) : Still ops S o (.val (.pd (.v (bv l[k.toNat])))) := I8 ho hx hy (slI hT) h0 hk
theorem Ce {x : Operand} {T e z y : Nat} {l : List UInt8} (ho : o.op = .call { callee := .builtin .len, args := #[x], argTypes := #[T] }) (hx : ev S x = some (.val (.bs l))) (hT : assoc slL T = some (e, z, y)) : Still ops S o (.val (.v (.int .i64 l.length))) := Px ho hx (slI hT).und
theorem Cc {x : Operand} {T e z y z' : Nat} {ds : List D} (ho : o.op = .call { callee := .builtin .len, args := #[x], argTypes := #[T] }) (hx : ev S x = some (.val (.sl z' ds))) (hT : assoc slL T = some (e, z, y)) : Still ops S o (.val (.v (.int .i64 ds.length))) := Pv ho hx (slI hT).und
theorem I7 {x : Operand} {T e n c z y : Nat} {A : Option Addr} (ho : o.op = .call { callee := .builtin .len, args := #[x], argTypes := #[T] }) (hx : ev S x = some (.val (.v (.slice A n c)))) (hT : assoc slL T = some (e, z, y)) : Still ops S o (.val (.v (.int .i64 n))) := Nc ho hx (slI hT).und
theorem IZ {x : Operand} {T e e' z z' y : Nat} {v : Value} {ds : List D} (i : Nat) (ho : o.op = .call { callee := .builtin .len, args := #[x], argTypes := #[T] }) (hx : ev S x = some (.val (.v v))) (hi : S.objs[i]? = some (.row v e' z ds)) (hT : assoc slL T = some (e, z', y)) : Still ops S o (.val (.v (.int .i64 ds.length))) := Nb i ho hx hi (slI hT).und
theorem ES.append {t : Tmp} {T e z y : Nat} {s x : Operand} {v : Value} {ds es : List D} (i : Nat) (ho : o.op = .call { callee := .builtin .append, args := #[s, x], argTypes := #[T, T] }) (hT : assoc slL T = some (e, z, y)) (hz : Nat.blt 0 z = true)
  (hs : ev ⟨rs, os, fs⟩ s = some (.val (.v v))) (hi : os[i]? = some (.row v e z ds)) (hx : ev ⟨rs, os, fs⟩ x = some (.val (.sl z es))) (hg : guardOf ops ⟨rs, os, fs⟩ o = some true) (hd : o.dst = some t) (hN : Nat.blt t N = true) (hlen : (ds.length + es.length) * y ≤ 140737488355328 ∧ ds.length + es.length ≤ 9223372036854775807)
  (k : ∀ v', EL X ops Q l ⟨(t, .val (.v v')) :: rs, os.set i (.row v' e z (ds ++ es)), fs⟩) : EL X ops Q (o :: l) ⟨rs, os, fs⟩ := EL.append i ho hg (jf hd hN) (Og hT hz) hs hi hx hlen fun v' => by rw [hd]; exact k v'
theorem EH.nil {l' : List Oper} {F : List Fr} (hF : F = []) (h : EL X ops Q l' S) : EM N ops (fun S' E => JJ (EL X ops Q l') E S') [] S F := by
 subst hF
 exact h
end
end E
end Go.Proofs.YtelbhdobjdnglaaGreat
