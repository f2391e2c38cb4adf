/-
  Merged (wip/tools/merge.py): ETy, E9.
  Conditions: none.
-/
import Derived.Test.YtdhicdnmgmkpkaaZS5
/-
  The program's types, as tables: sizes, elements, fields, zero values. (Printed by wip/tools/ety.py; each row is held against the program.)
  Conditions: none.
-/
namespace Go.Proofs.Ytdhicdnmgmkpkaa
open Go.RowKit Mono Rlp
namespace E
def tyL : List (Nat × Nat × Bool) := [(2, 1, false), (3, 1, false), (4, 1, false), (5, 1, false), (7, 4, true), (9, 1, false), (12, 1, false), (13, 2, true), (15, 1, false), (16, 1, false), (17, 1, false), (18, 1, true), (21, 1, false), (22, 20, true), (23, 20, true), (24, 32, true), (25, 32, true), (27, 1, false), (29, 1, false), (34, 1, false), (35, 1, false), (36, 55, true), (37, 55, true), (40, 1, false), (42, 1, false), (43, 1, false), (53, 1, false), (56, 65, true), (57, 65, true), (61, 1, false), (62, 1, false), (63, 1, false), (64, 4, true), (65, 4, true), (66, 1, false), (68, 1, false), (69, 35, true), (70, 35, true), (71, 64, true), (72, 64, true), (74, 1, false), (75, 3, true), (76, 3, true), (79, 52, true), (80, 52, true), (81, 1, false), (86, 2, true), (87, 2, true), (88, 1, false), (91, 1, false), (95, 1, false), (98, 1, false), (101, 84, true), (102, 84, true), (103, 1, false), (104, 21, true), (105, 21, true), (106, 21, true), (107, 21, true), (113, 1, false), (115, 1, false), (122, 56, true), (123, 56, true), (126, 1, false), (127, 4, true), (128, 4, true), (144, 21, true), (145, 21, true), (146, 33, true), (147, 33, true), (148, 1, false), (149, 33, true), (150, 33, true), (165, 1, false), (173, 1, false), (180, 1, false), (184, 1, false), (188, 1, false), (193, 4, true), (195, 0, true), (196, 0, true), (201, 1, false), (204, 11, true), (207, 2, true), (208, 2, true), (20, 1, false), (111, 1, false)]
theorem tyL_ok : (tyL.all fun x => tyB Try.prog x.1 == some x.2) = true := by kernel_rfl
def slL : List (Nat × Nat × Nat × Nat) := [(34, 5, 1, 1), (35, 72, 64, 64), (40, 37, 55, 112), (42, 3, 1, 8), (43, 40, 1, 24), (53, 123, 56, 112), (62, 111, 1, 16), (63, 87, 2, 16), (74, 208, 2, 32), (88, 23, 20, 20), (95, 25, 32, 32)]
theorem slL_ok : (slL.all fun x => slB Try.prog x.1 == some (x.2.1, x.2.2.1, x.2.2.2, x.2.2.1)) = true := by kernel_rfl
def arL : List (Nat × Nat × Nat × Nat) := [(22, 20, 5, 1), (23, 20, 5, 1), (24, 32, 5, 1), (25, 32, 5, 1), (127, 4, 126, 1), (128, 4, 126, 1), (195, 0, 16, 1)]
theorem arL_ok : (arL.all fun x => arB Try.prog x.1 == some x.2) = true := by kernel_rfl
def stL : List (Nat × List (Nat × Nat × Bool)) := [(7, [(0, 1, false), (1, 1, false), (2, 1, false), (3, 1, false)]), (13, [(0, 1, false), (1, 1, false)]), (18, [(0, 1, false)]), (36, [(0, 20, true), (20, 1, false), (21, 32, true), (53, 1, false), (54, 1, false)]), (37, [(0, 20, true), (20, 1, false), (21, 32, true), (53, 1, false), (54, 1, false)]), (56, [(0, 32, true), (32, 32, true), (64, 1, false)]), (57, [(0, 32, true), (32, 32, true), (64, 1, false)]), (64, [(0, 1, false), (1, 1, false), (2, 1, false), (3, 1, false)]), (65, [(0, 1, false), (1, 1, false), (2, 1, false), (3, 1, false)]), (69, [(0, 1, false), (1, 32, true), (33, 1, false), (34, 1, false)]), (70, [(0, 1, false), (1, 32, true), (33, 1, false), (34, 1, false)]), (71, [(0, 32, true), (32, 32, true)]), (72, [(0, 32, true), (32, 32, true)]), (75, [(0, 1, false), (1, 1, false), (2, 1, false)]), (76, [(0, 1, false), (1, 1, false), (2, 1, false)]), (79, [(0, 20, true), (20, 32, true)]), (80, [(0, 20, true), (20, 32, true)]), (86, [(0, 1, false), (1, 1, false)]), (87, [(0, 1, false), (1, 1, false)]), (101, [(0, 20, true), (20, 32, true), (52, 32, true)]), (102, [(0, 20, true), (20, 32, true), (52, 32, true)]), (104, [(0, 20, true), (20, 1, false)]), (105, [(0, 20, true), (20, 1, false)]), (106, [(0, 20, true), (20, 1, false)]), (107, [(0, 20, true), (20, 1, false)]), (122, [(0, 20, true), (20, 1, false), (21, 1, false), (22, 32, true), (54, 1, false), (55, 1, false)]), (123, [(0, 20, true), (20, 1, false), (21, 1, false), (22, 32, true), (54, 1, false), (55, 1, false)]), (144, [(0, 20, true), (20, 1, false)]), (145, [(0, 20, true), (20, 1, false)]), (146, [(0, 32, true), (32, 1, false)]), (147, [(0, 32, true), (32, 1, false)]), (149, [(0, 32, true), (32, 1, false)]), (150, [(0, 32, true), (32, 1, false)]), (193, [(0, 1, false), (1, 1, false), (2, 1, false), (3, 1, false)]), (196, [(0, 0, true)]), (204, [(0, 1, false), (1, 1, false), (2, 1, false), (3, 1, false), (4, 1, false), (5, 1, false), (6, 1, false), (7, 1, false), (8, 1, false), (9, 1, false), (10, 1, false)]), (207, [(0, 1, false), (1, 1, false)]), (208, [(0, 1, false), (1, 1, false)])]
theorem stL_ok : (stL.all fun x => stB Try.prog x.1 == some x.2) = true := by kernel_rfl
def zeroL : List (Nat × D) := [(2, .v (.int .i64 0)), (3, .v (.int .i64 0)), (4, .v (.bool false)), (5, .v (.int .u8 0)), (7, .tup [.v (.int .i64 0), .v (.int .i64 0), .v (.bool false), .v (.int .u8 0)]), (12, .v (.int .u64 0)), (15, .v (.pointer none)), (16, .v (.pointer none)), (17, .v (.pointer none)), (18, .tup [.v (.pointer none)]), (20, .v .nilIface), (21, .v (.int .i32 0)), (22, .arr 20 (List.replicate 20 0)), (23, .arr 20 (List.replicate 20 0)), (24, .arr 32 zero32), (25, .arr 32 zero32), (27, .v (.pointer none)), (29, .v (.pointer none)), (34, .v (.slice none 0 0)), (35, .v (.slice none 0 0)), (36, .tup [.arr 20 (List.replicate 20 0), .v (.int .i64 0), .arr 32 zero32, .v (.slice none 0 0), .v (.slice none 0 0)]), (37, .tup [.arr 20 (List.replicate 20 0), .v (.int .i64 0), .arr 32 zero32, .v (.slice none 0 0), .v (.slice none 0 0)]), (40, .v (.slice none 0 0)), (42, .v (.slice none 0 0)), (43, .v (.slice none 0 0)), (53, .v (.slice none 0 0)), (56, .tup [.arr 32 zero32, .arr 32 zero32, .v (.slice none 0 0)]), (57, .tup [.arr 32 zero32, .arr 32 zero32, .v (.slice none 0 0)]), (61, .v (.map none)), (62, .v (.slice none 0 0)), (63, .v (.slice none 0 0)), (64, .tup [.v (.map none), .v (.slice none 0 0), .v (.slice none 0 0), .v (.int .i64 0)]), (65, .tup [.v (.map none), .v (.slice none 0 0), .v (.slice none 0 0), .v (.int .i64 0)]), (66, .v (.pointer none)), (68, .v (.map none)), (69, .tup [.v (.int .i64 0), .arr 32 zero32, .v (.slice none 0 0), .v (.map none)]), (70, .tup [.v (.int .i64 0), .arr 32 zero32, .v (.slice none 0 0), .v (.map none)]), (71, .tup [.arr 32 zero32, .arr 32 zero32]), (72, .tup [.arr 32 zero32, .arr 32 zero32]), (74, .v (.slice none 0 0)), (75, .tup [.v (.slice none 0 0), .v (.slice none 0 0), .v (.int .i64 0)]), (76, .tup [.v (.slice none 0 0), .v (.slice none 0 0), .v (.int .i64 0)]), (79, .tup [.arr 20 (List.replicate 20 0), .arr 32 zero32]), (80, .tup [.arr 20 (List.replicate 20 0), .arr 32 zero32]), (81, .v (.pointer none)), (86, .tup [.v (.int .i64 0), .v (.int .i64 0)]), (87, .tup [.v (.int .i64 0), .v (.int .i64 0)]), (88, .v (.slice none 0 0)), (95, .v (.slice none 0 0)), (101, .tup [.arr 20 (List.replicate 20 0), .arr 32 zero32, .arr 32 zero32]), (102, .tup [.arr 20 (List.replicate 20 0), .arr 32 zero32, .arr 32 zero32]), (103, .v (.int .u64 0)), (104, .tup [.arr 20 (List.replicate 20 0), .v (.int .i64 0)]), (105, .tup [.arr 20 (List.replicate 20 0), .v (.int .i64 0)]), (106, .tup [.arr 20 (List.replicate 20 0), .v (.pointer none)]), (107, .tup [.arr 20 (List.replicate 20 0), .v (.pointer none)]), (111, .v .nilIface), (113, .v (.pointer none)), (115, .v (.int .i64 0)), (122, .tup [.arr 20 (List.replicate 20 0), .v (.bool false), .v (.int .i64 0), .arr 32 zero32, .v (.slice none 0 0), .v (.slice none 0 0)]), (123, .tup [.arr 20 (List.replicate 20 0), .v (.bool false), .v (.int .i64 0), .arr 32 zero32, .v (.slice none 0 0), .v (.slice none 0 0)]), (126, .v (.int .u64 0)), (127, .tup [.v (.int .u64 0), .v (.int .u64 0), .v (.int .u64 0), .v (.int .u64 0)]), (128, .tup [.v (.int .u64 0), .v (.int .u64 0), .v (.int .u64 0), .v (.int .u64 0)]), (144, .tup [.arr 20 (List.replicate 20 0), .v (.slice none 0 0)]), (145, .tup [.arr 20 (List.replicate 20 0), .v (.slice none 0 0)]), (146, .tup [.arr 32 zero32, .v (.slice none 0 0)]), (147, .tup [.arr 32 zero32, .v (.slice none 0 0)]), (148, .v (.map none)), (149, .tup [.arr 32 zero32, .v (.map none)]), (150, .tup [.arr 32 zero32, .v (.map none)]), (165, .v (.int .i64 0)), (173, .v (.int .u32 0)), (180, .v (.int .u64 0)), (184, .v (.pointer none)), (188, .v (.pointer none)), (195, .tup []), (196, .tup [.tup []]), (201, .v (.pointer none)), (207, .tup [.v (.int .i64 0), .v (.slice none 0 0)]), (208, .tup [.v (.int .i64 0), .v (.slice none 0 0)])]
theorem zeroT2 : Zero 2 (.v (.int .i64 0)) := zero_of (by kernel_rfl) rfl
theorem zeroT3 : Zero 3 (.v (.int .i64 0)) := zero_of (by kernel_rfl) rfl
theorem zeroT4 : Zero 4 (.v (.bool false)) := zero_of (by kernel_rfl) rfl
theorem zeroT5 : Zero 5 (.v (.int .u8 0)) := zero_of (by kernel_rfl) rfl
theorem zeroT7 : Zero 7 (.tup [.v (.int .i64 0), .v (.int .i64 0), .v (.bool false), .v (.int .u8 0)]) := zero_of (by kernel_rfl) rfl
theorem zeroT12 : Zero 12 (.v (.int .u64 0)) := zero_of (by kernel_rfl) rfl
theorem zeroT15 : Zero 15 (.v (.pointer none)) := zero_of (by kernel_rfl) rfl
theorem zeroT16 : Zero 16 (.v (.pointer none)) := zero_of (by kernel_rfl) rfl
theorem zeroT17 : Zero 17 (.v (.pointer none)) := zero_of (by kernel_rfl) rfl
theorem zeroT18 : Zero 18 (.tup [.v (.pointer none)]) := zero_of (by kernel_rfl) rfl
theorem zeroT20 : Zero 20 (.v .nilIface) := zero_of (by kernel_rfl) rfl
theorem zeroT21 : Zero 21 (.v (.int .i32 0)) := zero_of (by kernel_rfl) rfl
theorem zeroT22 : Zero 22 (.arr 20 (List.replicate 20 0)) := zero_of (by kernel_rfl) rfl
theorem zeroT23 : Zero 23 (.arr 20 (List.replicate 20 0)) := zero_of (by kernel_rfl) rfl
theorem zeroT24 : Zero 24 (.arr 32 zero32) := zero_of (by kernel_rfl) rfl
theorem zeroT25 : Zero 25 (.arr 32 zero32) := zero_of (by kernel_rfl) rfl
theorem zeroT27 : Zero 27 (.v (.pointer none)) := zero_of (by kernel_rfl) rfl
theorem zeroT29 : Zero 29 (.v (.pointer none)) := zero_of (by kernel_rfl) rfl
theorem zeroT34 : Zero 34 (.v (.slice none 0 0)) := zero_of (by kernel_rfl) rfl
theorem zeroT35 : Zero 35 (.v (.slice none 0 0)) := zero_of (by kernel_rfl) rfl
theorem zeroT36 : Zero 36 (.tup [.arr 20 (List.replicate 20 0), .v (.int .i64 0), .arr 32 zero32, .v (.slice none 0 0), .v (.slice none 0 0)]) := zero_of (by kernel_rfl) rfl
theorem zeroT37 : Zero 37 (.tup [.arr 20 (List.replicate 20 0), .v (.int .i64 0), .arr 32 zero32, .v (.slice none 0 0), .v (.slice none 0 0)]) := zero_of (by kernel_rfl) rfl
theorem zeroT40 : Zero 40 (.v (.slice none 0 0)) := zero_of (by kernel_rfl) rfl
theorem zeroT42 : Zero 42 (.v (.slice none 0 0)) := zero_of (by kernel_rfl) rfl
theorem zeroT43 : Zero 43 (.v (.slice none 0 0)) := zero_of (by kernel_rfl) rfl
theorem zeroT53 : Zero 53 (.v (.slice none 0 0)) := zero_of (by kernel_rfl) rfl
theorem zeroT56 : Zero 56 (.tup [.arr 32 zero32, .arr 32 zero32, .v (.slice none 0 0)]) := zero_of (by kernel_rfl) rfl
theorem zeroT57 : Zero 57 (.tup [.arr 32 zero32, .arr 32 zero32, .v (.slice none 0 0)]) := zero_of (by kernel_rfl) rfl
theorem zeroT61 : Zero 61 (.v (.map none)) := zero_of (by kernel_rfl) rfl
theorem zeroT62 : Zero 62 (.v (.slice none 0 0)) := zero_of (by kernel_rfl) rfl
theorem zeroT63 : Zero 63 (.v (.slice none 0 0)) := zero_of (by kernel_rfl) rfl
theorem zeroT64 : Zero 64 (.tup [.v (.map none), .v (.slice none 0 0), .v (.slice none 0 0), .v (.int .i64 0)]) := zero_of (by kernel_rfl) rfl
theorem zeroT65 : Zero 65 (.tup [.v (.map none), .v (.slice none 0 0), .v (.slice none 0 0), .v (.int .i64 0)]) := zero_of (by kernel_rfl) rfl
theorem zeroT66 : Zero 66 (.v (.pointer none)) := zero_of (by kernel_rfl) rfl
theorem zeroT68 : Zero 68 (.v (.map none)) := zero_of (by kernel_rfl) rfl
theorem zeroT69 : Zero 69 (.tup [.v (.int .i64 0), .arr 32 zero32, .v (.slice none 0 0), .v (.map none)]) := zero_of (by kernel_rfl) rfl
theorem zeroT70 : Zero 70 (.tup [.v (.int .i64 0), .arr 32 zero32, .v (.slice none 0 0), .v (.map none)]) := zero_of (by kernel_rfl) rfl
theorem zeroT71 : Zero 71 (.tup [.arr 32 zero32, .arr 32 zero32]) := zero_of (by kernel_rfl) rfl
theorem zeroT72 : Zero 72 (.tup [.arr 32 zero32, .arr 32 zero32]) := zero_of (by kernel_rfl) rfl
theorem zeroT74 : Zero 74 (.v (.slice none 0 0)) := zero_of (by kernel_rfl) rfl
theorem zeroT75 : Zero 75 (.tup [.v (.slice none 0 0), .v (.slice none 0 0), .v (.int .i64 0)]) := zero_of (by kernel_rfl) rfl
theorem zeroT76 : Zero 76 (.tup [.v (.slice none 0 0), .v (.slice none 0 0), .v (.int .i64 0)]) := zero_of (by kernel_rfl) rfl
theorem zeroT79 : Zero 79 (.tup [.arr 20 (List.replicate 20 0), .arr 32 zero32]) := zero_of (by kernel_rfl) rfl
theorem zeroT80 : Zero 80 (.tup [.arr 20 (List.replicate 20 0), .arr 32 zero32]) := zero_of (by kernel_rfl) rfl
theorem zeroT81 : Zero 81 (.v (.pointer none)) := zero_of (by kernel_rfl) rfl
theorem zeroT86 : Zero 86 (.tup [.v (.int .i64 0), .v (.int .i64 0)]) := zero_of (by kernel_rfl) rfl
theorem zeroT87 : Zero 87 (.tup [.v (.int .i64 0), .v (.int .i64 0)]) := zero_of (by kernel_rfl) rfl
theorem zeroT88 : Zero 88 (.v (.slice none 0 0)) := zero_of (by kernel_rfl) rfl
theorem zeroT95 : Zero 95 (.v (.slice none 0 0)) := zero_of (by kernel_rfl) rfl
theorem zeroT101 : Zero 101 (.tup [.arr 20 (List.replicate 20 0), .arr 32 zero32, .arr 32 zero32]) := zero_of (by kernel_rfl) rfl
theorem zeroT102 : Zero 102 (.tup [.arr 20 (List.replicate 20 0), .arr 32 zero32, .arr 32 zero32]) := zero_of (by kernel_rfl) rfl
theorem zeroT103 : Zero 103 (.v (.int .u64 0)) := zero_of (by kernel_rfl) rfl
theorem zeroT104 : Zero 104 (.tup [.arr 20 (List.replicate 20 0), .v (.int .i64 0)]) := zero_of (by kernel_rfl) rfl
theorem zeroT105 : Zero 105 (.tup [.arr 20 (List.replicate 20 0), .v (.int .i64 0)]) := zero_of (by kernel_rfl) rfl
theorem zeroT106 : Zero 106 (.tup [.arr 20 (List.replicate 20 0), .v (.pointer none)]) := zero_of (by kernel_rfl) rfl
theorem zeroT107 : Zero 107 (.tup [.arr 20 (List.replicate 20 0), .v (.pointer none)]) := zero_of (by kernel_rfl) rfl
theorem zeroT111 : Zero 111 (.v .nilIface) := zero_of (by kernel_rfl) rfl
theorem zeroT113 : Zero 113 (.v (.pointer none)) := zero_of (by kernel_rfl) rfl
theorem zeroT115 : Zero 115 (.v (.int .i64 0)) := zero_of (by kernel_rfl) rfl
theorem zeroT122 : Zero 122 (.tup [.arr 20 (List.replicate 20 0), .v (.bool false), .v (.int .i64 0), .arr 32 zero32, .v (.slice none 0 0), .v (.slice none 0 0)]) := zero_of (by kernel_rfl) rfl
theorem zeroT123 : Zero 123 (.tup [.arr 20 (List.replicate 20 0), .v (.bool false), .v (.int .i64 0), .arr 32 zero32, .v (.slice none 0 0), .v (.slice none 0 0)]) := zero_of (by kernel_rfl) rfl
theorem zeroT126 : Zero 126 (.v (.int .u64 0)) := zero_of (by kernel_rfl) rfl
theorem zeroT127 : Zero 127 (.tup [.v (.int .u64 0), .v (.int .u64 0), .v (.int .u64 0), .v (.int .u64 0)]) := zero_of (by kernel_rfl) rfl
theorem zeroT128 : Zero 128 (.tup [.v (.int .u64 0), .v (.int .u64 0), .v (.int .u64 0), .v (.int .u64 0)]) := zero_of (by kernel_rfl) rfl
theorem zeroT144 : Zero 144 (.tup [.arr 20 (List.replicate 20 0), .v (.slice none 0 0)]) := zero_of (by kernel_rfl) rfl
theorem zeroT145 : Zero 145 (.tup [.arr 20 (List.replicate 20 0), .v (.slice none 0 0)]) := zero_of (by kernel_rfl) rfl
theorem zeroT146 : Zero 146 (.tup [.arr 32 zero32, .v (.slice none 0 0)]) := zero_of (by kernel_rfl) rfl
theorem zeroT147 : Zero 147 (.tup [.arr 32 zero32, .v (.slice none 0 0)]) := zero_of (by kernel_rfl) rfl
theorem zeroT148 : Zero 148 (.v (.map none)) := zero_of (by kernel_rfl) rfl
theorem zeroT149 : Zero 149 (.tup [.arr 32 zero32, .v (.map none)]) := zero_of (by kernel_rfl) rfl
theorem zeroT150 : Zero 150 (.tup [.arr 32 zero32, .v (.map none)]) := zero_of (by kernel_rfl) rfl
theorem zeroT165 : Zero 165 (.v (.int .i64 0)) := zero_of (by kernel_rfl) rfl
theorem zeroT173 : Zero 173 (.v (.int .u32 0)) := zero_of (by kernel_rfl) rfl
theorem zeroT180 : Zero 180 (.v (.int .u64 0)) := zero_of (by kernel_rfl) rfl
theorem zeroT184 : Zero 184 (.v (.pointer none)) := zero_of (by kernel_rfl) rfl
theorem zeroT188 : Zero 188 (.v (.pointer none)) := zero_of (by kernel_rfl) rfl
theorem zeroT195 : Zero 195 (.tup []) := zero_of (by kernel_rfl) rfl
theorem zeroT196 : Zero 196 (.tup [.tup []]) := zero_of (by kernel_rfl) rfl
theorem zeroT201 : Zero 201 (.v (.pointer none)) := zero_of (by kernel_rfl) rfl
theorem zeroT207 : Zero 207 (.tup [.v (.int .i64 0), .v (.slice none 0 0)]) := zero_of (by kernel_rfl) rfl
theorem zeroT208 : Zero 208 (.tup [.v (.int .i64 0), .v (.slice none 0 0)]) := zero_of (by kernel_rfl) rfl
theorem zeroL_ok : AllZ zeroL := ⟨zeroT2, ⟨zeroT3, ⟨zeroT4, ⟨zeroT5, ⟨zeroT7, ⟨zeroT12, ⟨zeroT15, ⟨zeroT16, ⟨zeroT17, ⟨zeroT18, ⟨zeroT20, ⟨zeroT21, ⟨zeroT22, ⟨zeroT23, ⟨zeroT24, ⟨zeroT25, ⟨zeroT27, ⟨zeroT29, ⟨zeroT34, ⟨zeroT35, ⟨zeroT36, ⟨zeroT37, ⟨zeroT40, ⟨zeroT42, ⟨zeroT43, ⟨zeroT53, ⟨zeroT56, ⟨zeroT57, ⟨zeroT61, ⟨zeroT62, ⟨zeroT63, ⟨zeroT64, ⟨zeroT65, ⟨zeroT66, ⟨zeroT68, ⟨zeroT69, ⟨zeroT70, ⟨zeroT71, ⟨zeroT72, ⟨zeroT74, ⟨zeroT75, ⟨zeroT76, ⟨zeroT79, ⟨zeroT80, ⟨zeroT81, ⟨zeroT86, ⟨zeroT87, ⟨zeroT88, ⟨zeroT95, ⟨zeroT101, ⟨zeroT102, ⟨zeroT103, ⟨zeroT104, ⟨zeroT105, ⟨zeroT106, ⟨zeroT107, ⟨zeroT111, ⟨zeroT113, ⟨zeroT115, ⟨zeroT122, ⟨zeroT123, ⟨zeroT126, ⟨zeroT127, ⟨zeroT128, ⟨zeroT144, ⟨zeroT145, ⟨zeroT146, ⟨zeroT147, ⟨zeroT148, ⟨zeroT149, ⟨zeroT150, ⟨zeroT165, ⟨zeroT173, ⟨zeroT180, ⟨zeroT184, ⟨zeroT188, ⟨zeroT195, ⟨zeroT196, ⟨zeroT201, ⟨zeroT207, ⟨zeroT208, trivial⟩⟩⟩⟩⟩⟩⟩⟩⟩⟩⟩⟩⟩⟩⟩⟩⟩⟩⟩⟩⟩⟩⟩⟩⟩⟩⟩⟩⟩⟩⟩⟩⟩⟩⟩⟩⟩⟩⟩⟩⟩⟩⟩⟩⟩⟩⟩⟩⟩⟩⟩⟩⟩⟩⟩⟩⟩⟩⟩⟩⟩⟩⟩⟩⟩⟩⟩⟩⟩⟩⟩⟩⟩⟩⟩⟩⟩⟩⟩⟩⟩
def cnL : List Nat := [2, 3, 4, 5, 7, 9, 12, 13, 15, 16, 17, 18, 21, 22, 23, 24, 25, 27, 29, 34, 35, 36, 37, 40, 42, 43, 53, 56, 57, 61, 62, 63, 64, 65, 66, 68, 69, 70, 71, 72, 74, 75, 76, 79, 80, 81, 86, 87, 88, 91, 95, 98, 101, 102, 103, 104, 105, 106, 107, 113, 115, 122, 123, 126, 127, 128, 144, 145, 146, 147, 148, 149, 150, 165, 173, 180, 184, 188, 193, 195, 196, 201, 204, 207, 208]
theorem cnL_ok : (cnL.all fun x => cnB Try.prog x) = true := by kernel_rfl
def mapL : List (Nat × Nat × Nat × Nat) := [(61, 23, 20, 66), (68, 25, 32, 25), (148, 25, 32, 147)]
theorem mapL_ok : (mapL.all fun x => mapB Try.prog x.1 == some x.2) = true := by kernel_rfl
def ptrL : List Nat := [15, 16, 17, 27, 29, 66, 81, 113, 184, 188, 201]
theorem ptrL_ok : (ptrL.all fun x => ptrB Try.prog x) = true := by kernel_rfl
theorem zv2 : ZeroV 2 (.v (.int .i64 0)) := zv_of (by kernel_rfl) rfl
theorem zv3 : ZeroV 3 (.v (.int .i64 0)) := zv_of (by kernel_rfl) rfl
theorem zv4 : ZeroV 4 (.v (.bool false)) := zv_of (by kernel_rfl) rfl
theorem zv5 : ZeroV 5 (.v (.int .u8 0)) := zv_of (by kernel_rfl) rfl
theorem zv7 : ZeroV 7 (.tup [.v (.int .i64 0), .v (.int .i64 0), .v (.bool false), .v (.int .u8 0)]) := zv_of (by kernel_rfl) rfl
theorem zv12 : ZeroV 12 (.v (.int .u64 0)) := zv_of (by kernel_rfl) rfl
theorem zv15 : ZeroV 15 (.v (.pointer none)) := zv_of (by kernel_rfl) rfl
theorem zv16 : ZeroV 16 (.v (.pointer none)) := zv_of (by kernel_rfl) rfl
theorem zv17 : ZeroV 17 (.v (.pointer none)) := zv_of (by kernel_rfl) rfl
theorem zv18 : ZeroV 18 (.tup [.v (.pointer none)]) := zv_of (by kernel_rfl) rfl
theorem zv20 : ZeroV 20 (.v .nilIface) := zv_of (by kernel_rfl) rfl
theorem zv21 : ZeroV 21 (.v (.int .i32 0)) := zv_of (by kernel_rfl) rfl
theorem zv22 : ZeroV 22 (.arr 20 (List.replicate 20 0)) := zv_of (by kernel_rfl) rfl
theorem zv23 : ZeroV 23 (.arr 20 (List.replicate 20 0)) := zv_of (by kernel_rfl) rfl
theorem zv24 : ZeroV 24 (.arr 32 zero32) := zv_of (by kernel_rfl) rfl
theorem zv25 : ZeroV 25 (.arr 32 zero32) := zv_of (by kernel_rfl) rfl
theorem zv27 : ZeroV 27 (.v (.pointer none)) := zv_of (by kernel_rfl) rfl
theorem zv29 : ZeroV 29 (.v (.pointer none)) := zv_of (by kernel_rfl) rfl
theorem zv34 : ZeroV 34 (.v (.slice none 0 0)) := zv_of (by kernel_rfl) rfl
theorem zv35 : ZeroV 35 (.v (.slice none 0 0)) := zv_of (by kernel_rfl) rfl
theorem zv36 : ZeroV 36 (.tup [.arr 20 (List.replicate 20 0), .v (.int .i64 0), .arr 32 zero32, .v (.slice none 0 0), .v (.slice none 0 0)]) := zv_of (by kernel_rfl) rfl
theorem zv37 : ZeroV 37 (.tup [.arr 20 (List.replicate 20 0), .v (.int .i64 0), .arr 32 zero32, .v (.slice none 0 0), .v (.slice none 0 0)]) := zv_of (by kernel_rfl) rfl
theorem zv40 : ZeroV 40 (.v (.slice none 0 0)) := zv_of (by kernel_rfl) rfl
theorem zv42 : ZeroV 42 (.v (.slice none 0 0)) := zv_of (by kernel_rfl) rfl
theorem zv43 : ZeroV 43 (.v (.slice none 0 0)) := zv_of (by kernel_rfl) rfl
theorem zv53 : ZeroV 53 (.v (.slice none 0 0)) := zv_of (by kernel_rfl) rfl
theorem zv56 : ZeroV 56 (.tup [.arr 32 zero32, .arr 32 zero32, .v (.slice none 0 0)]) := zv_of (by kernel_rfl) rfl
theorem zv57 : ZeroV 57 (.tup [.arr 32 zero32, .arr 32 zero32, .v (.slice none 0 0)]) := zv_of (by kernel_rfl) rfl
theorem zv61 : ZeroV 61 (.v (.map none)) := zv_of (by kernel_rfl) rfl
theorem zv62 : ZeroV 62 (.v (.slice none 0 0)) := zv_of (by kernel_rfl) rfl
theorem zv63 : ZeroV 63 (.v (.slice none 0 0)) := zv_of (by kernel_rfl) rfl
theorem zv64 : ZeroV 64 (.tup [.v (.map none), .v (.slice none 0 0), .v (.slice none 0 0), .v (.int .i64 0)]) := zv_of (by kernel_rfl) rfl
theorem zv65 : ZeroV 65 (.tup [.v (.map none), .v (.slice none 0 0), .v (.slice none 0 0), .v (.int .i64 0)]) := zv_of (by kernel_rfl) rfl
theorem zv66 : ZeroV 66 (.v (.pointer none)) := zv_of (by kernel_rfl) rfl
theorem zv68 : ZeroV 68 (.v (.map none)) := zv_of (by kernel_rfl) rfl
theorem zv69 : ZeroV 69 (.tup [.v (.int .i64 0), .arr 32 zero32, .v (.slice none 0 0), .v (.map none)]) := zv_of (by kernel_rfl) rfl
theorem zv70 : ZeroV 70 (.tup [.v (.int .i64 0), .arr 32 zero32, .v (.slice none 0 0), .v (.map none)]) := zv_of (by kernel_rfl) rfl
theorem zv71 : ZeroV 71 (.tup [.arr 32 zero32, .arr 32 zero32]) := zv_of (by kernel_rfl) rfl
theorem zv72 : ZeroV 72 (.tup [.arr 32 zero32, .arr 32 zero32]) := zv_of (by kernel_rfl) rfl
theorem zv74 : ZeroV 74 (.v (.slice none 0 0)) := zv_of (by kernel_rfl) rfl
theorem zv75 : ZeroV 75 (.tup [.v (.slice none 0 0), .v (.slice none 0 0), .v (.int .i64 0)]) := zv_of (by kernel_rfl) rfl
theorem zv76 : ZeroV 76 (.tup [.v (.slice none 0 0), .v (.slice none 0 0), .v (.int .i64 0)]) := zv_of (by kernel_rfl) rfl
theorem zv79 : ZeroV 79 (.tup [.arr 20 (List.replicate 20 0), .arr 32 zero32]) := zv_of (by kernel_rfl) rfl
theorem zv80 : ZeroV 80 (.tup [.arr 20 (List.replicate 20 0), .arr 32 zero32]) := zv_of (by kernel_rfl) rfl
theorem zv81 : ZeroV 81 (.v (.pointer none)) := zv_of (by kernel_rfl) rfl
theorem zv86 : ZeroV 86 (.tup [.v (.int .i64 0), .v (.int .i64 0)]) := zv_of (by kernel_rfl) rfl
theorem zv87 : ZeroV 87 (.tup [.v (.int .i64 0), .v (.int .i64 0)]) := zv_of (by kernel_rfl) rfl
theorem zv88 : ZeroV 88 (.v (.slice none 0 0)) := zv_of (by kernel_rfl) rfl
theorem zv95 : ZeroV 95 (.v (.slice none 0 0)) := zv_of (by kernel_rfl) rfl
theorem zv101 : ZeroV 101 (.tup [.arr 20 (List.replicate 20 0), .arr 32 zero32, .arr 32 zero32]) := zv_of (by kernel_rfl) rfl
theorem zv102 : ZeroV 102 (.tup [.arr 20 (List.replicate 20 0), .arr 32 zero32, .arr 32 zero32]) := zv_of (by kernel_rfl) rfl
theorem zv103 : ZeroV 103 (.v (.int .u64 0)) := zv_of (by kernel_rfl) rfl
theorem zv104 : ZeroV 104 (.tup [.arr 20 (List.replicate 20 0), .v (.int .i64 0)]) := zv_of (by kernel_rfl) rfl
theorem zv105 : ZeroV 105 (.tup [.arr 20 (List.replicate 20 0), .v (.int .i64 0)]) := zv_of (by kernel_rfl) rfl
theorem zv106 : ZeroV 106 (.tup [.arr 20 (List.replicate 20 0), .v (.pointer none)]) := zv_of (by kernel_rfl) rfl
theorem zv107 : ZeroV 107 (.tup [.arr 20 (List.replicate 20 0), .v (.pointer none)]) := zv_of (by kernel_rfl) rfl
theorem zv111 : ZeroV 111 (.v .nilIface) := zv_of (by kernel_rfl) rfl
theorem zv113 : ZeroV 113 (.v (.pointer none)) := zv_of (by kernel_rfl) rfl
theorem zv115 : ZeroV 115 (.v (.int .i64 0)) := zv_of (by kernel_rfl) rfl
theorem zv122 : ZeroV 122 (.tup [.arr 20 (List.replicate 20 0), .v (.bool false), .v (.int .i64 0), .arr 32 zero32, .v (.slice none 0 0), .v (.slice none 0 0)]) := zv_of (by kernel_rfl) rfl
theorem zv123 : ZeroV 123 (.tup [.arr 20 (List.replicate 20 0), .v (.bool false), .v (.int .i64 0), .arr 32 zero32, .v (.slice none 0 0), .v (.slice none 0 0)]) := zv_of (by kernel_rfl) rfl
theorem zv126 : ZeroV 126 (.v (.int .u64 0)) := zv_of (by kernel_rfl) rfl
theorem zv127 : ZeroV 127 (.tup [.v (.int .u64 0), .v (.int .u64 0), .v (.int .u64 0), .v (.int .u64 0)]) := zv_of (by kernel_rfl) rfl
theorem zv128 : ZeroV 128 (.tup [.v (.int .u64 0), .v (.int .u64 0), .v (.int .u64 0), .v (.int .u64 0)]) := zv_of (by kernel_rfl) rfl
theorem zv144 : ZeroV 144 (.tup [.arr 20 (List.replicate 20 0), .v (.slice none 0 0)]) := zv_of (by kernel_rfl) rfl
theorem zv145 : ZeroV 145 (.tup [.arr 20 (List.replicate 20 0), .v (.slice none 0 0)]) := zv_of (by kernel_rfl) rfl
theorem zv146 : ZeroV 146 (.tup [.arr 32 zero32, .v (.slice none 0 0)]) := zv_of (by kernel_rfl) rfl
theorem zv147 : ZeroV 147 (.tup [.arr 32 zero32, .v (.slice none 0 0)]) := zv_of (by kernel_rfl) rfl
theorem zv148 : ZeroV 148 (.v (.map none)) := zv_of (by kernel_rfl) rfl
theorem zv149 : ZeroV 149 (.tup [.arr 32 zero32, .v (.map none)]) := zv_of (by kernel_rfl) rfl
theorem zv150 : ZeroV 150 (.tup [.arr 32 zero32, .v (.map none)]) := zv_of (by kernel_rfl) rfl
theorem zv165 : ZeroV 165 (.v (.int .i64 0)) := zv_of (by kernel_rfl) rfl
theorem zv173 : ZeroV 173 (.v (.int .u32 0)) := zv_of (by kernel_rfl) rfl
theorem zv180 : ZeroV 180 (.v (.int .u64 0)) := zv_of (by kernel_rfl) rfl
theorem zv184 : ZeroV 184 (.v (.pointer none)) := zv_of (by kernel_rfl) rfl
theorem zv188 : ZeroV 188 (.v (.pointer none)) := zv_of (by kernel_rfl) rfl
theorem zv195 : ZeroV 195 (.tup []) := zv_of (by kernel_rfl) rfl
theorem zv196 : ZeroV 196 (.tup [.tup []]) := zv_of (by kernel_rfl) rfl
theorem zv201 : ZeroV 201 (.v (.pointer none)) := zv_of (by kernel_rfl) rfl
theorem zv207 : ZeroV 207 (.tup [.v (.int .i64 0), .v (.slice none 0 0)]) := zv_of (by kernel_rfl) rfl
theorem zv208 : ZeroV 208 (.tup [.v (.int .i64 0), .v (.slice none 0 0)]) := zv_of (by kernel_rfl) rfl
theorem zvL_ok : AllZV zeroL := ⟨zv2, ⟨zv3, ⟨zv4, ⟨zv5, ⟨zv7, ⟨zv12, ⟨zv15, ⟨zv16, ⟨zv17, ⟨zv18, ⟨zv20, ⟨zv21, ⟨zv22, ⟨zv23, ⟨zv24, ⟨zv25, ⟨zv27, ⟨zv29, ⟨zv34, ⟨zv35, ⟨zv36, ⟨zv37, ⟨zv40, ⟨zv42, ⟨zv43, ⟨zv53, ⟨zv56, ⟨zv57, ⟨zv61, ⟨zv62, ⟨zv63, ⟨zv64, ⟨zv65, ⟨zv66, ⟨zv68, ⟨zv69, ⟨zv70, ⟨zv71, ⟨zv72, ⟨zv74, ⟨zv75, ⟨zv76, ⟨zv79, ⟨zv80, ⟨zv81, ⟨zv86, ⟨zv87, ⟨zv88, ⟨zv95, ⟨zv101, ⟨zv102, ⟨zv103, ⟨zv104, ⟨zv105, ⟨zv106, ⟨zv107, ⟨zv111, ⟨zv113, ⟨zv115, ⟨zv122, ⟨zv123, ⟨zv126, ⟨zv127, ⟨zv128, ⟨zv144, ⟨zv145, ⟨zv146, ⟨zv147, ⟨zv148, ⟨zv149, ⟨zv150, ⟨zv165, ⟨zv173, ⟨zv180, ⟨zv184, ⟨zv188, ⟨zv195, ⟨zv196, ⟨zv201, ⟨zv207, ⟨zv208, trivial⟩⟩⟩⟩⟩⟩⟩⟩⟩⟩⟩⟩⟩⟩⟩⟩⟩⟩⟩⟩⟩⟩⟩⟩⟩⟩⟩⟩⟩⟩⟩⟩⟩⟩⟩⟩⟩⟩⟩⟩⟩⟩⟩⟩⟩⟩⟩⟩⟩⟩⟩⟩⟩⟩⟩⟩⟩⟩⟩⟩⟩⟩⟩⟩⟩⟩⟩⟩⟩⟩⟩⟩⟩⟩⟩⟩⟩⟩⟩⟩⟩
end E
end Go.Proofs.Ytdhicdnmgmkpkaa
/-
  The abstract machine: the rules as the walk takes them.
  Conditions: none.
-/
namespace Go.Proofs.Ytdhicdnmgmkpkaa
set_option linter.unusedVariables false
open Go.RowKit Mono Rlp
namespace E
def dstB (N : Nat) (d : Option Tmp) : Bool :=
  match d with
  | some t => decide (t < N)
  | none => true
section
variable {N : Nat} {X : Cx N} {S S' : St} {a : Act} {w w' : World} {ops : Array Oper} {o : Oper} {Q : Exit → Act → World → Prop} {l : List Oper} {T : St → List Fr → Prop} {E : List Fr}
theorem dst_of (h : dstB N o.dst = true) : ∀ t, o.dst = some t → t < N := fun t ht => by
  rw [ht] at h
  simpa [dstB] using h
theorem tyI {T sz : Nat} {ag : Bool} (h : assoc tyL T = some (sz, ag)) : Ty Try.prog T sz ag := ty_of (by
  have := List.all_eq_true.1 tyL_ok _ (assoc_mem _ _ _ h)
  simpa using this)
theorem slI {T e z y : Nat} (h : assoc slL T = some (e, z, y)) : SlTy T e z := by
  have := List.all_eq_true.1 slL_ok _ (assoc_mem _ _ _ h)
  exact sl_of (y := y) (y' := z) (by simpa using this)
theorem slTI {T e z y : Nat} (h : assoc slL T = some (e, z, y)) (h0 : Nat.blt 0 z = true) : SlT Try.prog T e z y := by
  have := List.all_eq_true.1 slL_ok _ (assoc_mem _ _ _ h)
  exact slT_of (by simpa using this) (by simpa using h0)
theorem arI' {T n e z : Nat} (h : assoc arL T = some (n, e, z)) : ArTy T n e z := by
  have := List.all_eq_true.1 arL_ok _ (assoc_mem _ _ _ h)
  exact ar_of (by simpa using this)
theorem fldI {T k off sz : Nat} {ag : Bool} {l : List (Nat × Nat × Bool)} (h : assoc stL T = some l) (hk : l[k]? = some (off, sz, ag)) (h0 : Nat.blt 0 sz = true) : Fld Try.prog T k off sz ag := by
  have := List.all_eq_true.1 stL_ok _ (assoc_mem _ _ _ h)
  exact st_fld (by simpa using this) hk (by simpa using h0)
theorem stI {T : Nat} {l : List (Nat × Nat × Bool)} (h : assoc stL T = some l) : StTy T (l.map fun x => (x.1, x.2.1)) := by
  have := List.all_eq_true.1 stL_ok _ (assoc_mem _ _ _ h)
  exact st_of (by simpa using this)
theorem zeroI {T : Nat} {d : D} (h : assoc zeroL T = some d) : Zero T d := AllZ.get _ _ _ zeroL_ok h
variable {rs : List (Tmp × R)} {os : List Obj} {fs : List (Value × D)}
theorem dst_lt {t : Tmp} (hd : o.dst = some t) (hN : Nat.blt t N = true) : ∀ u, o.dst = some u → u < N := fun u hu => by
  rw [hd] at hu
  cases hu
  simpa using hN
theorem ES.still {t : Tmp} {r : R} (hO : Still ops ⟨rs, os, fs⟩ o r) (hg : guardOf ops ⟨rs, os, fs⟩ o = some true) (hd : o.dst = some t) (hN : Nat.blt t N = true) (k : EL X ops Q l ⟨(t, r) :: rs, os, fs⟩) : EL X ops Q (o :: l) ⟨rs, os, fs⟩ :=
  EL.still hg (dst_lt hd hN) hO (by rw [hd]; exact k)
theorem ES.skip {t : Tmp} (hg : guardOf ops ⟨rs, os, fs⟩ o = some false) (hd : o.dst = some t) (k : EL X ops Q l ⟨(t, .any) :: rs, os, fs⟩) : EL X ops Q (o :: l) ⟨rs, os, fs⟩ := EL.skip hg (by rw [hd]; exact k)
theorem ES.alloc {t : Tmp} {T : TypeId} {d : D} (ho : o.op = .alloc T) (hz : assoc zeroL T = some d) (hg : guardOf ops ⟨rs, os, fs⟩ o = some true) (hd : o.dst = some t) (hN : Nat.blt t N = true)
    (k : ∀ g, EL X ops Q l ⟨(t, .val (.v (.pointer (some ⟨g, 0, none⟩)))) :: rs, .var g T d :: os, fs⟩) : EL X ops Q (o :: l) ⟨rs, os, fs⟩ := EL.alloc ho hg (dst_lt hd hN) (zeroI hz) fun g => by rw [hd]; exact k g
theorem ES.box {t : Tmp} {T : TypeId} {x : Operand} {d : D} (ho : o.op = .box T x) (hx : ev ⟨rs, os, fs⟩ x = some (.val d)) (hg : guardOf ops ⟨rs, os, fs⟩ o = some true) (hd : o.dst = some t) (hN : Nat.blt t N = true)
    (k : ∀ g, EL X ops Q l ⟨(t, .val (.v (.pointer (some ⟨g, 0, none⟩)))) :: rs, .var g T d :: os, fs⟩) : EL X ops Q (o :: l) ⟨rs, os, fs⟩ := EL.box ho hg (dst_lt hd hN) hx fun g => by rw [hd]; exact k g
theorem ES.store0 {T g n : Nat} {x y : Operand} {t : TypeId} {d d' d'' : D} (ho : o.op = .store T x y) (hx : ev ⟨rs, .var g t d :: os, fs⟩ x = some (.val (.v (.pointer (some ⟨g, n, none⟩))))) (hy : ev ⟨rs, .var g t d :: os, fs⟩ y = some (.val d'))
    (hT : assoc tyL T = some (d'.size, d'.agg)) (hu : d.upd n d' = some d'') (hdst : o.dst = none) (hg : guardOf ops ⟨rs, .var g t d :: os, fs⟩ o = some true) (k : EL X ops Q l ⟨rs, .var g t d'' :: os, fs⟩) : EL X ops Q (o :: l) ⟨rs, .var g t d :: os, fs⟩ := EL.store (t := t) (d := d) 0 ho hdst hg hx rfl hy (tyI hT) hu k
theorem ES.store1 {T g n : Nat} {x y : Operand} {t : TypeId} {d d' d'' : D} {o0 : Obj} (ho : o.op = .store T x y) (hx : ev ⟨rs, o0 :: .var g t d :: os, fs⟩ x = some (.val (.v (.pointer (some ⟨g, n, none⟩))))) (hy : ev ⟨rs, o0 :: .var g t d :: os, fs⟩ y = some (.val d'))
    (hT : assoc tyL T = some (d'.size, d'.agg)) (hu : d.upd n d' = some d'') (hdst : o.dst = none) (hg : guardOf ops ⟨rs, o0 :: .var g t d :: os, fs⟩ o = some true) (k : EL X ops Q l ⟨rs, o0 :: .var g t d'' :: os, fs⟩) : EL X ops Q (o :: l) ⟨rs, o0 :: .var g t d :: os, fs⟩ := EL.store (t := t) (d := d) 1 ho hdst hg hx rfl hy (tyI hT) hu k
theorem ES.store2 {T g n : Nat} {x y : Operand} {t : TypeId} {d d' d'' : D} {o0 : Obj} {o1 : Obj} (ho : o.op = .store T x y) (hx : ev ⟨rs, o0 :: o1 :: .var g t d :: os, fs⟩ x = some (.val (.v (.pointer (some ⟨g, n, none⟩))))) (hy : ev ⟨rs, o0 :: o1 :: .var g t d :: os, fs⟩ y = some (.val d'))
    (hT : assoc tyL T = some (d'.size, d'.agg)) (hu : d.upd n d' = some d'') (hdst : o.dst = none) (hg : guardOf ops ⟨rs, o0 :: o1 :: .var g t d :: os, fs⟩ o = some true) (k : EL X ops Q l ⟨rs, o0 :: o1 :: .var g t d'' :: os, fs⟩) : EL X ops Q (o :: l) ⟨rs, o0 :: o1 :: .var g t d :: os, fs⟩ := EL.store (t := t) (d := d) 2 ho hdst hg hx rfl hy (tyI hT) hu k
theorem ES.store3 {T g n : Nat} {x y : Operand} {t : TypeId} {d d' d'' : D} {o0 : Obj} {o1 : Obj} {o2 : Obj} (ho : o.op = .store T x y) (hx : ev ⟨rs, o0 :: o1 :: o2 :: .var g t d :: os, fs⟩ x = some (.val (.v (.pointer (some ⟨g, n, none⟩))))) (hy : ev ⟨rs, o0 :: o1 :: o2 :: .var g t d :: os, fs⟩ y = some (.val d'))
    (hT : assoc tyL T = some (d'.size, d'.agg)) (hu : d.upd n d' = some d'') (hdst : o.dst = none) (hg : guardOf ops ⟨rs, o0 :: o1 :: o2 :: .var g t d :: os, fs⟩ o = some true) (k : EL X ops Q l ⟨rs, o0 :: o1 :: o2 :: .var g t d'' :: os, fs⟩) : EL X ops Q (o :: l) ⟨rs, o0 :: o1 :: o2 :: .var g t d :: os, fs⟩ := EL.store (t := t) (d := d) 3 ho hdst hg hx rfl hy (tyI hT) hu k
theorem ES.store4 {T g n : Nat} {x y : Operand} {t : TypeId} {d d' d'' : D} {o0 : Obj} {o1 : Obj} {o2 : Obj} {o3 : Obj} (ho : o.op = .store T x y) (hx : ev ⟨rs, o0 :: o1 :: o2 :: o3 :: .var g t d :: os, fs⟩ x = some (.val (.v (.pointer (some ⟨g, n, none⟩))))) (hy : ev ⟨rs, o0 :: o1 :: o2 :: o3 :: .var g t d :: os, fs⟩ y = some (.val d'))
    (hT : assoc tyL T = some (d'.size, d'.agg)) (hu : d.upd n d' = some d'') (hdst : o.dst = none) (hg : guardOf ops ⟨rs, o0 :: o1 :: o2 :: o3 :: .var g t d :: os, fs⟩ o = some true) (k : EL X ops Q l ⟨rs, o0 :: o1 :: o2 :: o3 :: .var g t d'' :: os, fs⟩) : EL X ops Q (o :: l) ⟨rs, o0 :: o1 :: o2 :: o3 :: .var g t d :: os, fs⟩ := EL.store (t := t) (d := d) 4 ho hdst hg hx rfl hy (tyI hT) hu k
theorem ES.store5 {T g n : Nat} {x y : Operand} {t : TypeId} {d d' d'' : D} {o0 : Obj} {o1 : Obj} {o2 : Obj} {o3 : Obj} {o4 : Obj} (ho : o.op = .store T x y) (hx : ev ⟨rs, o0 :: o1 :: o2 :: o3 :: o4 :: .var g t d :: os, fs⟩ x = some (.val (.v (.pointer (some ⟨g, n, none⟩))))) (hy : ev ⟨rs, o0 :: o1 :: o2 :: o3 :: o4 :: .var g t d :: os, fs⟩ y = some (.val d'))
    (hT : assoc tyL T = some (d'.size, d'.agg)) (hu : d.upd n d' = some d'') (hdst : o.dst = none) (hg : guardOf ops ⟨rs, o0 :: o1 :: o2 :: o3 :: o4 :: .var g t d :: os, fs⟩ o = some true) (k : EL X ops Q l ⟨rs, o0 :: o1 :: o2 :: o3 :: o4 :: .var g t d'' :: os, fs⟩) : EL X ops Q (o :: l) ⟨rs, o0 :: o1 :: o2 :: o3 :: o4 :: .var g t d :: os, fs⟩ := EL.store (t := t) (d := d) 5 ho hdst hg hx rfl hy (tyI hT) hu k
theorem ES.store6 {T g n : Nat} {x y : Operand} {t : TypeId} {d d' d'' : D} {o0 : Obj} {o1 : Obj} {o2 : Obj} {o3 : Obj} {o4 : Obj} {o5 : Obj} (ho : o.op = .store T x y) (hx : ev ⟨rs, o0 :: o1 :: o2 :: o3 :: o4 :: o5 :: .var g t d :: os, fs⟩ x = some (.val (.v (.pointer (some ⟨g, n, none⟩))))) (hy : ev ⟨rs, o0 :: o1 :: o2 :: o3 :: o4 :: o5 :: .var g t d :: os, fs⟩ y = some (.val d'))
    (hT : assoc tyL T = some (d'.size, d'.agg)) (hu : d.upd n d' = some d'') (hdst : o.dst = none) (hg : guardOf ops ⟨rs, o0 :: o1 :: o2 :: o3 :: o4 :: o5 :: .var g t d :: os, fs⟩ o = some true) (k : EL X ops Q l ⟨rs, o0 :: o1 :: o2 :: o3 :: o4 :: o5 :: .var g t d'' :: os, fs⟩) : EL X ops Q (o :: l) ⟨rs, o0 :: o1 :: o2 :: o3 :: o4 :: o5 :: .var g t d :: os, fs⟩ := EL.store (t := t) (d := d) 6 ho hdst hg hx rfl hy (tyI hT) hu k
theorem ES.store7 {T g n : Nat} {x y : Operand} {t : TypeId} {d d' d'' : D} {o0 : Obj} {o1 : Obj} {o2 : Obj} {o3 : Obj} {o4 : Obj} {o5 : Obj} {o6 : Obj} (ho : o.op = .store T x y) (hx : ev ⟨rs, o0 :: o1 :: o2 :: o3 :: o4 :: o5 :: o6 :: .var g t d :: os, fs⟩ x = some (.val (.v (.pointer (some ⟨g, n, none⟩))))) (hy : ev ⟨rs, o0 :: o1 :: o2 :: o3 :: o4 :: o5 :: o6 :: .var g t d :: os, fs⟩ y = some (.val d'))
    (hT : assoc tyL T = some (d'.size, d'.agg)) (hu : d.upd n d' = some d'') (hdst : o.dst = none) (hg : guardOf ops ⟨rs, o0 :: o1 :: o2 :: o3 :: o4 :: o5 :: o6 :: .var g t d :: os, fs⟩ o = some true) (k : EL X ops Q l ⟨rs, o0 :: o1 :: o2 :: o3 :: o4 :: o5 :: o6 :: .var g t d'' :: os, fs⟩) : EL X ops Q (o :: l) ⟨rs, o0 :: o1 :: o2 :: o3 :: o4 :: o5 :: o6 :: .var g t d :: os, fs⟩ := EL.store (t := t) (d := d) 7 ho hdst hg hx rfl hy (tyI hT) hu k
theorem RefineL.refl (F : List (Value × D)) : ∀ ds : List D, RefineL F ds ds
  | [] => by rw [RefineL]
  | d :: ds => by
    rw [RefineL]
    refine ⟨d, ds, rfl, ?_, RefineL.refl F ds⟩
    exact Refine.refl F d
where Refine.refl (F : List (Value × D)) : ∀ d : D, Refine F d d
  | .v x => by rw [Refine]; exact .inl rfl
  | .tup ds => by rw [Refine]; exact ⟨ds, rfl, RefineL.refl F ds⟩
  | .arr n l => by rw [Refine]
  | .bs l => by rw [Refine]
  | .sl z ds => by rw [Refine]
  | .pd d => by rw [Refine]
  | .ifc t d => by rw [Refine]
theorem RefineL.readVs {ok : Nat → Prop} {F : List (Value × D)} (hF : ∀ f ∈ F, Reads ok w f.2 [f.1]) : ∀ (ds l : List D) (xs : List Value), RefineL F ds l → ReadVs ok w ds xs → ReadVs ok w l xs
  | [], l, xs, h, hr => by rw [RefineL] at h; subst h; exact hr
  | d :: ds, l, xs, h, hr => by
    rw [RefineL] at h
    obtain ⟨d', ds', rfl, h1, h2⟩ := h
    obtain ⟨x, rest, rfl, h3, h4⟩ := hr
    exact ⟨x, rest, rfl, h1.readV hF h3, RefineL.readVs hF ds ds' rest h2 h4⟩
theorem g_callR {f : FuncId} {args : Array Operand} {tys : Array TypeId} {ds ds' : List D} {Φ : R → Prop} (hF : Fn f ds' Φ) (ho : o.op = .call { callee := .value (.func f), args := args, argTypes := tys }) (hx : evs S args.toList = some ds) (hf : Enters f) (hR : RefineL S.facts ds ds') : Grows ops S o Φ := fun base ok a w ha => by
  have hr := RefineL.readVs ha.facts _ _ _ hR (ha.evs _ _ hx fun t ht => looks_of (x := .tmp t) rfl (by rw [ho]; simp only [Op.operands, Call.operands]; simp; simpa using ht))
  have hrun : (execOp a.eval o).run Try.prog w = .ok (.enter f (args.map a.eval)) w := by
    unfold execOp
    simp [ho, resolve, Act.eval, Deferred.ofValue, invoke, hf (args.map a.eval) w]
  rw [hrun]
  refine ⟨Gr.refl w, ?_⟩
  have := hF.go ok w _ ha.lt hr
  have he : (args.toList.map a.eval).toArray = args.map a.eval := by
    apply Array.ext'
    simp
  rw [he] at this
  refine this.mono ?_
  rintro e w' ⟨hg, v, r, rfl, hr, hv⟩
  exact ⟨v, rfl, hg, r, hr, hv⟩
theorem ES.call {t : Tmp} {f : FuncId} {args : Array Operand} {tys : Array TypeId} {ds ds' : List D} {r : R} (hF : Fn f ds' (· = r)) (ho : o.op = .call { callee := .value (.func f), args := args, argTypes := tys }) (hx : evs ⟨rs, os, fs⟩ args.toList = some ds) (hf : Enters f) (hR : RefineL fs ds ds') (hg : guardOf ops ⟨rs, os, fs⟩ o = some true) (hd : o.dst = some t) (hN : Nat.blt t N = true) (k : EL X ops Q l ⟨(t, r) :: rs, os, fs⟩) : EL X ops Q (o :: l) ⟨rs, os, fs⟩ :=
  EL.grow hg (dst_lt hd hN) (g_callR hF ho hx hf hR) (by rw [hd]; exact k)
theorem ES.callE {t : Tmp} {f : FuncId} {args : Array Operand} {tys : Array TypeId} {ds ds' : List D} {Φ : R → Prop} (hF : Fn f ds' Φ) (ho : o.op = .call { callee := .value (.func f), args := args, argTypes := tys }) (hx : evs ⟨rs, os, fs⟩ args.toList = some ds) (hf : Enters f) (hR : RefineL fs ds ds') (hg : guardOf ops ⟨rs, os, fs⟩ o = some true) (hd : o.dst = some t) (hN : Nat.blt t N = true) (k : ∀ r, Φ r → EL X ops Q l ⟨(t, r) :: rs, os, fs⟩) : EL X ops Q (o :: l) ⟨rs, os, fs⟩ :=
  EL.growE hg (dst_lt hd hN) (g_callR hF ho hx hf hR) fun r hr => by rw [hd]; exact k r hr
theorem ES.grow {t : Tmp} {r : R} (hO : Grows ops ⟨rs, os, fs⟩ o (· = r)) (hg : guardOf ops ⟨rs, os, fs⟩ o = some true) (hd : o.dst = some t) (hN : Nat.blt t N = true) (k : EL X ops Q l ⟨(t, r) :: rs, os, fs⟩) : EL X ops Q (o :: l) ⟨rs, os, fs⟩ := EL.grow hg (dst_lt hd hN) hO (by rw [hd]; exact k)
theorem EH.still {t : Tmp} {r : R} (hO : Still ops ⟨rs, os, fs⟩ o r) (hg : guardOf ops ⟨rs, os, fs⟩ o = some true) (ht : o.dst = some t) (hd : offB N (some t) E = true) (k : EM N ops T l ⟨(t, r) :: rs, os, fs⟩ E) : EM N ops T (o :: l) ⟨rs, os, fs⟩ E := EM.still hg (by rw [ht]; exact hd) hO (by rw [ht]; exact k)
theorem EH.skip {t : Tmp} (hg : guardOf ops ⟨rs, os, fs⟩ o = some false) (ht : o.dst = some t) (hd : offB N (some t) E = true) (k : EM N ops T l ⟨(t, .any) :: rs, os, fs⟩ E) : EM N ops T (o :: l) ⟨rs, os, fs⟩ E := EM.skip hg (by rw [ht]; exact hd) (by rw [ht]; exact k)
theorem EH.grow {t : Tmp} {r : R} (hO : Grows ops ⟨rs, os, fs⟩ o (· = r)) (hg : guardOf ops ⟨rs, os, fs⟩ o = some true) (ht : o.dst = some t) (hd : offB N (some t) E = true) (k : EM N ops T l ⟨(t, r) :: rs, os, fs⟩ E) : EM N ops T (o :: l) ⟨rs, os, fs⟩ E := EM.grow hg (by rw [ht]; exact hd) hO (by rw [ht]; exact k)
theorem EH.call {t : Tmp} {f : FuncId} {args : Array Operand} {tys : Array TypeId} {ds ds' : List D} {r : R} (hF : Fn f ds' (· = r)) (ho : o.op = .call { callee := .value (.func f), args := args, argTypes := tys }) (hx : evs ⟨rs, os, fs⟩ args.toList = some ds) (hf : Enters f) (hR : RefineL fs ds ds') (hg : guardOf ops ⟨rs, os, fs⟩ o = some true) (ht : o.dst = some t) (hd : offB N (some t) E = true) (k : EM N ops T l ⟨(t, r) :: rs, os, fs⟩ E) : EM N ops T (o :: l) ⟨rs, os, fs⟩ E :=
  EM.grow hg (by rw [ht]; exact hd) (g_callR hF ho hx hf hR) (by rw [ht]; exact k)
theorem EH.alloc {t : Tmp} {Ty : TypeId} {d : D} (ho : o.op = .alloc Ty) (hz : assoc zeroL Ty = some d) (ht : o.dst = some t) (hg : guardOf ops ⟨rs, os, fs⟩ o = some true) (hd : offB N (some t) E = true) (k : EM N ops T l ⟨(t, .any) :: rs, os, fs⟩ (E ++ [(t, Ty, d)])) : EM N ops T (o :: l) ⟨rs, os, fs⟩ E := EM.new hg ht hd (n_alloc ho (zeroI hz)) k
theorem EH.box {t : Tmp} {Ty : TypeId} {x : Operand} {d : D} (ho : o.op = .box Ty x) (hx : ev ⟨rs, os, fs⟩ x = some (.val d)) (ht : o.dst = some t) (hg : guardOf ops ⟨rs, os, fs⟩ o = some true) (hd : offB N (some t) E = true) (k : EM N ops T l ⟨(t, .any) :: rs, os, fs⟩ (E ++ [(t, Ty, d)])) : EM N ops T (o :: l) ⟨rs, os, fs⟩ E := EM.new hg ht hd (n_box ho hx) k
theorem g_buildI {T : Nat} {parts : Array (Nat × Operand)} {l : List (Nat × Nat × Bool)} {d0 d : D} {ps : List (Nat × D)} (ho : o.op = .build T parts) (hx : evps S parts.toList = some ps) (hT : assoc stL T = some l) (hz : assoc zeroL T = some d0) (hd0 : d0.agg = true) (hf : fillD (l.map fun x => (x.1, x.2.1)) d0 ps = some d) : Still ops S o (.val d) := g_build ho hx (stI hT) (zeroI hz) hd0 hf
theorem g_build0I {T n e z : Nat} {d : D} (ho : o.op = .build T #[]) (hT : assoc arL T = some (n, e, z)) (hz : assoc zeroL T = some d) (hd : d.agg = true) : Still ops S o (.val d) := g_build0 ho (arI' hT) (zeroI hz) hd
def litB (n z : Nat) : Bool := Nat.blt 0 n && Nat.blt 0 z && Nat.ble (n * z) 16777216
def allB (z : Nat) (ps : List (Nat × D)) : Bool := ps.all fun p => p.2.size == z
theorem g_slice_litI {T e z y n : Nat} {parts : Array (Nat × Operand)} {ps : List (Nat × D)} {ds : List D} {d0 : D} (ho : o.op = .buildSlice T n parts) (hx : evps S parts.toList = some ps) (hT : assoc slL T = some (e, z, y)) (hz : assoc zeroL e = some d0) (hin : inRow 0 ps = some ds) (hsz : allB z ps = true) (hn : ps.length = n) (h0 : litB n z = true) : Grows ops S o (· = .val (.sl z ds)) := by
  simp only [litB, Bool.and_eq_true, Nat.blt_eq, Nat.ble_eq] at h0
  exact g_slice_lit ho hx (slI hT) (zeroI hz) hin (fun p hp => by simpa using List.all_eq_true.1 hsz p hp) hn h0.1 h0.2
theorem g_fieldI {x : Operand} {T k off sz g n : Nat} {ag : Bool} {l : List (Nat × Nat × Bool)} (ho : o.op = .fieldAddr T x k) (hx : ev S x = some (.val (.v (.pointer (some ⟨g, n, none⟩))))) (h : assoc stL T = some l) (hk : l[k]? = some (off, sz, ag)) (h0 : Nat.blt 0 sz = true) : Still ops S o (.val (.v (.pointer (some ⟨g, n + off, none⟩)))) := g_field ho hx (fldI h hk h0)
theorem g_field_pdI {x : Operand} {T k off sz : Nat} {ag : Bool} {d d' : D} {l : List (Nat × Nat × Bool)} (ho : o.op = .fieldAddr T x k) (hx : ev S x = some (.val (.pd d))) (h : assoc stL T = some l) (hk : l[k]? = some (off, sz, ag)) (h0 : Nat.blt 0 sz = true) (hs : d.sub off sz ag = some d') : Still ops S o (.val (.pd d')) := g_field_pd ho hx (fldI h hk h0) hs
theorem g_loadI {x : Operand} {T sz g n : Nat} {ag : Bool} {t : TypeId} {d d' : D} (i : Nat) (ho : o.op = .load T x) (hx : ev S x = some (.val (.v (.pointer (some ⟨g, n, none⟩))))) (hi : S.objs[i]? = some (.var g t d)) (hT : assoc tyL T = some (sz, ag)) (hs : d.sub n sz ag = some d') : Still ops S o (.val d') := g_load i ho hx hi (tyI hT) hs
theorem g_load_pdI {x : Operand} {T sz : Nat} {ag : Bool} {d d' : D} (ho : o.op = .load T x) (hx : ev S x = some (.val (.pd d))) (hT : assoc tyL T = some (sz, ag)) (hs : d.sub 0 sz ag = some d') : Still ops S o (.val d') := g_load_pd ho hx (tyI hT) hs
theorem g_indexI {x y : Operand} {T e z b : Nat} {k : Int} {ds : List D} (ho : o.op = .indexAddr T x y) (hx : ev S x = some (.val (.sl z ds))) (hy : ev S y = some (.val (.v (.int .i64 k)))) (hT : assoc slL T = some (e, z, b)) (hz : Nat.blt 0 z = true) (h0 : 0 ≤ k) (hk : k.toNat < ds.length) : Still ops S o (.val (.pd ds[k.toNat])) := g_index ho hx hy (slI hT) (by simpa using hz) h0 hk
theorem g_index_bsI {x y : Operand} {T e b : Nat} {k : Int} {l : List UInt8} (ho : o.op = .indexAddr T x y) (hx : ev S x = some (.val (.bs l))) (hy : ev S y = some (.val (.v (.int .i64 k)))) (hT : assoc slL T = some (e, 1, b)) (h0 : 0 ≤ k) (hk : k.toNat < l.length) : Still ops S o (.val (.pd (.v (bv l[k.toNat])))) := g_index_bs ho hx hy (slI hT) h0 hk
theorem g_len_bsI {x : Operand} {T e z y : Nat} {l : List UInt8} (ho : o.op = .call { callee := .builtin .len, args := #[x], argTypes := #[T] }) (hx : ev S x = some (.val (.bs l))) (hT : assoc slL T = some (e, z, y)) : Still ops S o (.val (.v (.int .i64 l.length))) := g_len_bs ho hx (slI hT).und
theorem g_len_slI {x : Operand} {T e z y z' : Nat} {ds : List D} (ho : o.op = .call { callee := .builtin .len, args := #[x], argTypes := #[T] }) (hx : ev S x = some (.val (.sl z' ds))) (hT : assoc slL T = some (e, z, y)) : Still ops S o (.val (.v (.int .i64 ds.length))) := g_len_sl ho hx (slI hT).und
theorem g_len_nilI {x : Operand} {T e n c z y : Nat} {A : Option Addr} (ho : o.op = .call { callee := .builtin .len, args := #[x], argTypes := #[T] }) (hx : ev S x = some (.val (.v (.slice A n c)))) (hT : assoc slL T = some (e, z, y)) : Still ops S o (.val (.v (.int .i64 n))) := g_len_nil ho hx (slI hT).und
theorem g_len_rowI {x : Operand} {T e e' z z' y : Nat} {v : Value} {ds : List D} (i : Nat) (ho : o.op = .call { callee := .builtin .len, args := #[x], argTypes := #[T] }) (hx : ev S x = some (.val (.v v))) (hi : S.objs[i]? = some (.row v e' z ds)) (hT : assoc slL T = some (e, z', y)) : Still ops S o (.val (.v (.int .i64 ds.length))) := g_len_row i ho hx hi (slI hT).und
theorem ES.append {t : Tmp} {T e z y : Nat} {s x : Operand} {v : Value} {ds es : List D} (i : Nat) (ho : o.op = .call { callee := .builtin .append, args := #[s, x], argTypes := #[T, T] }) (hT : assoc slL T = some (e, z, y)) (hz : Nat.blt 0 z = true)
    (hs : ev ⟨rs, os, fs⟩ s = some (.val (.v v))) (hi : os[i]? = some (.row v e z ds)) (hx : ev ⟨rs, os, fs⟩ x = some (.val (.sl z es))) (hg : guardOf ops ⟨rs, os, fs⟩ o = some true) (hd : o.dst = some t) (hN : Nat.blt t N = true) (hlen : (ds.length + es.length) * y ≤ 140737488355328 ∧ ds.length + es.length ≤ 9223372036854775807)
    (k : ∀ v', EL X ops Q l ⟨(t, .val (.v v')) :: rs, os.set i (.row v' e z (ds ++ es)), fs⟩) : EL X ops Q (o :: l) ⟨rs, os, fs⟩ := EL.append i ho hg (dst_lt hd hN) (slTI hT hz) hs hi hx hlen fun v' => by rw [hd]; exact k v'
theorem EH.nil {l' : List Oper} {F : List Fr} (hF : F = []) (h : EL X ops Q l' S) : EM N ops (fun S' E => openF (EL X ops Q l') E S') [] S F := by
  subst hF
  exact h
theorem EH.nil1 {l' : List Oper} {t : Tmp} {Ty : TypeId} {d : D} {F : List Fr} (hF : F = [(t, Ty, d)]) (h : ∀ g, EL X ops Q l' ⟨(t, .val (.v (.pointer (some ⟨g, 0, none⟩)))) :: rs, .var g Ty d :: os, fs⟩) : EM N ops (fun S' E => openF (EL X ops Q l') E S') [] ⟨rs, os, fs⟩ F := by
  subst hF
  exact h
theorem EH.nil2 {l' : List Oper} {t t' : Tmp} {Ty Ty' : TypeId} {d d' : D} {F : List Fr} (hF : F = [(t, Ty, d), (t', Ty', d')]) (h : ∀ g g', EL X ops Q l' ⟨(t', .val (.v (.pointer (some ⟨g', 0, none⟩)))) :: (t, .val (.v (.pointer (some ⟨g, 0, none⟩)))) :: rs, .var g' Ty' d' :: .var g Ty d :: os, fs⟩) : EM N ops (fun S' E => openF (EL X ops Q l') E S') [] ⟨rs, os, fs⟩ F := by
  subst hF
  exact h
end
end E
end Go.Proofs.Ytdhicdnmgmkpkaa
