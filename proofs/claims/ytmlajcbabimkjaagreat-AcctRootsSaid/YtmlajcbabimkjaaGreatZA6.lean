/-
  Merged (wip/tools/merge.py): ETy, E9.
  Conditions: none.
-/
import Derived.Test.YtmlajcbabimkjaaGreatZA5
/-
  The program's types, as tables: sizes, elements, fields, zero values. (Printed by wip/tools/ety.py; each row is held against the program.)
  Conditions: none.
-/
namespace Go.Proofs.YtmlajcbabimkjaaGreat
open Go.RowKit Mono Rlp
namespace E
def tyL : List (Nat × Nat × Bool) := [(2, 1, false), (3, 1, false), (4, 1, false), (5, 1, false), (7, 4, true), (9, 1, false), (12, 1, false), (13, 2, true), (15, 1, false), (16, 1, false), (17, 1, false), (18, 1, true), (21, 1, false), (22, 1, false), (25, 1, false), (26, 20, true), (27, 20, true), (28, 32, true), (29, 32, true), (30, 1, false), (31, 55, true), (32, 55, true), (35, 64, true), (36, 64, true), (37, 1, false), (38, 1, false), (39, 1, true), (40, 1, true), (41, 1, false), (46, 1, false), (54, 33, true), (55, 33, true), (57, 1, false), (61, 1, false), (62, 1, true), (63, 1, true), (65, 1, false), (71, 2, true), (72, 2, true), (79, 1, false), (80, 3, true), (81, 3, true), (92, 1, false), (105, 1, false), (108, 1, false), (109, 2, true), (110, 2, true), (111, 1, false), (112, 3, true), (113, 3, true), (115, 1, false), (116, 25, true), (118, 1, false), (119, 1, false), (121, 1, false), (122, 3, true), (123, 3, true), (126, 16, true), (127, 53, true), (128, 53, true), (138, 97, true), (139, 97, true), (140, 1, false), (144, 1, false), (148, 32, true), (151, 1, false), (153, 1, false), (156, 1, false), (160, 5, true), (169, 1, false), (172, 1, false), (173, 25, true), (177, 2, true), (178, 2, true), (181, 1, false), (182, 2, true), (183, 2, true), (184, 1, false), (185, 2, true), (186, 2, true), (187, 1, false), (188, 16, true), (189, 17, true), (190, 17, true), (210, 1, false), (211, 25, true), (213, 24, true), (216, 1, false), (229, 1, false), (236, 1, false), (243, 1, false), (247, 1, false), (251, 1, false), (259, 4, true), (261, 0, true), (262, 0, true), (270, 11, true), (20, 1, false), (101, 1, false), (204, 1, false)]
theorem tyL_ok : (tyL.all fun x => tyB Tryz.prog x.1 == some x.2) = true := by kernel_rfl
def slL : List (Nat × Nat × Nat × Nat) := [(22, 32, 55, 112), (25, 36, 64, 64), (30, 5, 1, 1), (38, 55, 33, 56), (46, 72, 2, 48), (57, 46, 1, 24), (79, 81, 3, 56), (108, 110, 2, 48), (144, 178, 2, 48), (151, 101, 1, 16), (153, 29, 32, 32), (172, 30, 1, 24)]
theorem slL_ok : (slL.all fun x => slB Tryz.prog x.1 == some (x.2.1, x.2.2.1, x.2.2.2, x.2.2.1)) = true := by kernel_rfl
def arL : List (Nat × Nat × Nat × Nat) := [(26, 20, 5, 1), (27, 20, 5, 1), (28, 32, 5, 1), (29, 32, 5, 1), (116, 25, 115, 1), (126, 16, 121, 1), (148, 32, 5, 1), (160, 5, 115, 1), (173, 25, 115, 1), (188, 16, 101, 1), (211, 25, 3, 1), (213, 24, 115, 1), (261, 0, 16, 1)]
theorem arL_ok : (arL.all fun x => arB Tryz.prog x.1 == some x.2) = true := by kernel_rfl
def stL : List (Nat × List (Nat × Nat × Bool)) := [(7, [(0, 1, false), (1, 1, false), (2, 1, false), (3, 1, false)]), (13, [(0, 1, false), (1, 1, false)]), (18, [(0, 1, false)]), (31, [(0, 20, true), (20, 1, false), (21, 32, true), (53, 1, false), (54, 1, false)]), (32, [(0, 20, true), (20, 1, false), (21, 32, true), (53, 1, false), (54, 1, false)]), (35, [(0, 32, true), (32, 32, true)]), (36, [(0, 32, true), (32, 32, true)]), (39, [(0, 1, false)]), (40, [(0, 1, false)]), (54, [(0, 32, true), (32, 1, false)]), (55, [(0, 32, true), (32, 1, false)]), (62, [(0, 1, false)]), (63, [(0, 1, false)]), (71, [(0, 1, false), (1, 1, false)]), (72, [(0, 1, false), (1, 1, false)]), (80, [(0, 1, false), (1, 1, false), (2, 1, false)]), (81, [(0, 1, false), (1, 1, false), (2, 1, false)]), (109, [(0, 1, false), (1, 1, false)]), (110, [(0, 1, false), (1, 1, false)]), (112, [(0, 1, false), (1, 1, false), (2, 1, false)]), (113, [(0, 1, false), (1, 1, false), (2, 1, false)]), (122, [(0, 1, false), (1, 1, false), (2, 1, false)]), (123, [(0, 1, false), (1, 1, false), (2, 1, false)]), (127, [(0, 1, false), (1, 1, false), (2, 1, false), (3, 1, false), (4, 16, true), (20, 32, true), (52, 1, false)]), (128, [(0, 1, false), (1, 1, false), (2, 1, false), (3, 1, false), (4, 16, true), (20, 32, true), (52, 1, false)]), (138, [(0, 1, false), (1, 32, true), (33, 32, true), (65, 32, true)]), (139, [(0, 1, false), (1, 32, true), (33, 32, true), (65, 32, true)]), (177, [(0, 1, false), (1, 1, false)]), (178, [(0, 1, false), (1, 1, false)]), (182, [(0, 1, false), (1, 1, false)]), (183, [(0, 1, false), (1, 1, false)]), (185, [(0, 1, false), (1, 1, false)]), (186, [(0, 1, false), (1, 1, false)]), (189, [(0, 16, true), (16, 1, false)]), (190, [(0, 16, true), (16, 1, false)]), (259, [(0, 1, false), (1, 1, false), (2, 1, false), (3, 1, false)]), (262, [(0, 0, true)]), (270, [(0, 1, false), (1, 1, false), (2, 1, false), (3, 1, false), (4, 1, false), (5, 1, false), (6, 1, false), (7, 1, false), (8, 1, false), (9, 1, false), (10, 1, false)])]
theorem stL_ok : (stL.all fun x => stB Tryz.prog x.1 == some x.2) = true := by kernel_rfl
def zeroL : List (Nat × D) := [(2, .v (.int .i64 0)), (3, .v (.int .i64 0)), (4, .v (.bool false)), (5, .v (.int .u8 0)), (7, .tup [.v (.int .i64 0), .v (.int .i64 0), .v (.bool false), .v (.int .u8 0)]), (12, .v (.int .u64 0)), (15, .v (.pointer none)), (16, .v (.pointer none)), (17, .v (.pointer none)), (18, .tup [.v (.pointer none)]), (20, .v .nilIface), (21, .v (.int .i32 0)), (22, .v (.slice none 0 0)), (25, .v (.slice none 0 0)), (26, .arr 20 (List.replicate 20 0)), (27, .arr 20 (List.replicate 20 0)), (28, .arr 32 zero32), (29, .arr 32 zero32), (30, .v (.slice none 0 0)), (31, .tup [.arr 20 (List.replicate 20 0), .v (.int .i64 0), .arr 32 zero32, .v (.slice none 0 0), .v (.slice none 0 0)]), (32, .tup [.arr 20 (List.replicate 20 0), .v (.int .i64 0), .arr 32 zero32, .v (.slice none 0 0), .v (.slice none 0 0)]), (35, .tup [.arr 32 zero32, .arr 32 zero32]), (36, .tup [.arr 32 zero32, .arr 32 zero32]), (37, .v (.pointer none)), (38, .v (.slice none 0 0)), (39, .tup [.v (.slice none 0 0)]), (40, .tup [.v (.slice none 0 0)]), (41, .v (.int .i64 0)), (46, .v (.slice none 0 0)), (54, .tup [.arr 32 zero32, .v (.slice none 0 0)]), (55, .tup [.arr 32 zero32, .v (.slice none 0 0)]), (57, .v (.slice none 0 0)), (61, .v (.pointer none)), (62, .tup [.v (.slice none 0 0)]), (63, .tup [.v (.slice none 0 0)]), (65, .v (.pointer none)), (71, .tup [.v (.slice none 0 0), .v (.slice none 0 0)]), (72, .tup [.v (.slice none 0 0), .v (.slice none 0 0)]), (79, .v (.slice none 0 0)), (80, .tup [.v (.bool false), .v (.slice none 0 0), .v (.slice none 0 0)]), (81, .tup [.v (.bool false), .v (.slice none 0 0), .v (.slice none 0 0)]), (92, .v (.int .u64 0)), (101, .v .nilIface), (105, .v (.map none)), (108, .v (.slice none 0 0)), (109, .tup [.v (.slice none 0 0), .v (.slice none 0 0)]), (110, .tup [.v (.slice none 0 0), .v (.slice none 0 0)]), (111, .v (.pointer none)), (112, .tup [.v (.slice none 0 0), .v (.pointer none), .v (.bool false)]), (113, .tup [.v (.slice none 0 0), .v (.pointer none), .v (.bool false)]), (115, .v (.int .u64 0)), (116, .tup [.v (.int .u64 0), .v (.int .u64 0), .v (.int .u64 0), .v (.int .u64 0), .v (.int .u64 0), .v (.int .u64 0), .v (.int .u64 0), .v (.int .u64 0), .v (.int .u64 0), .v (.int .u64 0), .v (.int .u64 0), .v (.int .u64 0), .v (.int .u64 0), .v (.int .u64 0), .v (.int .u64 0), .v (.int .u64 0), .v (.int .u64 0), .v (.int .u64 0), .v (.int .u64 0), .v (.int .u64 0), .v (.int .u64 0), .v (.int .u64 0), .v (.int .u64 0), .v (.int .u64 0), .v (.int .u64 0)]), (118, .v (.pointer none)), (119, .v (.pointer none)), (121, .v (.pointer none)), (122, .tup [.v (.pointer none), .v (.pointer none), .v (.bool false)]), (123, .tup [.v (.pointer none), .v (.pointer none), .v (.bool false)]), (126, .tup [.v (.pointer none), .v (.pointer none), .v (.pointer none), .v (.pointer none), .v (.pointer none), .v (.pointer none), .v (.pointer none), .v (.pointer none), .v (.pointer none), .v (.pointer none), .v (.pointer none), .v (.pointer none), .v (.pointer none), .v (.pointer none), .v (.pointer none), .v (.pointer none)]), (127, .tup [.v (.int .i64 0), .v (.slice none 0 0), .v (.slice none 0 0), .v (.pointer none), .tup [.v (.pointer none), .v (.pointer none), .v (.pointer none), .v (.pointer none), .v (.pointer none), .v (.pointer none), .v (.pointer none), .v (.pointer none), .v (.pointer none), .v (.pointer none), .v (.pointer none), .v (.pointer none), .v (.pointer none), .v (.pointer none), .v (.pointer none), .v (.pointer none)], .arr 32 zero32, .v (.bool false)]), (128, .tup [.v (.int .i64 0), .v (.slice none 0 0), .v (.slice none 0 0), .v (.pointer none), .tup [.v (.pointer none), .v (.pointer none), .v (.pointer none), .v (.pointer none), .v (.pointer none), .v (.pointer none), .v (.pointer none), .v (.pointer none), .v (.pointer none), .v (.pointer none), .v (.pointer none), .v (.pointer none), .v (.pointer none), .v (.pointer none), .v (.pointer none), .v (.pointer none)], .arr 32 zero32, .v (.bool false)]), (138, .tup [.v (.int .i64 0), .arr 32 zero32, .arr 32 zero32, .arr 32 zero32]), (139, .tup [.v (.int .i64 0), .arr 32 zero32, .arr 32 zero32, .arr 32 zero32]), (140, .v (.map none)), (144, .v (.slice none 0 0)), (148, .arr 32 zero32), (151, .v (.slice none 0 0)), (153, .v (.slice none 0 0)), (160, .tup [.v (.int .u64 0), .v (.int .u64 0), .v (.int .u64 0), .v (.int .u64 0), .v (.int .u64 0)]), (169, .v (.map none)), (172, .v (.slice none 0 0)), (173, .tup [.v (.int .u64 0), .v (.int .u64 0), .v (.int .u64 0), .v (.int .u64 0), .v (.int .u64 0), .v (.int .u64 0), .v (.int .u64 0), .v (.int .u64 0), .v (.int .u64 0), .v (.int .u64 0), .v (.int .u64 0), .v (.int .u64 0), .v (.int .u64 0), .v (.int .u64 0), .v (.int .u64 0), .v (.int .u64 0), .v (.int .u64 0), .v (.int .u64 0), .v (.int .u64 0), .v (.int .u64 0), .v (.int .u64 0), .v (.int .u64 0), .v (.int .u64 0), .v (.int .u64 0), .v (.int .u64 0)]), (177, .tup [.v (.slice none 0 0), .v (.slice none 0 0)]), (178, .tup [.v (.slice none 0 0), .v (.slice none 0 0)]), (181, .v (.pointer none)), (182, .tup [.v (.slice none 0 0), .v (.slice none 0 0)]), (183, .tup [.v (.slice none 0 0), .v (.slice none 0 0)]), (184, .v (.pointer none)), (185, .tup [.v (.slice none 0 0), .v .nilIface]), (186, .tup [.v (.slice none 0 0), .v .nilIface]), (187, .v (.pointer none)), (188, .tup [.v .nilIface, .v .nilIface, .v .nilIface, .v .nilIface, .v .nilIface, .v .nilIface, .v .nilIface, .v .nilIface, .v .nilIface, .v .nilIface, .v .nilIface, .v .nilIface, .v .nilIface, .v .nilIface, .v .nilIface, .v .nilIface]), (189, .tup [.tup [.v .nilIface, .v .nilIface, .v .nilIface, .v .nilIface, .v .nilIface, .v .nilIface, .v .nilIface, .v .nilIface, .v .nilIface, .v .nilIface, .v .nilIface, .v .nilIface, .v .nilIface, .v .nilIface, .v .nilIface, .v .nilIface], .v (.slice none 0 0)]), (190, .tup [.tup [.v .nilIface, .v .nilIface, .v .nilIface, .v .nilIface, .v .nilIface, .v .nilIface, .v .nilIface, .v .nilIface, .v .nilIface, .v .nilIface, .v .nilIface, .v .nilIface, .v .nilIface, .v .nilIface, .v .nilIface, .v .nilIface], .v (.slice none 0 0)]), (204, .v .nilIface), (210, .v (.pointer none)), (211, .tup [.v (.int .i64 0), .v (.int .i64 0), .v (.int .i64 0), .v (.int .i64 0), .v (.int .i64 0), .v (.int .i64 0), .v (.int .i64 0), .v (.int .i64 0), .v (.int .i64 0), .v (.int .i64 0), .v (.int .i64 0), .v (.int .i64 0), .v (.int .i64 0), .v (.int .i64 0), .v (.int .i64 0), .v (.int .i64 0), .v (.int .i64 0), .v (.int .i64 0), .v (.int .i64 0), .v (.int .i64 0), .v (.int .i64 0), .v (.int .i64 0), .v (.int .i64 0), .v (.int .i64 0), .v (.int .i64 0)]), (213, .tup [.v (.int .u64 0), .v (.int .u64 0), .v (.int .u64 0), .v (.int .u64 0), .v (.int .u64 0), .v (.int .u64 0), .v (.int .u64 0), .v (.int .u64 0), .v (.int .u64 0), .v (.int .u64 0), .v (.int .u64 0), .v (.int .u64 0), .v (.int .u64 0), .v (.int .u64 0), .v (.int .u64 0), .v (.int .u64 0), .v (.int .u64 0), .v (.int .u64 0), .v (.int .u64 0), .v (.int .u64 0), .v (.int .u64 0), .v (.int .u64 0), .v (.int .u64 0), .v (.int .u64 0)]), (216, .v (.pointer none)), (229, .v (.int .i64 0)), (236, .v (.int .u32 0)), (243, .v (.int .u64 0)), (247, .v (.pointer none)), (251, .v (.pointer none)), (261, .tup []), (262, .tup [.tup []])]
theorem zeroT2 : Zero 2 (.v (.int .i64 0)) := zero_of (by kernel_rfl) rfl
theorem zeroT3 : Zero 3 (.v (.int .i64 0)) := zero_of (by kernel_rfl) rfl
theorem zeroT4 : Zero 4 (.v (.bool false)) := zero_of (by kernel_rfl) rfl
theorem zeroT5 : Zero 5 (.v (.int .u8 0)) := zero_of (by kernel_rfl) rfl
theorem zeroT7 : Zero 7 (.tup [.v (.int .i64 0), .v (.int .i64 0), .v (.bool false), .v (.int .u8 0)]) := zero_of (by kernel_rfl) rfl
theorem zeroT12 : Zero 12 (.v (.int .u64 0)) := zero_of (by kernel_rfl) rfl
theorem zeroT15 : Zero 15 (.v (.pointer none)) := zero_of (by kernel_rfl) rfl
theorem zeroT16 : Zero 16 (.v (.pointer none)) := zero_of (by kernel_rfl) rfl
theorem zeroT17 : Zero 17 (.v (.pointer none)) := zero_of (by kernel_rfl) rfl
theorem zeroT18 : Zero 18 (.tup [.v (.pointer none)]) := zero_of (by kernel_rfl) rfl
theorem zeroT20 : Zero 20 (.v .nilIface) := zero_of (by kernel_rfl) rfl
theorem zeroT21 : Zero 21 (.v (.int .i32 0)) := zero_of (by kernel_rfl) rfl
theorem zeroT22 : Zero 22 (.v (.slice none 0 0)) := zero_of (by kernel_rfl) rfl
theorem zeroT25 : Zero 25 (.v (.slice none 0 0)) := zero_of (by kernel_rfl) rfl
theorem zeroT26 : Zero 26 (.arr 20 (List.replicate 20 0)) := zero_of (by kernel_rfl) rfl
theorem zeroT27 : Zero 27 (.arr 20 (List.replicate 20 0)) := zero_of (by kernel_rfl) rfl
theorem zeroT28 : Zero 28 (.arr 32 zero32) := zero_of (by kernel_rfl) rfl
theorem zeroT29 : Zero 29 (.arr 32 zero32) := zero_of (by kernel_rfl) rfl
theorem zeroT30 : Zero 30 (.v (.slice none 0 0)) := zero_of (by kernel_rfl) rfl
theorem zeroT31 : Zero 31 (.tup [.arr 20 (List.replicate 20 0), .v (.int .i64 0), .arr 32 zero32, .v (.slice none 0 0), .v (.slice none 0 0)]) := zero_of (by kernel_rfl) rfl
theorem zeroT32 : Zero 32 (.tup [.arr 20 (List.replicate 20 0), .v (.int .i64 0), .arr 32 zero32, .v (.slice none 0 0), .v (.slice none 0 0)]) := zero_of (by kernel_rfl) rfl
theorem zeroT35 : Zero 35 (.tup [.arr 32 zero32, .arr 32 zero32]) := zero_of (by kernel_rfl) rfl
theorem zeroT36 : Zero 36 (.tup [.arr 32 zero32, .arr 32 zero32]) := zero_of (by kernel_rfl) rfl
theorem zeroT37 : Zero 37 (.v (.pointer none)) := zero_of (by kernel_rfl) rfl
theorem zeroT38 : Zero 38 (.v (.slice none 0 0)) := zero_of (by kernel_rfl) rfl
theorem zeroT39 : Zero 39 (.tup [.v (.slice none 0 0)]) := zero_of (by kernel_rfl) rfl
theorem zeroT40 : Zero 40 (.tup [.v (.slice none 0 0)]) := zero_of (by kernel_rfl) rfl
theorem zeroT41 : Zero 41 (.v (.int .i64 0)) := zero_of (by kernel_rfl) rfl
theorem zeroT46 : Zero 46 (.v (.slice none 0 0)) := zero_of (by kernel_rfl) rfl
theorem zeroT54 : Zero 54 (.tup [.arr 32 zero32, .v (.slice none 0 0)]) := zero_of (by kernel_rfl) rfl
theorem zeroT55 : Zero 55 (.tup [.arr 32 zero32, .v (.slice none 0 0)]) := zero_of (by kernel_rfl) rfl
theorem zeroT57 : Zero 57 (.v (.slice none 0 0)) := zero_of (by kernel_rfl) rfl
theorem zeroT61 : Zero 61 (.v (.pointer none)) := zero_of (by kernel_rfl) rfl
theorem zeroT62 : Zero 62 (.tup [.v (.slice none 0 0)]) := zero_of (by kernel_rfl) rfl
theorem zeroT63 : Zero 63 (.tup [.v (.slice none 0 0)]) := zero_of (by kernel_rfl) rfl
theorem zeroT65 : Zero 65 (.v (.pointer none)) := zero_of (by kernel_rfl) rfl
theorem zeroT71 : Zero 71 (.tup [.v (.slice none 0 0), .v (.slice none 0 0)]) := zero_of (by kernel_rfl) rfl
theorem zeroT72 : Zero 72 (.tup [.v (.slice none 0 0), .v (.slice none 0 0)]) := zero_of (by kernel_rfl) rfl
theorem zeroT79 : Zero 79 (.v (.slice none 0 0)) := zero_of (by kernel_rfl) rfl
theorem zeroT80 : Zero 80 (.tup [.v (.bool false), .v (.slice none 0 0), .v (.slice none 0 0)]) := zero_of (by kernel_rfl) rfl
theorem zeroT81 : Zero 81 (.tup [.v (.bool false), .v (.slice none 0 0), .v (.slice none 0 0)]) := zero_of (by kernel_rfl) rfl
theorem zeroT92 : Zero 92 (.v (.int .u64 0)) := zero_of (by kernel_rfl) rfl
theorem zeroT101 : Zero 101 (.v .nilIface) := zero_of (by kernel_rfl) rfl
theorem zeroT105 : Zero 105 (.v (.map none)) := zero_of (by kernel_rfl) rfl
theorem zeroT108 : Zero 108 (.v (.slice none 0 0)) := zero_of (by kernel_rfl) rfl
theorem zeroT109 : Zero 109 (.tup [.v (.slice none 0 0), .v (.slice none 0 0)]) := zero_of (by kernel_rfl) rfl
theorem zeroT110 : Zero 110 (.tup [.v (.slice none 0 0), .v (.slice none 0 0)]) := zero_of (by kernel_rfl) rfl
theorem zeroT111 : Zero 111 (.v (.pointer none)) := zero_of (by kernel_rfl) rfl
theorem zeroT112 : Zero 112 (.tup [.v (.slice none 0 0), .v (.pointer none), .v (.bool false)]) := zero_of (by kernel_rfl) rfl
theorem zeroT113 : Zero 113 (.tup [.v (.slice none 0 0), .v (.pointer none), .v (.bool false)]) := zero_of (by kernel_rfl) rfl
theorem zeroT115 : Zero 115 (.v (.int .u64 0)) := zero_of (by kernel_rfl) rfl
theorem zeroT116 : Zero 116 (.tup [.v (.int .u64 0), .v (.int .u64 0), .v (.int .u64 0), .v (.int .u64 0), .v (.int .u64 0), .v (.int .u64 0), .v (.int .u64 0), .v (.int .u64 0), .v (.int .u64 0), .v (.int .u64 0), .v (.int .u64 0), .v (.int .u64 0), .v (.int .u64 0), .v (.int .u64 0), .v (.int .u64 0), .v (.int .u64 0), .v (.int .u64 0), .v (.int .u64 0), .v (.int .u64 0), .v (.int .u64 0), .v (.int .u64 0), .v (.int .u64 0), .v (.int .u64 0), .v (.int .u64 0), .v (.int .u64 0)]) := zero_of (by kernel_rfl) rfl
theorem zeroT118 : Zero 118 (.v (.pointer none)) := zero_of (by kernel_rfl) rfl
theorem zeroT119 : Zero 119 (.v (.pointer none)) := zero_of (by kernel_rfl) rfl
theorem zeroT121 : Zero 121 (.v (.pointer none)) := zero_of (by kernel_rfl) rfl
theorem zeroT122 : Zero 122 (.tup [.v (.pointer none), .v (.pointer none), .v (.bool false)]) := zero_of (by kernel_rfl) rfl
theorem zeroT123 : Zero 123 (.tup [.v (.pointer none), .v (.pointer none), .v (.bool false)]) := zero_of (by kernel_rfl) rfl
theorem zeroT126 : Zero 126 (.tup [.v (.pointer none), .v (.pointer none), .v (.pointer none), .v (.pointer none), .v (.pointer none), .v (.pointer none), .v (.pointer none), .v (.pointer none), .v (.pointer none), .v (.pointer none), .v (.pointer none), .v (.pointer none), .v (.pointer none), .v (.pointer none), .v (.pointer none), .v (.pointer none)]) := zero_of (by kernel_rfl) rfl
theorem zeroT127 : Zero 127 (.tup [.v (.int .i64 0), .v (.slice none 0 0), .v (.slice none 0 0), .v (.pointer none), .tup [.v (.pointer none), .v (.pointer none), .v (.pointer none), .v (.pointer none), .v (.pointer none), .v (.pointer none), .v (.pointer none), .v (.pointer none), .v (.pointer none), .v (.pointer none), .v (.pointer none), .v (.pointer none), .v (.pointer none), .v (.pointer none), .v (.pointer none), .v (.pointer none)], .arr 32 zero32, .v (.bool false)]) := zero_of (by kernel_rfl) rfl
theorem zeroT128 : Zero 128 (.tup [.v (.int .i64 0), .v (.slice none 0 0), .v (.slice none 0 0), .v (.pointer none), .tup [.v (.pointer none), .v (.pointer none), .v (.pointer none), .v (.pointer none), .v (.pointer none), .v (.pointer none), .v (.pointer none), .v (.pointer none), .v (.pointer none), .v (.pointer none), .v (.pointer none), .v (.pointer none), .v (.pointer none), .v (.pointer none), .v (.pointer none), .v (.pointer none)], .arr 32 zero32, .v (.bool false)]) := zero_of (by kernel_rfl) rfl
theorem zeroT138 : Zero 138 (.tup [.v (.int .i64 0), .arr 32 zero32, .arr 32 zero32, .arr 32 zero32]) := zero_of (by kernel_rfl) rfl
theorem zeroT139 : Zero 139 (.tup [.v (.int .i64 0), .arr 32 zero32, .arr 32 zero32, .arr 32 zero32]) := zero_of (by kernel_rfl) rfl
theorem zeroT140 : Zero 140 (.v (.map none)) := zero_of (by kernel_rfl) rfl
theorem zeroT144 : Zero 144 (.v (.slice none 0 0)) := zero_of (by kernel_rfl) rfl
theorem zeroT148 : Zero 148 (.arr 32 zero32) := zero_of (by kernel_rfl) rfl
theorem zeroT151 : Zero 151 (.v (.slice none 0 0)) := zero_of (by kernel_rfl) rfl
theorem zeroT153 : Zero 153 (.v (.slice none 0 0)) := zero_of (by kernel_rfl) rfl
theorem zeroT160 : Zero 160 (.tup [.v (.int .u64 0), .v (.int .u64 0), .v (.int .u64 0), .v (.int .u64 0), .v (.int .u64 0)]) := zero_of (by kernel_rfl) rfl
theorem zeroT169 : Zero 169 (.v (.map none)) := zero_of (by kernel_rfl) rfl
theorem zeroT172 : Zero 172 (.v (.slice none 0 0)) := zero_of (by kernel_rfl) rfl
theorem zeroT173 : Zero 173 (.tup [.v (.int .u64 0), .v (.int .u64 0), .v (.int .u64 0), .v (.int .u64 0), .v (.int .u64 0), .v (.int .u64 0), .v (.int .u64 0), .v (.int .u64 0), .v (.int .u64 0), .v (.int .u64 0), .v (.int .u64 0), .v (.int .u64 0), .v (.int .u64 0), .v (.int .u64 0), .v (.int .u64 0), .v (.int .u64 0), .v (.int .u64 0), .v (.int .u64 0), .v (.int .u64 0), .v (.int .u64 0), .v (.int .u64 0), .v (.int .u64 0), .v (.int .u64 0), .v (.int .u64 0), .v (.int .u64 0)]) := zero_of (by kernel_rfl) rfl
theorem zeroT177 : Zero 177 (.tup [.v (.slice none 0 0), .v (.slice none 0 0)]) := zero_of (by kernel_rfl) rfl
theorem zeroT178 : Zero 178 (.tup [.v (.slice none 0 0), .v (.slice none 0 0)]) := zero_of (by kernel_rfl) rfl
theorem zeroT181 : Zero 181 (.v (.pointer none)) := zero_of (by kernel_rfl) rfl
theorem zeroT182 : Zero 182 (.tup [.v (.slice none 0 0), .v (.slice none 0 0)]) := zero_of (by kernel_rfl) rfl
theorem zeroT183 : Zero 183 (.tup [.v (.slice none 0 0), .v (.slice none 0 0)]) := zero_of (by kernel_rfl) rfl
theorem zeroT184 : Zero 184 (.v (.pointer none)) := zero_of (by kernel_rfl) rfl
theorem zeroT185 : Zero 185 (.tup [.v (.slice none 0 0), .v .nilIface]) := zero_of (by kernel_rfl) rfl
theorem zeroT186 : Zero 186 (.tup [.v (.slice none 0 0), .v .nilIface]) := zero_of (by kernel_rfl) rfl
theorem zeroT187 : Zero 187 (.v (.pointer none)) := zero_of (by kernel_rfl) rfl
theorem zeroT188 : Zero 188 (.tup [.v .nilIface, .v .nilIface, .v .nilIface, .v .nilIface, .v .nilIface, .v .nilIface, .v .nilIface, .v .nilIface, .v .nilIface, .v .nilIface, .v .nilIface, .v .nilIface, .v .nilIface, .v .nilIface, .v .nilIface, .v .nilIface]) := zero_of (by kernel_rfl) rfl
theorem zeroT189 : Zero 189 (.tup [.tup [.v .nilIface, .v .nilIface, .v .nilIface, .v .nilIface, .v .nilIface, .v .nilIface, .v .nilIface, .v .nilIface, .v .nilIface, .v .nilIface, .v .nilIface, .v .nilIface, .v .nilIface, .v .nilIface, .v .nilIface, .v .nilIface], .v (.slice none 0 0)]) := zero_of (by kernel_rfl) rfl
theorem zeroT190 : Zero 190 (.tup [.tup [.v .nilIface, .v .nilIface, .v .nilIface, .v .nilIface, .v .nilIface, .v .nilIface, .v .nilIface, .v .nilIface, .v .nilIface, .v .nilIface, .v .nilIface, .v .nilIface, .v .nilIface, .v .nilIface, .v .nilIface, .v .nilIface], .v (.slice none 0 0)]) := zero_of (by kernel_rfl) rfl
theorem zeroT204 : Zero 204 (.v .nilIface) := zero_of (by kernel_rfl) rfl
theorem zeroT210 : Zero 210 (.v (.pointer none)) := zero_of (by kernel_rfl) rfl
theorem zeroT211 : Zero 211 (.tup [.v (.int .i64 0), .v (.int .i64 0), .v (.int .i64 0), .v (.int .i64 0), .v (.int .i64 0), .v (.int .i64 0), .v (.int .i64 0), .v (.int .i64 0), .v (.int .i64 0), .v (.int .i64 0), .v (.int .i64 0), .v (.int .i64 0), .v (.int .i64 0), .v (.int .i64 0), .v (.int .i64 0), .v (.int .i64 0), .v (.int .i64 0), .v (.int .i64 0), .v (.int .i64 0), .v (.int .i64 0), .v (.int .i64 0), .v (.int .i64 0), .v (.int .i64 0), .v (.int .i64 0), .v (.int .i64 0)]) := zero_of (by kernel_rfl) rfl
theorem zeroT213 : Zero 213 (.tup [.v (.int .u64 0), .v (.int .u64 0), .v (.int .u64 0), .v (.int .u64 0), .v (.int .u64 0), .v (.int .u64 0), .v (.int .u64 0), .v (.int .u64 0), .v (.int .u64 0), .v (.int .u64 0), .v (.int .u64 0), .v (.int .u64 0), .v (.int .u64 0), .v (.int .u64 0), .v (.int .u64 0), .v (.int .u64 0), .v (.int .u64 0), .v (.int .u64 0), .v (.int .u64 0), .v (.int .u64 0), .v (.int .u64 0), .v (.int .u64 0), .v (.int .u64 0), .v (.int .u64 0)]) := zero_of (by kernel_rfl) rfl
theorem zeroT216 : Zero 216 (.v (.pointer none)) := zero_of (by kernel_rfl) rfl
theorem zeroT229 : Zero 229 (.v (.int .i64 0)) := zero_of (by kernel_rfl) rfl
theorem zeroT236 : Zero 236 (.v (.int .u32 0)) := zero_of (by kernel_rfl) rfl
theorem zeroT243 : Zero 243 (.v (.int .u64 0)) := zero_of (by kernel_rfl) rfl
theorem zeroT247 : Zero 247 (.v (.pointer none)) := zero_of (by kernel_rfl) rfl
theorem zeroT251 : Zero 251 (.v (.pointer none)) := zero_of (by kernel_rfl) rfl
theorem zeroT261 : Zero 261 (.tup []) := zero_of (by kernel_rfl) rfl
theorem zeroT262 : Zero 262 (.tup [.tup []]) := zero_of (by kernel_rfl) rfl
theorem zeroL_ok : AllZ zeroL := ⟨zeroT2, ⟨zeroT3, ⟨zeroT4, ⟨zeroT5, ⟨zeroT7, ⟨zeroT12, ⟨zeroT15, ⟨zeroT16, ⟨zeroT17, ⟨zeroT18, ⟨zeroT20, ⟨zeroT21, ⟨zeroT22, ⟨zeroT25, ⟨zeroT26, ⟨zeroT27, ⟨zeroT28, ⟨zeroT29, ⟨zeroT30, ⟨zeroT31, ⟨zeroT32, ⟨zeroT35, ⟨zeroT36, ⟨zeroT37, ⟨zeroT38, ⟨zeroT39, ⟨zeroT40, ⟨zeroT41, ⟨zeroT46, ⟨zeroT54, ⟨zeroT55, ⟨zeroT57, ⟨zeroT61, ⟨zeroT62, ⟨zeroT63, ⟨zeroT65, ⟨zeroT71, ⟨zeroT72, ⟨zeroT79, ⟨zeroT80, ⟨zeroT81, ⟨zeroT92, ⟨zeroT101, ⟨zeroT105, ⟨zeroT108, ⟨zeroT109, ⟨zeroT110, ⟨zeroT111, ⟨zeroT112, ⟨zeroT113, ⟨zeroT115, ⟨zeroT116, ⟨zeroT118, ⟨zeroT119, ⟨zeroT121, ⟨zeroT122, ⟨zeroT123, ⟨zeroT126, ⟨zeroT127, ⟨zeroT128, ⟨zeroT138, ⟨zeroT139, ⟨zeroT140, ⟨zeroT144, ⟨zeroT148, ⟨zeroT151, ⟨zeroT153, ⟨zeroT160, ⟨zeroT169, ⟨zeroT172, ⟨zeroT173, ⟨zeroT177, ⟨zeroT178, ⟨zeroT181, ⟨zeroT182, ⟨zeroT183, ⟨zeroT184, ⟨zeroT185, ⟨zeroT186, ⟨zeroT187, ⟨zeroT188, ⟨zeroT189, ⟨zeroT190, ⟨zeroT204, ⟨zeroT210, ⟨zeroT211, ⟨zeroT213, ⟨zeroT216, ⟨zeroT229, ⟨zeroT236, ⟨zeroT243, ⟨zeroT247, ⟨zeroT251, ⟨zeroT261, ⟨zeroT262, trivial⟩⟩⟩⟩⟩⟩⟩⟩⟩⟩⟩⟩⟩⟩⟩⟩⟩⟩⟩⟩⟩⟩⟩⟩⟩⟩⟩⟩⟩⟩⟩⟩⟩⟩⟩⟩⟩⟩⟩⟩⟩⟩⟩⟩⟩⟩⟩⟩⟩⟩⟩⟩⟩⟩⟩⟩⟩⟩⟩⟩⟩⟩⟩⟩⟩⟩⟩⟩⟩⟩⟩⟩⟩⟩⟩⟩⟩⟩⟩⟩⟩⟩⟩⟩⟩⟩⟩⟩⟩⟩⟩⟩⟩⟩⟩
def cnL : List Nat := [2, 3, 4, 5, 7, 9, 12, 13, 15, 16, 17, 18, 21, 22, 25, 26, 27, 28, 29, 30, 31, 32, 35, 36, 37, 38, 39, 40, 41, 46, 54, 55, 57, 61, 62, 63, 65, 71, 72, 79, 80, 81, 92, 105, 108, 109, 110, 111, 112, 113, 115, 116, 118, 119, 121, 122, 123, 126, 127, 128, 138, 139, 140, 144, 148, 151, 153, 156, 160, 169, 172, 173, 177, 178, 181, 182, 183, 184, 185, 186, 187, 188, 189, 190, 210, 211, 213, 216, 229, 236, 243, 247, 251, 259, 261, 262, 270]
theorem cnL_ok : (cnL.all fun x => cnB Tryz.prog x) = true := by kernel_rfl
def mapL : List (Nat × Nat × Nat × Nat) := [(105, 29, 32, 30), (140, 27, 20, 4), (169, 29, 32, 4)]
theorem mapL_ok : (mapL.all fun x => mapB Tryz.prog x.1 == some x.2) = true := by kernel_rfl
def ptrL : List Nat := [15, 16, 17, 37, 61, 65, 111, 118, 119, 121, 181, 184, 187, 210, 216, 247, 251]
theorem ptrL_ok : (ptrL.all fun x => ptrB Tryz.prog x) = true := by kernel_rfl
theorem zv2 : ZeroV 2 (.v (.int .i64 0)) := zv_of (by kernel_rfl) rfl
theorem zv3 : ZeroV 3 (.v (.int .i64 0)) := zv_of (by kernel_rfl) rfl
theorem zv4 : ZeroV 4 (.v (.bool false)) := zv_of (by kernel_rfl) rfl
theorem zv5 : ZeroV 5 (.v (.int .u8 0)) := zv_of (by kernel_rfl) rfl
theorem zv7 : ZeroV 7 (.tup [.v (.int .i64 0), .v (.int .i64 0), .v (.bool false), .v (.int .u8 0)]) := zv_of (by kernel_rfl) rfl
theorem zv12 : ZeroV 12 (.v (.int .u64 0)) := zv_of (by kernel_rfl) rfl
theorem zv15 : ZeroV 15 (.v (.pointer none)) := zv_of (by kernel_rfl) rfl
theorem zv16 : ZeroV 16 (.v (.pointer none)) := zv_of (by kernel_rfl) rfl
theorem zv17 : ZeroV 17 (.v (.pointer none)) := zv_of (by kernel_rfl) rfl
theorem zv18 : ZeroV 18 (.tup [.v (.pointer none)]) := zv_of (by kernel_rfl) rfl
theorem zv20 : ZeroV 20 (.v .nilIface) := zv_of (by kernel_rfl) rfl
theorem zv21 : ZeroV 21 (.v (.int .i32 0)) := zv_of (by kernel_rfl) rfl
theorem zv22 : ZeroV 22 (.v (.slice none 0 0)) := zv_of (by kernel_rfl) rfl
theorem zv25 : ZeroV 25 (.v (.slice none 0 0)) := zv_of (by kernel_rfl) rfl
theorem zv26 : ZeroV 26 (.arr 20 (List.replicate 20 0)) := zv_of (by kernel_rfl) rfl
theorem zv27 : ZeroV 27 (.arr 20 (List.replicate 20 0)) := zv_of (by kernel_rfl) rfl
theorem zv28 : ZeroV 28 (.arr 32 zero32) := zv_of (by kernel_rfl) rfl
theorem zv29 : ZeroV 29 (.arr 32 zero32) := zv_of (by kernel_rfl) rfl
theorem zv30 : ZeroV 30 (.v (.slice none 0 0)) := zv_of (by kernel_rfl) rfl
theorem zv31 : ZeroV 31 (.tup [.arr 20 (List.replicate 20 0), .v (.int .i64 0), .arr 32 zero32, .v (.slice none 0 0), .v (.slice none 0 0)]) := zv_of (by kernel_rfl) rfl
theorem zv32 : ZeroV 32 (.tup [.arr 20 (List.replicate 20 0), .v (.int .i64 0), .arr 32 zero32, .v (.slice none 0 0), .v (.slice none 0 0)]) := zv_of (by kernel_rfl) rfl
theorem zv35 : ZeroV 35 (.tup [.arr 32 zero32, .arr 32 zero32]) := zv_of (by kernel_rfl) rfl
theorem zv36 : ZeroV 36 (.tup [.arr 32 zero32, .arr 32 zero32]) := zv_of (by kernel_rfl) rfl
theorem zv37 : ZeroV 37 (.v (.pointer none)) := zv_of (by kernel_rfl) rfl
theorem zv38 : ZeroV 38 (.v (.slice none 0 0)) := zv_of (by kernel_rfl) rfl
theorem zv39 : ZeroV 39 (.tup [.v (.slice none 0 0)]) := zv_of (by kernel_rfl) rfl
theorem zv40 : ZeroV 40 (.tup [.v (.slice none 0 0)]) := zv_of (by kernel_rfl) rfl
theorem zv41 : ZeroV 41 (.v (.int .i64 0)) := zv_of (by kernel_rfl) rfl
theorem zv46 : ZeroV 46 (.v (.slice none 0 0)) := zv_of (by kernel_rfl) rfl
theorem zv54 : ZeroV 54 (.tup [.arr 32 zero32, .v (.slice none 0 0)]) := zv_of (by kernel_rfl) rfl
theorem zv55 : ZeroV 55 (.tup [.arr 32 zero32, .v (.slice none 0 0)]) := zv_of (by kernel_rfl) rfl
theorem zv57 : ZeroV 57 (.v (.slice none 0 0)) := zv_of (by kernel_rfl) rfl
theorem zv61 : ZeroV 61 (.v (.pointer none)) := zv_of (by kernel_rfl) rfl
theorem zv62 : ZeroV 62 (.tup [.v (.slice none 0 0)]) := zv_of (by kernel_rfl) rfl
theorem zv63 : ZeroV 63 (.tup [.v (.slice none 0 0)]) := zv_of (by kernel_rfl) rfl
theorem zv65 : ZeroV 65 (.v (.pointer none)) := zv_of (by kernel_rfl) rfl
theorem zv71 : ZeroV 71 (.tup [.v (.slice none 0 0), .v (.slice none 0 0)]) := zv_of (by kernel_rfl) rfl
theorem zv72 : ZeroV 72 (.tup [.v (.slice none 0 0), .v (.slice none 0 0)]) := zv_of (by kernel_rfl) rfl
theorem zv79 : ZeroV 79 (.v (.slice none 0 0)) := zv_of (by kernel_rfl) rfl
theorem zv80 : ZeroV 80 (.tup [.v (.bool false), .v (.slice none 0 0), .v (.slice none 0 0)]) := zv_of (by kernel_rfl) rfl
theorem zv81 : ZeroV 81 (.tup [.v (.bool false), .v (.slice none 0 0), .v (.slice none 0 0)]) := zv_of (by kernel_rfl) rfl
theorem zv92 : ZeroV 92 (.v (.int .u64 0)) := zv_of (by kernel_rfl) rfl
theorem zv101 : ZeroV 101 (.v .nilIface) := zv_of (by kernel_rfl) rfl
theorem zv105 : ZeroV 105 (.v (.map none)) := zv_of (by kernel_rfl) rfl
theorem zv108 : ZeroV 108 (.v (.slice none 0 0)) := zv_of (by kernel_rfl) rfl
theorem zv109 : ZeroV 109 (.tup [.v (.slice none 0 0), .v (.slice none 0 0)]) := zv_of (by kernel_rfl) rfl
theorem zv110 : ZeroV 110 (.tup [.v (.slice none 0 0), .v (.slice none 0 0)]) := zv_of (by kernel_rfl) rfl
theorem zv111 : ZeroV 111 (.v (.pointer none)) := zv_of (by kernel_rfl) rfl
theorem zv112 : ZeroV 112 (.tup [.v (.slice none 0 0), .v (.pointer none), .v (.bool false)]) := zv_of (by kernel_rfl) rfl
theorem zv113 : ZeroV 113 (.tup [.v (.slice none 0 0), .v (.pointer none), .v (.bool false)]) := zv_of (by kernel_rfl) rfl
theorem zv115 : ZeroV 115 (.v (.int .u64 0)) := zv_of (by kernel_rfl) rfl
theorem zv116 : ZeroV 116 (.tup [.v (.int .u64 0), .v (.int .u64 0), .v (.int .u64 0), .v (.int .u64 0), .v (.int .u64 0), .v (.int .u64 0), .v (.int .u64 0), .v (.int .u64 0), .v (.int .u64 0), .v (.int .u64 0), .v (.int .u64 0), .v (.int .u64 0), .v (.int .u64 0), .v (.int .u64 0), .v (.int .u64 0), .v (.int .u64 0), .v (.int .u64 0), .v (.int .u64 0), .v (.int .u64 0), .v (.int .u64 0), .v (.int .u64 0), .v (.int .u64 0), .v (.int .u64 0), .v (.int .u64 0), .v (.int .u64 0)]) := zv_of (by kernel_rfl) rfl
theorem zv118 : ZeroV 118 (.v (.pointer none)) := zv_of (by kernel_rfl) rfl
theorem zv119 : ZeroV 119 (.v (.pointer none)) := zv_of (by kernel_rfl) rfl
theorem zv121 : ZeroV 121 (.v (.pointer none)) := zv_of (by kernel_rfl) rfl
theorem zv122 : ZeroV 122 (.tup [.v (.pointer none), .v (.pointer none), .v (.bool false)]) := zv_of (by kernel_rfl) rfl
theorem zv123 : ZeroV 123 (.tup [.v (.pointer none), .v (.pointer none), .v (.bool false)]) := zv_of (by kernel_rfl) rfl
theorem zv126 : ZeroV 126 (.tup [.v (.pointer none), .v (.pointer none), .v (.pointer none), .v (.pointer none), .v (.pointer none), .v (.pointer none), .v (.pointer none), .v (.pointer none), .v (.pointer none), .v (.pointer none), .v (.pointer none), .v (.pointer none), .v (.pointer none), .v (.pointer none), .v (.pointer none), .v (.pointer none)]) := zv_of (by kernel_rfl) rfl
theorem zv127 : ZeroV 127 (.tup [.v (.int .i64 0), .v (.slice none 0 0), .v (.slice none 0 0), .v (.pointer none), .tup [.v (.pointer none), .v (.pointer none), .v (.pointer none), .v (.pointer none), .v (.pointer none), .v (.pointer none), .v (.pointer none), .v (.pointer none), .v (.pointer none), .v (.pointer none), .v (.pointer none), .v (.pointer none), .v (.pointer none), .v (.pointer none), .v (.pointer none), .v (.pointer none)], .arr 32 zero32, .v (.bool false)]) := zv_of (by kernel_rfl) rfl
theorem zv128 : ZeroV 128 (.tup [.v (.int .i64 0), .v (.slice none 0 0), .v (.slice none 0 0), .v (.pointer none), .tup [.v (.pointer none), .v (.pointer none), .v (.pointer none), .v (.pointer none), .v (.pointer none), .v (.pointer none), .v (.pointer none), .v (.pointer none), .v (.pointer none), .v (.pointer none), .v (.pointer none), .v (.pointer none), .v (.pointer none), .v (.pointer none), .v (.pointer none), .v (.pointer none)], .arr 32 zero32, .v (.bool false)]) := zv_of (by kernel_rfl) rfl
theorem zv138 : ZeroV 138 (.tup [.v (.int .i64 0), .arr 32 zero32, .arr 32 zero32, .arr 32 zero32]) := zv_of (by kernel_rfl) rfl
theorem zv139 : ZeroV 139 (.tup [.v (.int .i64 0), .arr 32 zero32, .arr 32 zero32, .arr 32 zero32]) := zv_of (by kernel_rfl) rfl
theorem zv140 : ZeroV 140 (.v (.map none)) := zv_of (by kernel_rfl) rfl
theorem zv144 : ZeroV 144 (.v (.slice none 0 0)) := zv_of (by kernel_rfl) rfl
theorem zv148 : ZeroV 148 (.arr 32 zero32) := zv_of (by kernel_rfl) rfl
theorem zv151 : ZeroV 151 (.v (.slice none 0 0)) := zv_of (by kernel_rfl) rfl
theorem zv153 : ZeroV 153 (.v (.slice none 0 0)) := zv_of (by kernel_rfl) rfl
theorem zv160 : ZeroV 160 (.tup [.v (.int .u64 0), .v (.int .u64 0), .v (.int .u64 0), .v (.int .u64 0), .v (.int .u64 0)]) := zv_of (by kernel_rfl) rfl
theorem zv169 : ZeroV 169 (.v (.map none)) := zv_of (by kernel_rfl) rfl
theorem zv172 : ZeroV 172 (.v (.slice none 0 0)) := zv_of (by kernel_rfl) rfl
theorem zv173 : ZeroV 173 (.tup [.v (.int .u64 0), .v (.int .u64 0), .v (.int .u64 0), .v (.int .u64 0), .v (.int .u64 0), .v (.int .u64 0), .v (.int .u64 0), .v (.int .u64 0), .v (.int .u64 0), .v (.int .u64 0), .v (.int .u64 0), .v (.int .u64 0), .v (.int .u64 0), .v (.int .u64 0), .v (.int .u64 0), .v (.int .u64 0), .v (.int .u64 0), .v (.int .u64 0), .v (.int .u64 0), .v (.int .u64 0), .v (.int .u64 0), .v (.int .u64 0), .v (.int .u64 0), .v (.int .u64 0), .v (.int .u64 0)]) := zv_of (by kernel_rfl) rfl
theorem zv177 : ZeroV 177 (.tup [.v (.slice none 0 0), .v (.slice none 0 0)]) := zv_of (by kernel_rfl) rfl
theorem zv178 : ZeroV 178 (.tup [.v (.slice none 0 0), .v (.slice none 0 0)]) := zv_of (by kernel_rfl) rfl
theorem zv181 : ZeroV 181 (.v (.pointer none)) := zv_of (by kernel_rfl) rfl
theorem zv182 : ZeroV 182 (.tup [.v (.slice none 0 0), .v (.slice none 0 0)]) := zv_of (by kernel_rfl) rfl
theorem zv183 : ZeroV 183 (.tup [.v (.slice none 0 0), .v (.slice none 0 0)]) := zv_of (by kernel_rfl) rfl
theorem zv184 : ZeroV 184 (.v (.pointer none)) := zv_of (by kernel_rfl) rfl
theorem zv185 : ZeroV 185 (.tup [.v (.slice none 0 0), .v .nilIface]) := zv_of (by kernel_rfl) rfl
theorem zv186 : ZeroV 186 (.tup [.v (.slice none 0 0), .v .nilIface]) := zv_of (by kernel_rfl) rfl
theorem zv187 : ZeroV 187 (.v (.pointer none)) := zv_of (by kernel_rfl) rfl
theorem zv188 : ZeroV 188 (.tup [.v .nilIface, .v .nilIface, .v .nilIface, .v .nilIface, .v .nilIface, .v .nilIface, .v .nilIface, .v .nilIface, .v .nilIface, .v .nilIface, .v .nilIface, .v .nilIface, .v .nilIface, .v .nilIface, .v .nilIface, .v .nilIface]) := zv_of (by kernel_rfl) rfl
theorem zv189 : ZeroV 189 (.tup [.tup [.v .nilIface, .v .nilIface, .v .nilIface, .v .nilIface, .v .nilIface, .v .nilIface, .v .nilIface, .v .nilIface, .v .nilIface, .v .nilIface, .v .nilIface, .v .nilIface, .v .nilIface, .v .nilIface, .v .nilIface, .v .nilIface], .v (.slice none 0 0)]) := zv_of (by kernel_rfl) rfl
theorem zv190 : ZeroV 190 (.tup [.tup [.v .nilIface, .v .nilIface, .v .nilIface, .v .nilIface, .v .nilIface, .v .nilIface, .v .nilIface, .v .nilIface, .v .nilIface, .v .nilIface, .v .nilIface, .v .nilIface, .v .nilIface, .v .nilIface, .v .nilIface, .v .nilIface], .v (.slice none 0 0)]) := zv_of (by kernel_rfl) rfl
theorem zv204 : ZeroV 204 (.v .nilIface) := zv_of (by kernel_rfl) rfl
theorem zv210 : ZeroV 210 (.v (.pointer none)) := zv_of (by kernel_rfl) rfl
theorem zv211 : ZeroV 211 (.tup [.v (.int .i64 0), .v (.int .i64 0), .v (.int .i64 0), .v (.int .i64 0), .v (.int .i64 0), .v (.int .i64 0), .v (.int .i64 0), .v (.int .i64 0), .v (.int .i64 0), .v (.int .i64 0), .v (.int .i64 0), .v (.int .i64 0), .v (.int .i64 0), .v (.int .i64 0), .v (.int .i64 0), .v (.int .i64 0), .v (.int .i64 0), .v (.int .i64 0), .v (.int .i64 0), .v (.int .i64 0), .v (.int .i64 0), .v (.int .i64 0), .v (.int .i64 0), .v (.int .i64 0), .v (.int .i64 0)]) := zv_of (by kernel_rfl) rfl
theorem zv213 : ZeroV 213 (.tup [.v (.int .u64 0), .v (.int .u64 0), .v (.int .u64 0), .v (.int .u64 0), .v (.int .u64 0), .v (.int .u64 0), .v (.int .u64 0), .v (.int .u64 0), .v (.int .u64 0), .v (.int .u64 0), .v (.int .u64 0), .v (.int .u64 0), .v (.int .u64 0), .v (.int .u64 0), .v (.int .u64 0), .v (.int .u64 0), .v (.int .u64 0), .v (.int .u64 0), .v (.int .u64 0), .v (.int .u64 0), .v (.int .u64 0), .v (.int .u64 0), .v (.int .u64 0), .v (.int .u64 0)]) := zv_of (by kernel_rfl) rfl
theorem zv216 : ZeroV 216 (.v (.pointer none)) := zv_of (by kernel_rfl) rfl
theorem zv229 : ZeroV 229 (.v (.int .i64 0)) := zv_of (by kernel_rfl) rfl
theorem zv236 : ZeroV 236 (.v (.int .u32 0)) := zv_of (by kernel_rfl) rfl
theorem zv243 : ZeroV 243 (.v (.int .u64 0)) := zv_of (by kernel_rfl) rfl
theorem zv247 : ZeroV 247 (.v (.pointer none)) := zv_of (by kernel_rfl) rfl
theorem zv251 : ZeroV 251 (.v (.pointer none)) := zv_of (by kernel_rfl) rfl
theorem zv261 : ZeroV 261 (.tup []) := zv_of (by kernel_rfl) rfl
theorem zv262 : ZeroV 262 (.tup [.tup []]) := zv_of (by kernel_rfl) rfl
theorem zvL_ok : AllZV zeroL := ⟨zv2, ⟨zv3, ⟨zv4, ⟨zv5, ⟨zv7, ⟨zv12, ⟨zv15, ⟨zv16, ⟨zv17, ⟨zv18, ⟨zv20, ⟨zv21, ⟨zv22, ⟨zv25, ⟨zv26, ⟨zv27, ⟨zv28, ⟨zv29, ⟨zv30, ⟨zv31, ⟨zv32, ⟨zv35, ⟨zv36, ⟨zv37, ⟨zv38, ⟨zv39, ⟨zv40, ⟨zv41, ⟨zv46, ⟨zv54, ⟨zv55, ⟨zv57, ⟨zv61, ⟨zv62, ⟨zv63, ⟨zv65, ⟨zv71, ⟨zv72, ⟨zv79, ⟨zv80, ⟨zv81, ⟨zv92, ⟨zv101, ⟨zv105, ⟨zv108, ⟨zv109, ⟨zv110, ⟨zv111, ⟨zv112, ⟨zv113, ⟨zv115, ⟨zv116, ⟨zv118, ⟨zv119, ⟨zv121, ⟨zv122, ⟨zv123, ⟨zv126, ⟨zv127, ⟨zv128, ⟨zv138, ⟨zv139, ⟨zv140, ⟨zv144, ⟨zv148, ⟨zv151, ⟨zv153, ⟨zv160, ⟨zv169, ⟨zv172, ⟨zv173, ⟨zv177, ⟨zv178, ⟨zv181, ⟨zv182, ⟨zv183, ⟨zv184, ⟨zv185, ⟨zv186, ⟨zv187, ⟨zv188, ⟨zv189, ⟨zv190, ⟨zv204, ⟨zv210, ⟨zv211, ⟨zv213, ⟨zv216, ⟨zv229, ⟨zv236, ⟨zv243, ⟨zv247, ⟨zv251, ⟨zv261, ⟨zv262, trivial⟩⟩⟩⟩⟩⟩⟩⟩⟩⟩⟩⟩⟩⟩⟩⟩⟩⟩⟩⟩⟩⟩⟩⟩⟩⟩⟩⟩⟩⟩⟩⟩⟩⟩⟩⟩⟩⟩⟩⟩⟩⟩⟩⟩⟩⟩⟩⟩⟩⟩⟩⟩⟩⟩⟩⟩⟩⟩⟩⟩⟩⟩⟩⟩⟩⟩⟩⟩⟩⟩⟩⟩⟩⟩⟩⟩⟩⟩⟩⟩⟩⟩⟩⟩⟩⟩⟩⟩⟩⟩⟩⟩⟩⟩⟩
end E
end Go.Proofs.YtmlajcbabimkjaaGreat
/-
  The abstract machine: the rules as the walk takes them.
  Conditions: none.
-/
namespace Go.Proofs.YtmlajcbabimkjaaGreat
set_option linter.unusedVariables false
open Go.RowKit Mono Rlp
namespace E
def dstB (N : Nat) (d : Option Tmp) : Bool :=
  match d with
  | some t => decide (t < N)
  | none => true
section
variable {N : Nat} {X : Cx N} {S S' : St} {a : Act} {w w' : World} {ops : Array Oper} {o : Oper} {Q : Exit → Act → World → Prop} {l : List Oper} {T : St → List Fr → Prop} {E : List Fr}
theorem dst_of (h : dstB N o.dst = true) : ∀ t, o.dst = some t → t < N := fun t ht => by
  rw [ht] at h
  simpa [dstB] using h
theorem tyI {T sz : Nat} {ag : Bool} (h : assoc tyL T = some (sz, ag)) : Ty Tryz.prog T sz ag := ty_of (by
  have := List.all_eq_true.1 tyL_ok _ (assoc_mem _ _ _ h)
  simpa using this)
theorem slI {T e z y : Nat} (h : assoc slL T = some (e, z, y)) : SlTy T e z := by
  have := List.all_eq_true.1 slL_ok _ (assoc_mem _ _ _ h)
  exact sl_of (y := y) (y' := z) (by simpa using this)
theorem slTI {T e z y : Nat} (h : assoc slL T = some (e, z, y)) (h0 : Nat.blt 0 z = true) : SlT Tryz.prog T e z y := by
  have := List.all_eq_true.1 slL_ok _ (assoc_mem _ _ _ h)
  exact slT_of (by simpa using this) (by simpa using h0)
theorem arI' {T n e z : Nat} (h : assoc arL T = some (n, e, z)) : ArTy T n e z := by
  have := List.all_eq_true.1 arL_ok _ (assoc_mem _ _ _ h)
  exact ar_of (by simpa using this)
theorem fldI {T k off sz : Nat} {ag : Bool} {l : List (Nat × Nat × Bool)} (h : assoc stL T = some l) (hk : l[k]? = some (off, sz, ag)) (h0 : Nat.blt 0 sz = true) : Fld Tryz.prog T k off sz ag := by
  have := List.all_eq_true.1 stL_ok _ (assoc_mem _ _ _ h)
  exact st_fld (by simpa using this) hk (by simpa using h0)
theorem stI {T : Nat} {l : List (Nat × Nat × Bool)} (h : assoc stL T = some l) : StTy T (l.map fun x => (x.1, x.2.1)) := by
  have := List.all_eq_true.1 stL_ok _ (assoc_mem _ _ _ h)
  exact st_of (by simpa using this)
theorem zeroI {T : Nat} {d : D} (h : assoc zeroL T = some d) : Zero T d := AllZ.get _ _ _ zeroL_ok h
variable {rs : List (Tmp × R)} {os : List Obj} {fs : List (Value × D)}
theorem dst_lt {t : Tmp} (hd : o.dst = some t) (hN : Nat.blt t N = true) : ∀ u, o.dst = some u → u < N := fun u hu => by
  rw [hd] at hu
  cases hu
  simpa using hN
theorem ES.still {t : Tmp} {r : R} (hO : Still ops ⟨rs, os, fs⟩ o r) (hg : guardOf ops ⟨rs, os, fs⟩ o = some true) (hd : o.dst = some t) (hN : Nat.blt t N = true) (k : EL X ops Q l ⟨(t, r) :: rs, os, fs⟩) : EL X ops Q (o :: l) ⟨rs, os, fs⟩ :=
  EL.still hg (dst_lt hd hN) hO (by rw [hd]; exact k)
theorem ES.skip {t : Tmp} (hg : guardOf ops ⟨rs, os, fs⟩ o = some false) (hd : o.dst = some t) (hN : Nat.blt t N = true) (k : EL X ops Q l ⟨(t, .tpl []) :: rs, os, fs⟩) : EL X ops Q (o :: l) ⟨rs, os, fs⟩ := EL.skip hg (dst_lt hd hN) (by rw [hd]; exact k)
theorem ES.alloc {t : Tmp} {T : TypeId} {d : D} (ho : o.op = .alloc T) (hz : assoc zeroL T = some d) (hg : guardOf ops ⟨rs, os, fs⟩ o = some true) (hd : o.dst = some t) (hN : Nat.blt t N = true)
    (k : ∀ g, EL X ops Q l ⟨(t, .val (.v (.pointer (some ⟨g, 0, none⟩)))) :: rs, .var g T d :: os, fs⟩) : EL X ops Q (o :: l) ⟨rs, os, fs⟩ := EL.alloc ho hg (dst_lt hd hN) (zeroI hz) fun g => by rw [hd]; exact k g
theorem ES.box {t : Tmp} {T : TypeId} {x : Operand} {d : D} (ho : o.op = .box T x) (hx : ev ⟨rs, os, fs⟩ x = some (.val d)) (hg : guardOf ops ⟨rs, os, fs⟩ o = some true) (hd : o.dst = some t) (hN : Nat.blt t N = true)
    (k : ∀ g, EL X ops Q l ⟨(t, .val (.v (.pointer (some ⟨g, 0, none⟩)))) :: rs, .var g T d :: os, fs⟩) : EL X ops Q (o :: l) ⟨rs, os, fs⟩ := EL.box ho hg (dst_lt hd hN) hx fun g => by rw [hd]; exact k g
theorem RefineL.refl (F : List (Value × D)) : ∀ ds : List D, RefineL F ds ds
  | [] => by rw [RefineL]
  | d :: ds => by
    rw [RefineL]
    refine ⟨d, ds, rfl, ?_, RefineL.refl F ds⟩
    exact Refine.refl F d
where Refine.refl (F : List (Value × D)) : ∀ d : D, Refine F d d
  | .v x => by rw [Refine]; exact .inl rfl
  | .tup ds => by rw [Refine]; exact ⟨ds, rfl, RefineL.refl F ds⟩
  | .arr n l => by rw [Refine]
  | .bs l => by rw [Refine]
  | .sl z ds => by rw [Refine]
  | .pd d => by rw [Refine]
  | .ifc t d => by rw [Refine]
theorem RefineL.readVs {ok : Nat → Prop} {F : List (Value × D)} (hF : ∀ f ∈ F, Reads ok w f.2 [f.1]) : ∀ (ds l : List D) (xs : List Value), RefineL F ds l → ReadVs ok w ds xs → ReadVs ok w l xs
  | [], l, xs, h, hr => by rw [RefineL] at h; subst h; exact hr
  | d :: ds, l, xs, h, hr => by
    rw [RefineL] at h
    obtain ⟨d', ds', rfl, h1, h2⟩ := h
    obtain ⟨x, rest, rfl, h3, h4⟩ := hr
    exact ⟨x, rest, rfl, h1.readV hF h3, RefineL.readVs hF ds ds' rest h2 h4⟩
theorem g_callR {f : FuncId} {args : Array Operand} {tys : Array TypeId} {ds ds' : List D} {Φ : R → Prop} (hF : Fn f ds' Φ) (ho : o.op = .call { callee := .value (.func f), args := args, argTypes := tys }) (hx : evs S args.toList = some ds) (hf : Enters f) (hR : RefineL S.facts ds ds') : Grows ops S o Φ := fun base ok a w ha => by
  have hr := RefineL.readVs ha.facts _ _ _ hR (ha.evs _ _ hx fun t ht => looks_of (x := .tmp t) rfl (by rw [ho]; simp only [Op.operands, Call.operands]; simp; simpa using ht))
  have hrun : (execOp a.eval o).run Tryz.prog w = .ok (.enter f (args.map a.eval)) w := by
    unfold execOp
    simp [ho, resolve, Act.eval, Deferred.ofValue, invoke, hf (args.map a.eval) w]
  rw [hrun]
  refine ⟨Gr.refl w, ?_⟩
  have := hF.go ok w _ ha.lt hr
  have he : (args.toList.map a.eval).toArray = args.map a.eval := by
    apply Array.ext'
    simp
  rw [he] at this
  refine this.mono ?_
  rintro e w' ⟨hg, v, r, rfl, hr, hv⟩
  exact ⟨v, rfl, hg, r, hr, hv⟩
theorem ES.call {t : Tmp} {f : FuncId} {args : Array Operand} {tys : Array TypeId} {ds ds' : List D} {r : R} (hF : Fn f ds' (· = r)) (ho : o.op = .call { callee := .value (.func f), args := args, argTypes := tys }) (hx : evs ⟨rs, os, fs⟩ args.toList = some ds) (hf : Enters f) (hR : RefineL fs ds ds') (hg : guardOf ops ⟨rs, os, fs⟩ o = some true) (hd : o.dst = some t) (hN : Nat.blt t N = true) (k : EL X ops Q l ⟨(t, r) :: rs, os, fs⟩) : EL X ops Q (o :: l) ⟨rs, os, fs⟩ :=
  EL.grow hg (dst_lt hd hN) (g_callR hF ho hx hf hR) (by rw [hd]; exact k)
theorem ES.callE {t : Tmp} {f : FuncId} {args : Array Operand} {tys : Array TypeId} {ds ds' : List D} {Φ : R → Prop} (hF : Fn f ds' Φ) (ho : o.op = .call { callee := .value (.func f), args := args, argTypes := tys }) (hx : evs ⟨rs, os, fs⟩ args.toList = some ds) (hf : Enters f) (hR : RefineL fs ds ds') (hg : guardOf ops ⟨rs, os, fs⟩ o = some true) (hd : o.dst = some t) (hN : Nat.blt t N = true) (k : ∀ r, Φ r → EL X ops Q l ⟨(t, r) :: rs, os, fs⟩) : EL X ops Q (o :: l) ⟨rs, os, fs⟩ :=
  EL.growE hg (dst_lt hd hN) (g_callR hF ho hx hf hR) fun r hr => by rw [hd]; exact k r hr
theorem ES.grow {t : Tmp} {r : R} (hO : Grows ops ⟨rs, os, fs⟩ o (· = r)) (hg : guardOf ops ⟨rs, os, fs⟩ o = some true) (hd : o.dst = some t) (hN : Nat.blt t N = true) (k : EL X ops Q l ⟨(t, r) :: rs, os, fs⟩) : EL X ops Q (o :: l) ⟨rs, os, fs⟩ := EL.grow hg (dst_lt hd hN) hO (by rw [hd]; exact k)
theorem EH.still {t : Tmp} {r : R} (hO : Still ops ⟨rs, os, fs⟩ o r) (hg : guardOf ops ⟨rs, os, fs⟩ o = some true) (ht : o.dst = some t) (hd : offB N (some t) E = true) (k : EM N ops T l ⟨(t, r) :: rs, os, fs⟩ E) : EM N ops T (o :: l) ⟨rs, os, fs⟩ E := EM.still hg (by rw [ht]; exact hd) hO (by rw [ht]; exact k)
theorem EH.skip {t : Tmp} (hg : guardOf ops ⟨rs, os, fs⟩ o = some false) (ht : o.dst = some t) (hd : offB N (some t) E = true) (k : EM N ops T l ⟨(t, .tpl []) :: rs, os, fs⟩ E) : EM N ops T (o :: l) ⟨rs, os, fs⟩ E := EM.skip hg (by rw [ht]; exact hd) (by rw [ht]; exact k)
theorem EH.grow {t : Tmp} {r : R} (hO : Grows ops ⟨rs, os, fs⟩ o (· = r)) (hg : guardOf ops ⟨rs, os, fs⟩ o = some true) (ht : o.dst = some t) (hd : offB N (some t) E = true) (k : EM N ops T l ⟨(t, r) :: rs, os, fs⟩ E) : EM N ops T (o :: l) ⟨rs, os, fs⟩ E := EM.grow hg (by rw [ht]; exact hd) hO (by rw [ht]; exact k)
theorem EH.call {t : Tmp} {f : FuncId} {args : Array Operand} {tys : Array TypeId} {ds ds' : List D} {r : R} (hF : Fn f ds' (· = r)) (ho : o.op = .call { callee := .value (.func f), args := args, argTypes := tys }) (hx : evs ⟨rs, os, fs⟩ args.toList = some ds) (hf : Enters f) (hR : RefineL fs ds ds') (hg : guardOf ops ⟨rs, os, fs⟩ o = some true) (ht : o.dst = some t) (hd : offB N (some t) E = true) (k : EM N ops T l ⟨(t, r) :: rs, os, fs⟩ E) : EM N ops T (o :: l) ⟨rs, os, fs⟩ E :=
  EM.grow hg (by rw [ht]; exact hd) (g_callR hF ho hx hf hR) (by rw [ht]; exact k)
theorem EH.alloc {t : Tmp} {Ty : TypeId} {d : D} (ho : o.op = .alloc Ty) (hz : assoc zeroL Ty = some d) (ht : o.dst = some t) (hg : guardOf ops ⟨rs, os, fs⟩ o = some true) (hd : offB N (some t) E = true) (k : EM N ops T l ⟨(t, .any) :: rs, os, fs⟩ (E ++ [(t, Ty, d)])) : EM N ops T (o :: l) ⟨rs, os, fs⟩ E := EM.new hg ht hd (n_alloc ho (zeroI hz)) k
theorem EH.box {t : Tmp} {Ty : TypeId} {x : Operand} {d : D} (ho : o.op = .box Ty x) (hx : ev ⟨rs, os, fs⟩ x = some (.val d)) (ht : o.dst = some t) (hg : guardOf ops ⟨rs, os, fs⟩ o = some true) (hd : offB N (some t) E = true) (k : EM N ops T l ⟨(t, .any) :: rs, os, fs⟩ (E ++ [(t, Ty, d)])) : EM N ops T (o :: l) ⟨rs, os, fs⟩ E := EM.new hg ht hd (n_box ho hx) k
theorem g_buildI {T : Nat} {parts : Array (Nat × Operand)} {l : List (Nat × Nat × Bool)} {d0 d : D} {ps : List (Nat × D)} (ho : o.op = .build T parts) (hx : evps S parts.toList = some ps) (hT : assoc stL T = some l) (hz : assoc zeroL T = some d0) (hd0 : d0.agg = true) (hf : fillD (l.map fun x => (x.1, x.2.1)) d0 ps = some d) : Still ops S o (.val d) := g_build ho hx (stI hT) (zeroI hz) hd0 hf
theorem g_build0I {T n e z : Nat} {d : D} (ho : o.op = .build T #[]) (hT : assoc arL T = some (n, e, z)) (hz : assoc zeroL T = some d) (hd : d.agg = true) : Still ops S o (.val d) := g_build0 ho (arI' hT) (zeroI hz) hd
def litB (n z : Nat) : Bool := Nat.blt 0 n && Nat.blt 0 z && Nat.ble (n * z) 16777216
def allB (z : Nat) (ps : List (Nat × D)) : Bool := ps.all fun p => p.2.size == z
theorem g_slice_litI {T e z y n : Nat} {parts : Array (Nat × Operand)} {ps : List (Nat × D)} {ds : List D} {d0 : D} (ho : o.op = .buildSlice T n parts) (hx : evps S parts.toList = some ps) (hT : assoc slL T = some (e, z, y)) (hz : assoc zeroL e = some d0) (hin : inRow 0 ps = some ds) (hsz : allB z ps = true) (hn : ps.length = n) (h0 : litB n z = true) : Grows ops S o (· = .val (.sl z ds)) := by
  simp only [litB, Bool.and_eq_true, Nat.blt_eq, Nat.ble_eq] at h0
  exact g_slice_lit ho hx (slI hT) (zeroI hz) hin (fun p hp => by simpa using List.all_eq_true.1 hsz p hp) hn h0.1 h0.2
theorem g_fieldI {x : Operand} {T k off sz g n : Nat} {ag : Bool} {l : List (Nat × Nat × Bool)} (ho : o.op = .fieldAddr T x k) (hx : ev S x = some (.val (.v (.pointer (some ⟨g, n, none⟩))))) (h : assoc stL T = some l) (hk : l[k]? = some (off, sz, ag)) (h0 : Nat.blt 0 sz = true) : Still ops S o (.val (.v (.pointer (some ⟨g, n + off, none⟩)))) := g_field ho hx (fldI h hk h0)
theorem g_field_pdI {x : Operand} {T k off sz : Nat} {ag : Bool} {d d' : D} {l : List (Nat × Nat × Bool)} (ho : o.op = .fieldAddr T x k) (hx : ev S x = some (.val (.pd d))) (h : assoc stL T = some l) (hk : l[k]? = some (off, sz, ag)) (h0 : Nat.blt 0 sz = true) (hs : d.sub off sz ag = some d') : Still ops S o (.val (.pd d')) := g_field_pd ho hx (fldI h hk h0) hs
theorem g_loadI {x : Operand} {T sz g n : Nat} {ag : Bool} {t : TypeId} {d d' : D} (i : Nat) (ho : o.op = .load T x) (hx : ev S x = some (.val (.v (.pointer (some ⟨g, n, none⟩))))) (hi : S.objs[i]? = some (.var g t d)) (hT : assoc tyL T = some (sz, ag)) (hs : d.sub n sz ag = some d') : Still ops S o (.val d') := g_load i ho hx hi (tyI hT) hs
theorem g_load_pdI {x : Operand} {T sz : Nat} {ag : Bool} {d d' : D} (ho : o.op = .load T x) (hx : ev S x = some (.val (.pd d))) (hT : assoc tyL T = some (sz, ag)) (hs : d.sub 0 sz ag = some d') : Still ops S o (.val d') := g_load_pd ho hx (tyI hT) hs
theorem g_indexI {x y : Operand} {T e z b : Nat} {k : Int} {ds : List D} (ho : o.op = .indexAddr T x y) (hx : ev S x = some (.val (.sl z ds))) (hy : ev S y = some (.val (.v (.int .i64 k)))) (hT : assoc slL T = some (e, z, b)) (hz : Nat.blt 0 z = true) (h0 : 0 ≤ k) (hk : k.toNat < ds.length) : Still ops S o (.val (.pd ds[k.toNat])) := g_index ho hx hy (slI hT) (by simpa using hz) h0 hk
theorem g_index_bsI {x y : Operand} {T e b : Nat} {k : Int} {l : List UInt8} (ho : o.op = .indexAddr T x y) (hx : ev S x = some (.val (.bs l))) (hy : ev S y = some (.val (.v (.int .i64 k)))) (hT : assoc slL T = some (e, 1, b)) (h0 : 0 ≤ k) (hk : k.toNat < l.length) : Still ops S o (.val (.pd (.v (bv l[k.toNat])))) := g_index_bs ho hx hy (slI hT) h0 hk
theorem g_len_bsI {x : Operand} {T e z y : Nat} {l : List UInt8} (ho : o.op = .call { callee := .builtin .len, args := #[x], argTypes := #[T] }) (hx : ev S x = some (.val (.bs l))) (hT : assoc slL T = some (e, z, y)) : Still ops S o (.val (.v (.int .i64 l.length))) := g_len_bs ho hx (slI hT).und
theorem g_len_slI {x : Operand} {T e z y z' : Nat} {ds : List D} (ho : o.op = .call { callee := .builtin .len, args := #[x], argTypes := #[T] }) (hx : ev S x = some (.val (.sl z' ds))) (hT : assoc slL T = some (e, z, y)) : Still ops S o (.val (.v (.int .i64 ds.length))) := g_len_sl ho hx (slI hT).und
theorem g_len_nilI {x : Operand} {T e n c z y : Nat} {A : Option Addr} (ho : o.op = .call { callee := .builtin .len, args := #[x], argTypes := #[T] }) (hx : ev S x = some (.val (.v (.slice A n c)))) (hT : assoc slL T = some (e, z, y)) : Still ops S o (.val (.v (.int .i64 n))) := g_len_nil ho hx (slI hT).und
theorem ES.append {t : Tmp} {T e z y : Nat} {s x : Operand} {v : Value} {ds es : List D} (i : Nat) (ho : o.op = .call { callee := .builtin .append, args := #[s, x], argTypes := #[T, T] }) (hT : assoc slL T = some (e, z, y)) (hz : Nat.blt 0 z = true)
    (hs : ev ⟨rs, os, fs⟩ s = some (.val (.v v))) (hi : os[i]? = some (.row v e z ds)) (hx : ev ⟨rs, os, fs⟩ x = some (.val (.sl z es))) (hg : guardOf ops ⟨rs, os, fs⟩ o = some true) (hd : o.dst = some t) (hN : Nat.blt t N = true) (hlen : (ds.length + es.length) * y ≤ 140737488355328 ∧ ds.length + es.length ≤ 9223372036854775807)
    (k : ∀ v', EL X ops Q l ⟨(t, .val (.v v')) :: rs, os.set i (.row v' e z (ds ++ es)), fs⟩) : EL X ops Q (o :: l) ⟨rs, os, fs⟩ := EL.append i ho hg (dst_lt hd hN) (slTI hT hz) hs hi hx hlen fun v' => by rw [hd]; exact k v'
theorem EH.nil {l' : List Oper} {F : List Fr} (hF : F = []) (h : EL X ops Q l' S) : EM N ops (fun S' E => openF (EL X ops Q l') E S') [] S F := by
  subst hF
  exact h
end
end E
end Go.Proofs.YtmlajcbabimkjaaGreat
