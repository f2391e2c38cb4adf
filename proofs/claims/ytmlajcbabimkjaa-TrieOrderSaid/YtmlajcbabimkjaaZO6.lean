/-
  Merged (wip/tools/merge.py): ETy, E9.
  Conditions: none.
-/
import Derived.Test.YtmlajcbabimkjaaZO5
/-
  The program's types, as tables: sizes, elements, fields, zero values. (Printed by wip/tools/ety.py; each row is held against the program.)
  Conditions: none.
-/
namespace Go.Proofs.Ytmlajcbabimkjaa
open Go.RowKit Mono Rlp
namespace E
def tyL : List (Nat × Nat × Bool) := [(2, 1, false), (3, 1, false), (4, 1, false), (5, 1, false), (7, 4, true), (9, 1, false), (12, 1, false), (13, 2, true), (15, 1, false), (16, 1, false), (17, 1, false), (18, 1, true), (21, 1, false), (22, 1, false), (23, 1, false), (27, 2, true), (28, 2, true), (30, 1, false), (31, 32, true), (32, 32, true), (33, 1, false), (38, 1, false), (39, 1, false), (40, 3, true), (41, 3, true), (49, 1, false), (53, 1, false), (56, 20, true), (57, 20, true), (58, 1, false), (59, 55, true), (60, 55, true), (61, 64, true), (62, 64, true), (66, 97, true), (67, 97, true), (77, 1, false), (78, 1, true), (79, 1, true), (87, 1, false), (88, 25, true), (90, 1, false), (91, 1, false), (92, 1, false), (113, 1, false), (115, 2, true), (116, 2, true), (117, 1, false), (118, 3, true), (119, 3, true), (121, 1, false), (125, 32, true), (130, 5, true), (132, 1, false), (134, 1, false), (137, 1, false), (140, 33, true), (141, 33, true), (142, 1, false), (161, 2, true), (162, 2, true), (165, 1, false), (166, 2, true), (167, 2, true), (168, 1, false), (169, 2, true), (170, 2, true), (171, 1, false), (172, 16, true), (173, 17, true), (174, 17, true), (175, 1, false), (176, 25, true), (196, 1, false), (197, 25, true), (199, 24, true), (202, 1, false), (207, 1, false), (209, 1, false), (216, 1, false), (224, 1, false), (228, 1, false), (232, 1, false), (240, 4, true), (242, 0, true), (243, 0, true), (251, 11, true), (20, 1, false), (80, 1, false), (145, 1, false)]
theorem tyL_ok : (tyL.all fun x => tyB Try.prog x.1 == some x.2) = true := by kernel_rfl
def slL : List (Nat × Nat × Nat × Nat) := [(22, 28, 2, 48), (23, 5, 1, 1), (30, 22, 1, 24), (39, 41, 3, 56), (49, 141, 33, 56), (53, 60, 55, 112), (58, 62, 64, 64), (113, 116, 2, 48), (121, 162, 2, 48), (132, 80, 1, 16), (134, 32, 32, 32), (175, 23, 1, 24)]
theorem slL_ok : (slL.all fun x => slB Try.prog x.1 == some (x.2.1, x.2.2.1, x.2.2.2, x.2.2.1)) = true := by kernel_rfl
def arL : List (Nat × Nat × Nat × Nat) := [(31, 32, 5, 1), (32, 32, 5, 1), (56, 20, 5, 1), (57, 20, 5, 1), (88, 25, 87, 1), (125, 32, 5, 1), (130, 5, 87, 1), (172, 16, 80, 1), (176, 25, 87, 1), (197, 25, 3, 1), (199, 24, 87, 1), (242, 0, 16, 1)]
theorem arL_ok : (arL.all fun x => arB Try.prog x.1 == some x.2) = true := by kernel_rfl
def stL : List (Nat × List (Nat × Nat × Bool)) := [(7, [(0, 1, false), (1, 1, false), (2, 1, false), (3, 1, false)]), (13, [(0, 1, false), (1, 1, false)]), (18, [(0, 1, false)]), (27, [(0, 1, false), (1, 1, false)]), (28, [(0, 1, false), (1, 1, false)]), (40, [(0, 1, false), (1, 1, false), (2, 1, false)]), (41, [(0, 1, false), (1, 1, false), (2, 1, false)]), (59, [(0, 20, true), (20, 1, false), (21, 32, true), (53, 1, false), (54, 1, false)]), (60, [(0, 20, true), (20, 1, false), (21, 32, true), (53, 1, false), (54, 1, false)]), (61, [(0, 32, true), (32, 32, true)]), (62, [(0, 32, true), (32, 32, true)]), (66, [(0, 1, false), (1, 32, true), (33, 32, true), (65, 32, true)]), (67, [(0, 1, false), (1, 32, true), (33, 32, true), (65, 32, true)]), (78, [(0, 1, false)]), (79, [(0, 1, false)]), (115, [(0, 1, false), (1, 1, false)]), (116, [(0, 1, false), (1, 1, false)]), (118, [(0, 1, false), (1, 1, false), (2, 1, false)]), (119, [(0, 1, false), (1, 1, false), (2, 1, false)]), (140, [(0, 32, true), (32, 1, false)]), (141, [(0, 32, true), (32, 1, false)]), (161, [(0, 1, false), (1, 1, false)]), (162, [(0, 1, false), (1, 1, false)]), (166, [(0, 1, false), (1, 1, false)]), (167, [(0, 1, false), (1, 1, false)]), (169, [(0, 1, false), (1, 1, false)]), (170, [(0, 1, false), (1, 1, false)]), (173, [(0, 16, true), (16, 1, false)]), (174, [(0, 16, true), (16, 1, false)]), (240, [(0, 1, false), (1, 1, false), (2, 1, false), (3, 1, false)]), (243, [(0, 0, true)]), (251, [(0, 1, false), (1, 1, false), (2, 1, false), (3, 1, false), (4, 1, false), (5, 1, false), (6, 1, false), (7, 1, false), (8, 1, false), (9, 1, false), (10, 1, false)])]
theorem stL_ok : (stL.all fun x => stB Try.prog x.1 == some x.2) = true := by kernel_rfl
def zeroL : List (Nat × D) := [(2, .v (.int .i64 0)), (3, .v (.int .i64 0)), (4, .v (.bool false)), (5, .v (.int .u8 0)), (7, .tup [.v (.int .i64 0), .v (.int .i64 0), .v (.bool false), .v (.int .u8 0)]), (12, .v (.int .u64 0)), (15, .v (.pointer none)), (16, .v (.pointer none)), (17, .v (.pointer none)), (18, .tup [.v (.pointer none)]), (20, .v .nilIface), (21, .v (.int .i32 0)), (22, .v (.slice none 0 0)), (23, .v (.slice none 0 0)), (27, .tup [.v (.slice none 0 0), .v (.slice none 0 0)]), (28, .tup [.v (.slice none 0 0), .v (.slice none 0 0)]), (30, .v (.slice none 0 0)), (31, .arr 32 zero32), (32, .arr 32 zero32), (33, .v (.int .i64 0)), (38, .v (.int .u64 0)), (39, .v (.slice none 0 0)), (40, .tup [.v (.bool false), .v (.slice none 0 0), .v (.slice none 0 0)]), (41, .tup [.v (.bool false), .v (.slice none 0 0), .v (.slice none 0 0)]), (49, .v (.slice none 0 0)), (53, .v (.slice none 0 0)), (56, .arr 20 (List.replicate 20 0)), (57, .arr 20 (List.replicate 20 0)), (58, .v (.slice none 0 0)), (59, .tup [.arr 20 (List.replicate 20 0), .v (.int .i64 0), .arr 32 zero32, .v (.slice none 0 0), .v (.slice none 0 0)]), (60, .tup [.arr 20 (List.replicate 20 0), .v (.int .i64 0), .arr 32 zero32, .v (.slice none 0 0), .v (.slice none 0 0)]), (61, .tup [.arr 32 zero32, .arr 32 zero32]), (62, .tup [.arr 32 zero32, .arr 32 zero32]), (66, .tup [.v (.int .i64 0), .arr 32 zero32, .arr 32 zero32, .arr 32 zero32]), (67, .tup [.v (.int .i64 0), .arr 32 zero32, .arr 32 zero32, .arr 32 zero32]), (77, .v (.pointer none)), (78, .tup [.v (.slice none 0 0)]), (79, .tup [.v (.slice none 0 0)]), (80, .v .nilIface), (87, .v (.int .u64 0)), (88, .tup [.v (.int .u64 0), .v (.int .u64 0), .v (.int .u64 0), .v (.int .u64 0), .v (.int .u64 0), .v (.int .u64 0), .v (.int .u64 0), .v (.int .u64 0), .v (.int .u64 0), .v (.int .u64 0), .v (.int .u64 0), .v (.int .u64 0), .v (.int .u64 0), .v (.int .u64 0), .v (.int .u64 0), .v (.int .u64 0), .v (.int .u64 0), .v (.int .u64 0), .v (.int .u64 0), .v (.int .u64 0), .v (.int .u64 0), .v (.int .u64 0), .v (.int .u64 0), .v (.int .u64 0), .v (.int .u64 0)]), (90, .v (.pointer none)), (91, .v (.pointer none)), (92, .v (.map none)), (113, .v (.slice none 0 0)), (115, .tup [.v (.slice none 0 0), .v (.slice none 0 0)]), (116, .tup [.v (.slice none 0 0), .v (.slice none 0 0)]), (117, .v (.pointer none)), (118, .tup [.v (.slice none 0 0), .v (.pointer none), .v (.bool false)]), (119, .tup [.v (.slice none 0 0), .v (.pointer none), .v (.bool false)]), (121, .v (.slice none 0 0)), (125, .arr 32 zero32), (130, .tup [.v (.int .u64 0), .v (.int .u64 0), .v (.int .u64 0), .v (.int .u64 0), .v (.int .u64 0)]), (132, .v (.slice none 0 0)), (134, .v (.slice none 0 0)), (140, .tup [.arr 32 zero32, .v (.slice none 0 0)]), (141, .tup [.arr 32 zero32, .v (.slice none 0 0)]), (142, .v (.map none)), (145, .v .nilIface), (161, .tup [.v (.slice none 0 0), .v (.slice none 0 0)]), (162, .tup [.v (.slice none 0 0), .v (.slice none 0 0)]), (165, .v (.pointer none)), (166, .tup [.v (.slice none 0 0), .v (.slice none 0 0)]), (167, .tup [.v (.slice none 0 0), .v (.slice none 0 0)]), (168, .v (.pointer none)), (169, .tup [.v (.slice none 0 0), .v .nilIface]), (170, .tup [.v (.slice none 0 0), .v .nilIface]), (171, .v (.pointer none)), (172, .tup [.v .nilIface, .v .nilIface, .v .nilIface, .v .nilIface, .v .nilIface, .v .nilIface, .v .nilIface, .v .nilIface, .v .nilIface, .v .nilIface, .v .nilIface, .v .nilIface, .v .nilIface, .v .nilIface, .v .nilIface, .v .nilIface]), (173, .tup [.tup [.v .nilIface, .v .nilIface, .v .nilIface, .v .nilIface, .v .nilIface, .v .nilIface, .v .nilIface, .v .nilIface, .v .nilIface, .v .nilIface, .v .nilIface, .v .nilIface, .v .nilIface, .v .nilIface, .v .nilIface, .v .nilIface], .v (.slice none 0 0)]), (174, .tup [.tup [.v .nilIface, .v .nilIface, .v .nilIface, .v .nilIface, .v .nilIface, .v .nilIface, .v .nilIface, .v .nilIface, .v .nilIface, .v .nilIface, .v .nilIface, .v .nilIface, .v .nilIface, .v .nilIface, .v .nilIface, .v .nilIface], .v (.slice none 0 0)]), (175, .v (.slice none 0 0)), (176, .tup [.v (.int .u64 0), .v (.int .u64 0), .v (.int .u64 0), .v (.int .u64 0), .v (.int .u64 0), .v (.int .u64 0), .v (.int .u64 0), .v (.int .u64 0), .v (.int .u64 0), .v (.int .u64 0), .v (.int .u64 0), .v (.int .u64 0), .v (.int .u64 0), .v (.int .u64 0), .v (.int .u64 0), .v (.int .u64 0), .v (.int .u64 0), .v (.int .u64 0), .v (.int .u64 0), .v (.int .u64 0), .v (.int .u64 0), .v (.int .u64 0), .v (.int .u64 0), .v (.int .u64 0), .v (.int .u64 0)]), (196, .v (.pointer none)), (197, .tup [.v (.int .i64 0), .v (.int .i64 0), .v (.int .i64 0), .v (.int .i64 0), .v (.int .i64 0), .v (.int .i64 0), .v (.int .i64 0), .v (.int .i64 0), .v (.int .i64 0), .v (.int .i64 0), .v (.int .i64 0), .v (.int .i64 0), .v (.int .i64 0), .v (.int .i64 0), .v (.int .i64 0), .v (.int .i64 0), .v (.int .i64 0), .v (.int .i64 0), .v (.int .i64 0), .v (.int .i64 0), .v (.int .i64 0), .v (.int .i64 0), .v (.int .i64 0), .v (.int .i64 0), .v (.int .i64 0)]), (199, .tup [.v (.int .u64 0), .v (.int .u64 0), .v (.int .u64 0), .v (.int .u64 0), .v (.int .u64 0), .v (.int .u64 0), .v (.int .u64 0), .v (.int .u64 0), .v (.int .u64 0), .v (.int .u64 0), .v (.int .u64 0), .v (.int .u64 0), .v (.int .u64 0), .v (.int .u64 0), .v (.int .u64 0), .v (.int .u64 0), .v (.int .u64 0), .v (.int .u64 0), .v (.int .u64 0), .v (.int .u64 0), .v (.int .u64 0), .v (.int .u64 0), .v (.int .u64 0), .v (.int .u64 0)]), (202, .v (.pointer none)), (207, .v (.map none)), (209, .v (.int .i64 0)), (216, .v (.int .u32 0)), (224, .v (.int .u64 0)), (228, .v (.pointer none)), (232, .v (.pointer none)), (242, .tup []), (243, .tup [.tup []])]
theorem zeroT2 : Zero 2 (.v (.int .i64 0)) := zero_of (by kernel_rfl) rfl
theorem zeroT3 : Zero 3 (.v (.int .i64 0)) := zero_of (by kernel_rfl) rfl
theorem zeroT4 : Zero 4 (.v (.bool false)) := zero_of (by kernel_rfl) rfl
theorem zeroT5 : Zero 5 (.v (.int .u8 0)) := zero_of (by kernel_rfl) rfl
theorem zeroT7 : Zero 7 (.tup [.v (.int .i64 0), .v (.int .i64 0), .v (.bool false), .v (.int .u8 0)]) := zero_of (by kernel_rfl) rfl
theorem zeroT12 : Zero 12 (.v (.int .u64 0)) := zero_of (by kernel_rfl) rfl
theorem zeroT15 : Zero 15 (.v (.pointer none)) := zero_of (by kernel_rfl) rfl
theorem zeroT16 : Zero 16 (.v (.pointer none)) := zero_of (by kernel_rfl) rfl
theorem zeroT17 : Zero 17 (.v (.pointer none)) := zero_of (by kernel_rfl) rfl
theorem zeroT18 : Zero 18 (.tup [.v (.pointer none)]) := zero_of (by kernel_rfl) rfl
theorem zeroT20 : Zero 20 (.v .nilIface) := zero_of (by kernel_rfl) rfl
theorem zeroT21 : Zero 21 (.v (.int .i32 0)) := zero_of (by kernel_rfl) rfl
theorem zeroT22 : Zero 22 (.v (.slice none 0 0)) := zero_of (by kernel_rfl) rfl
theorem zeroT23 : Zero 23 (.v (.slice none 0 0)) := zero_of (by kernel_rfl) rfl
theorem zeroT27 : Zero 27 (.tup [.v (.slice none 0 0), .v (.slice none 0 0)]) := zero_of (by kernel_rfl) rfl
theorem zeroT28 : Zero 28 (.tup [.v (.slice none 0 0), .v (.slice none 0 0)]) := zero_of (by kernel_rfl) rfl
theorem zeroT30 : Zero 30 (.v (.slice none 0 0)) := zero_of (by kernel_rfl) rfl
theorem zeroT31 : Zero 31 (.arr 32 zero32) := zero_of (by kernel_rfl) rfl
theorem zeroT32 : Zero 32 (.arr 32 zero32) := zero_of (by kernel_rfl) rfl
theorem zeroT33 : Zero 33 (.v (.int .i64 0)) := zero_of (by kernel_rfl) rfl
theorem zeroT38 : Zero 38 (.v (.int .u64 0)) := zero_of (by kernel_rfl) rfl
theorem zeroT39 : Zero 39 (.v (.slice none 0 0)) := zero_of (by kernel_rfl) rfl
theorem zeroT40 : Zero 40 (.tup [.v (.bool false), .v (.slice none 0 0), .v (.slice none 0 0)]) := zero_of (by kernel_rfl) rfl
theorem zeroT41 : Zero 41 (.tup [.v (.bool false), .v (.slice none 0 0), .v (.slice none 0 0)]) := zero_of (by kernel_rfl) rfl
theorem zeroT49 : Zero 49 (.v (.slice none 0 0)) := zero_of (by kernel_rfl) rfl
theorem zeroT53 : Zero 53 (.v (.slice none 0 0)) := zero_of (by kernel_rfl) rfl
theorem zeroT56 : Zero 56 (.arr 20 (List.replicate 20 0)) := zero_of (by kernel_rfl) rfl
theorem zeroT57 : Zero 57 (.arr 20 (List.replicate 20 0)) := zero_of (by kernel_rfl) rfl
theorem zeroT58 : Zero 58 (.v (.slice none 0 0)) := zero_of (by kernel_rfl) rfl
theorem zeroT59 : Zero 59 (.tup [.arr 20 (List.replicate 20 0), .v (.int .i64 0), .arr 32 zero32, .v (.slice none 0 0), .v (.slice none 0 0)]) := zero_of (by kernel_rfl) rfl
theorem zeroT60 : Zero 60 (.tup [.arr 20 (List.replicate 20 0), .v (.int .i64 0), .arr 32 zero32, .v (.slice none 0 0), .v (.slice none 0 0)]) := zero_of (by kernel_rfl) rfl
theorem zeroT61 : Zero 61 (.tup [.arr 32 zero32, .arr 32 zero32]) := zero_of (by kernel_rfl) rfl
theorem zeroT62 : Zero 62 (.tup [.arr 32 zero32, .arr 32 zero32]) := zero_of (by kernel_rfl) rfl
theorem zeroT66 : Zero 66 (.tup [.v (.int .i64 0), .arr 32 zero32, .arr 32 zero32, .arr 32 zero32]) := zero_of (by kernel_rfl) rfl
theorem zeroT67 : Zero 67 (.tup [.v (.int .i64 0), .arr 32 zero32, .arr 32 zero32, .arr 32 zero32]) := zero_of (by kernel_rfl) rfl
theorem zeroT77 : Zero 77 (.v (.pointer none)) := zero_of (by kernel_rfl) rfl
theorem zeroT78 : Zero 78 (.tup [.v (.slice none 0 0)]) := zero_of (by kernel_rfl) rfl
theorem zeroT79 : Zero 79 (.tup [.v (.slice none 0 0)]) := zero_of (by kernel_rfl) rfl
theorem zeroT80 : Zero 80 (.v .nilIface) := zero_of (by kernel_rfl) rfl
theorem zeroT87 : Zero 87 (.v (.int .u64 0)) := zero_of (by kernel_rfl) rfl
theorem zeroT88 : Zero 88 (.tup [.v (.int .u64 0), .v (.int .u64 0), .v (.int .u64 0), .v (.int .u64 0), .v (.int .u64 0), .v (.int .u64 0), .v (.int .u64 0), .v (.int .u64 0), .v (.int .u64 0), .v (.int .u64 0), .v (.int .u64 0), .v (.int .u64 0), .v (.int .u64 0), .v (.int .u64 0), .v (.int .u64 0), .v (.int .u64 0), .v (.int .u64 0), .v (.int .u64 0), .v (.int .u64 0), .v (.int .u64 0), .v (.int .u64 0), .v (.int .u64 0), .v (.int .u64 0), .v (.int .u64 0), .v (.int .u64 0)]) := zero_of (by kernel_rfl) rfl
theorem zeroT90 : Zero 90 (.v (.pointer none)) := zero_of (by kernel_rfl) rfl
theorem zeroT91 : Zero 91 (.v (.pointer none)) := zero_of (by kernel_rfl) rfl
theorem zeroT92 : Zero 92 (.v (.map none)) := zero_of (by kernel_rfl) rfl
theorem zeroT113 : Zero 113 (.v (.slice none 0 0)) := zero_of (by kernel_rfl) rfl
theorem zeroT115 : Zero 115 (.tup [.v (.slice none 0 0), .v (.slice none 0 0)]) := zero_of (by kernel_rfl) rfl
theorem zeroT116 : Zero 116 (.tup [.v (.slice none 0 0), .v (.slice none 0 0)]) := zero_of (by kernel_rfl) rfl
theorem zeroT117 : Zero 117 (.v (.pointer none)) := zero_of (by kernel_rfl) rfl
theorem zeroT118 : Zero 118 (.tup [.v (.slice none 0 0), .v (.pointer none), .v (.bool false)]) := zero_of (by kernel_rfl) rfl
theorem zeroT119 : Zero 119 (.tup [.v (.slice none 0 0), .v (.pointer none), .v (.bool false)]) := zero_of (by kernel_rfl) rfl
theorem zeroT121 : Zero 121 (.v (.slice none 0 0)) := zero_of (by kernel_rfl) rfl
theorem zeroT125 : Zero 125 (.arr 32 zero32) := zero_of (by kernel_rfl) rfl
theorem zeroT130 : Zero 130 (.tup [.v (.int .u64 0), .v (.int .u64 0), .v (.int .u64 0), .v (.int .u64 0), .v (.int .u64 0)]) := zero_of (by kernel_rfl) rfl
theorem zeroT132 : Zero 132 (.v (.slice none 0 0)) := zero_of (by kernel_rfl) rfl
theorem zeroT134 : Zero 134 (.v (.slice none 0 0)) := zero_of (by kernel_rfl) rfl
theorem zeroT140 : Zero 140 (.tup [.arr 32 zero32, .v (.slice none 0 0)]) := zero_of (by kernel_rfl) rfl
theorem zeroT141 : Zero 141 (.tup [.arr 32 zero32, .v (.slice none 0 0)]) := zero_of (by kernel_rfl) rfl
theorem zeroT142 : Zero 142 (.v (.map none)) := zero_of (by kernel_rfl) rfl
theorem zeroT145 : Zero 145 (.v .nilIface) := zero_of (by kernel_rfl) rfl
theorem zeroT161 : Zero 161 (.tup [.v (.slice none 0 0), .v (.slice none 0 0)]) := zero_of (by kernel_rfl) rfl
theorem zeroT162 : Zero 162 (.tup [.v (.slice none 0 0), .v (.slice none 0 0)]) := zero_of (by kernel_rfl) rfl
theorem zeroT165 : Zero 165 (.v (.pointer none)) := zero_of (by kernel_rfl) rfl
theorem zeroT166 : Zero 166 (.tup [.v (.slice none 0 0), .v (.slice none 0 0)]) := zero_of (by kernel_rfl) rfl
theorem zeroT167 : Zero 167 (.tup [.v (.slice none 0 0), .v (.slice none 0 0)]) := zero_of (by kernel_rfl) rfl
theorem zeroT168 : Zero 168 (.v (.pointer none)) := zero_of (by kernel_rfl) rfl
theorem zeroT169 : Zero 169 (.tup [.v (.slice none 0 0), .v .nilIface]) := zero_of (by kernel_rfl) rfl
theorem zeroT170 : Zero 170 (.tup [.v (.slice none 0 0), .v .nilIface]) := zero_of (by kernel_rfl) rfl
theorem zeroT171 : Zero 171 (.v (.pointer none)) := zero_of (by kernel_rfl) rfl
theorem zeroT172 : Zero 172 (.tup [.v .nilIface, .v .nilIface, .v .nilIface, .v .nilIface, .v .nilIface, .v .nilIface, .v .nilIface, .v .nilIface, .v .nilIface, .v .nilIface, .v .nilIface, .v .nilIface, .v .nilIface, .v .nilIface, .v .nilIface, .v .nilIface]) := zero_of (by kernel_rfl) rfl
theorem zeroT173 : Zero 173 (.tup [.tup [.v .nilIface, .v .nilIface, .v .nilIface, .v .nilIface, .v .nilIface, .v .nilIface, .v .nilIface, .v .nilIface, .v .nilIface, .v .nilIface, .v .nilIface, .v .nilIface, .v .nilIface, .v .nilIface, .v .nilIface, .v .nilIface], .v (.slice none 0 0)]) := zero_of (by kernel_rfl) rfl
theorem zeroT174 : Zero 174 (.tup [.tup [.v .nilIface, .v .nilIface, .v .nilIface, .v .nilIface, .v .nilIface, .v .nilIface, .v .nilIface, .v .nilIface, .v .nilIface, .v .nilIface, .v .nilIface, .v .nilIface, .v .nilIface, .v .nilIface, .v .nilIface, .v .nilIface], .v (.slice none 0 0)]) := zero_of (by kernel_rfl) rfl
theorem zeroT175 : Zero 175 (.v (.slice none 0 0)) := zero_of (by kernel_rfl) rfl
theorem zeroT176 : Zero 176 (.tup [.v (.int .u64 0), .v (.int .u64 0), .v (.int .u64 0), .v (.int .u64 0), .v (.int .u64 0), .v (.int .u64 0), .v (.int .u64 0), .v (.int .u64 0), .v (.int .u64 0), .v (.int .u64 0), .v (.int .u64 0), .v (.int .u64 0), .v (.int .u64 0), .v (.int .u64 0), .v (.int .u64 0), .v (.int .u64 0), .v (.int .u64 0), .v (.int .u64 0), .v (.int .u64 0), .v (.int .u64 0), .v (.int .u64 0), .v (.int .u64 0), .v (.int .u64 0), .v (.int .u64 0), .v (.int .u64 0)]) := zero_of (by kernel_rfl) rfl
theorem zeroT196 : Zero 196 (.v (.pointer none)) := zero_of (by kernel_rfl) rfl
theorem zeroT197 : Zero 197 (.tup [.v (.int .i64 0), .v (.int .i64 0), .v (.int .i64 0), .v (.int .i64 0), .v (.int .i64 0), .v (.int .i64 0), .v (.int .i64 0), .v (.int .i64 0), .v (.int .i64 0), .v (.int .i64 0), .v (.int .i64 0), .v (.int .i64 0), .v (.int .i64 0), .v (.int .i64 0), .v (.int .i64 0), .v (.int .i64 0), .v (.int .i64 0), .v (.int .i64 0), .v (.int .i64 0), .v (.int .i64 0), .v (.int .i64 0), .v (.int .i64 0), .v (.int .i64 0), .v (.int .i64 0), .v (.int .i64 0)]) := zero_of (by kernel_rfl) rfl
theorem zeroT199 : Zero 199 (.tup [.v (.int .u64 0), .v (.int .u64 0), .v (.int .u64 0), .v (.int .u64 0), .v (.int .u64 0), .v (.int .u64 0), .v (.int .u64 0), .v (.int .u64 0), .v (.int .u64 0), .v (.int .u64 0), .v (.int .u64 0), .v (.int .u64 0), .v (.int .u64 0), .v (.int .u64 0), .v (.int .u64 0), .v (.int .u64 0), .v (.int .u64 0), .v (.int .u64 0), .v (.int .u64 0), .v (.int .u64 0), .v (.int .u64 0), .v (.int .u64 0), .v (.int .u64 0), .v (.int .u64 0)]) := zero_of (by kernel_rfl) rfl
theorem zeroT202 : Zero 202 (.v (.pointer none)) := zero_of (by kernel_rfl) rfl
theorem zeroT207 : Zero 207 (.v (.map none)) := zero_of (by kernel_rfl) rfl
theorem zeroT209 : Zero 209 (.v (.int .i64 0)) := zero_of (by kernel_rfl) rfl
theorem zeroT216 : Zero 216 (.v (.int .u32 0)) := zero_of (by kernel_rfl) rfl
theorem zeroT224 : Zero 224 (.v (.int .u64 0)) := zero_of (by kernel_rfl) rfl
theorem zeroT228 : Zero 228 (.v (.pointer none)) := zero_of (by kernel_rfl) rfl
theorem zeroT232 : Zero 232 (.v (.pointer none)) := zero_of (by kernel_rfl) rfl
theorem zeroT242 : Zero 242 (.tup []) := zero_of (by kernel_rfl) rfl
theorem zeroT243 : Zero 243 (.tup [.tup []]) := zero_of (by kernel_rfl) rfl
theorem zeroL_ok : AllZ zeroL := ⟨zeroT2, ⟨zeroT3, ⟨zeroT4, ⟨zeroT5, ⟨zeroT7, ⟨zeroT12, ⟨zeroT15, ⟨zeroT16, ⟨zeroT17, ⟨zeroT18, ⟨zeroT20, ⟨zeroT21, ⟨zeroT22, ⟨zeroT23, ⟨zeroT27, ⟨zeroT28, ⟨zeroT30, ⟨zeroT31, ⟨zeroT32, ⟨zeroT33, ⟨zeroT38, ⟨zeroT39, ⟨zeroT40, ⟨zeroT41, ⟨zeroT49, ⟨zeroT53, ⟨zeroT56, ⟨zeroT57, ⟨zeroT58, ⟨zeroT59, ⟨zeroT60, ⟨zeroT61, ⟨zeroT62, ⟨zeroT66, ⟨zeroT67, ⟨zeroT77, ⟨zeroT78, ⟨zeroT79, ⟨zeroT80, ⟨zeroT87, ⟨zeroT88, ⟨zeroT90, ⟨zeroT91, ⟨zeroT92, ⟨zeroT113, ⟨zeroT115, ⟨zeroT116, ⟨zeroT117, ⟨zeroT118, ⟨zeroT119, ⟨zeroT121, ⟨zeroT125, ⟨zeroT130, ⟨zeroT132, ⟨zeroT134, ⟨zeroT140, ⟨zeroT141, ⟨zeroT142, ⟨zeroT145, ⟨zeroT161, ⟨zeroT162, ⟨zeroT165, ⟨zeroT166, ⟨zeroT167, ⟨zeroT168, ⟨zeroT169, ⟨zeroT170, ⟨zeroT171, ⟨zeroT172, ⟨zeroT173, ⟨zeroT174, ⟨zeroT175, ⟨zeroT176, ⟨zeroT196, ⟨zeroT197, ⟨zeroT199, ⟨zeroT202, ⟨zeroT207, ⟨zeroT209, ⟨zeroT216, ⟨zeroT224, ⟨zeroT228, ⟨zeroT232, ⟨zeroT242, ⟨zeroT243, trivial⟩⟩⟩⟩⟩⟩⟩⟩⟩⟩⟩⟩⟩⟩⟩⟩⟩⟩⟩⟩⟩⟩⟩⟩⟩⟩⟩⟩⟩⟩⟩⟩⟩⟩⟩⟩⟩⟩⟩⟩⟩⟩⟩⟩⟩⟩⟩⟩⟩⟩⟩⟩⟩⟩⟩⟩⟩⟩⟩⟩⟩⟩⟩⟩⟩⟩⟩⟩⟩⟩⟩⟩⟩⟩⟩⟩⟩⟩⟩⟩⟩⟩⟩⟩⟩
def cnL : List Nat := [2, 3, 4, 5, 7, 9, 12, 13, 15, 16, 17, 18, 21, 22, 23, 27, 28, 30, 31, 32, 33, 38, 39, 40, 41, 49, 53, 56, 57, 58, 59, 60, 61, 62, 66, 67, 77, 78, 79, 87, 88, 90, 91, 92, 113, 115, 116, 117, 118, 119, 121, 125, 130, 132, 134, 137, 140, 141, 142, 161, 162, 165, 166, 167, 168, 169, 170, 171, 172, 173, 174, 175, 176, 196, 197, 199, 202, 207, 209, 216, 224, 228, 232, 240, 242, 243, 251]
theorem cnL_ok : (cnL.all fun x => cnB Try.prog x) = true := by kernel_rfl
def ptrL : List Nat := [15, 16, 17, 77, 90, 91, 117, 165, 168, 171, 196, 202, 228, 232]
theorem ptrL_ok : (ptrL.all fun x => ptrB Try.prog x) = true := by kernel_rfl
theorem zv2 : ZeroV 2 (.v (.int .i64 0)) := zv_of (by kernel_rfl) rfl
theorem zv3 : ZeroV 3 (.v (.int .i64 0)) := zv_of (by kernel_rfl) rfl
theorem zv4 : ZeroV 4 (.v (.bool false)) := zv_of (by kernel_rfl) rfl
theorem zv5 : ZeroV 5 (.v (.int .u8 0)) := zv_of (by kernel_rfl) rfl
theorem zv7 : ZeroV 7 (.tup [.v (.int .i64 0), .v (.int .i64 0), .v (.bool false), .v (.int .u8 0)]) := zv_of (by kernel_rfl) rfl
theorem zv12 : ZeroV 12 (.v (.int .u64 0)) := zv_of (by kernel_rfl) rfl
theorem zv15 : ZeroV 15 (.v (.pointer none)) := zv_of (by kernel_rfl) rfl
theorem zv16 : ZeroV 16 (.v (.pointer none)) := zv_of (by kernel_rfl) rfl
theorem zv17 : ZeroV 17 (.v (.pointer none)) := zv_of (by kernel_rfl) rfl
theorem zv18 : ZeroV 18 (.tup [.v (.pointer none)]) := zv_of (by kernel_rfl) rfl
theorem zv20 : ZeroV 20 (.v .nilIface) := zv_of (by kernel_rfl) rfl
theorem zv21 : ZeroV 21 (.v (.int .i32 0)) := zv_of (by kernel_rfl) rfl
theorem zv22 : ZeroV 22 (.v (.slice none 0 0)) := zv_of (by kernel_rfl) rfl
theorem zv23 : ZeroV 23 (.v (.slice none 0 0)) := zv_of (by kernel_rfl) rfl
theorem zv27 : ZeroV 27 (.tup [.v (.slice none 0 0), .v (.slice none 0 0)]) := zv_of (by kernel_rfl) rfl
theorem zv28 : ZeroV 28 (.tup [.v (.slice none 0 0), .v (.slice none 0 0)]) := zv_of (by kernel_rfl) rfl
theorem zv30 : ZeroV 30 (.v (.slice none 0 0)) := zv_of (by kernel_rfl) rfl
theorem zv31 : ZeroV 31 (.arr 32 zero32) := zv_of (by kernel_rfl) rfl
theorem zv32 : ZeroV 32 (.arr 32 zero32) := zv_of (by kernel_rfl) rfl
theorem zv33 : ZeroV 33 (.v (.int .i64 0)) := zv_of (by kernel_rfl) rfl
theorem zv38 : ZeroV 38 (.v (.int .u64 0)) := zv_of (by kernel_rfl) rfl
theorem zv39 : ZeroV 39 (.v (.slice none 0 0)) := zv_of (by kernel_rfl) rfl
theorem zv40 : ZeroV 40 (.tup [.v (.bool false), .v (.slice none 0 0), .v (.slice none 0 0)]) := zv_of (by kernel_rfl) rfl
theorem zv41 : ZeroV 41 (.tup [.v (.bool false), .v (.slice none 0 0), .v (.slice none 0 0)]) := zv_of (by kernel_rfl) rfl
theorem zv49 : ZeroV 49 (.v (.slice none 0 0)) := zv_of (by kernel_rfl) rfl
theorem zv53 : ZeroV 53 (.v (.slice none 0 0)) := zv_of (by kernel_rfl) rfl
theorem zv56 : ZeroV 56 (.arr 20 (List.replicate 20 0)) := zv_of (by kernel_rfl) rfl
theorem zv57 : ZeroV 57 (.arr 20 (List.replicate 20 0)) := zv_of (by kernel_rfl) rfl
theorem zv58 : ZeroV 58 (.v (.slice none 0 0)) := zv_of (by kernel_rfl) rfl
theorem zv59 : ZeroV 59 (.tup [.arr 20 (List.replicate 20 0), .v (.int .i64 0), .arr 32 zero32, .v (.slice none 0 0), .v (.slice none 0 0)]) := zv_of (by kernel_rfl) rfl
theorem zv60 : ZeroV 60 (.tup [.arr 20 (List.replicate 20 0), .v (.int .i64 0), .arr 32 zero32, .v (.slice none 0 0), .v (.slice none 0 0)]) := zv_of (by kernel_rfl) rfl
theorem zv61 : ZeroV 61 (.tup [.arr 32 zero32, .arr 32 zero32]) := zv_of (by kernel_rfl) rfl
theorem zv62 : ZeroV 62 (.tup [.arr 32 zero32, .arr 32 zero32]) := zv_of (by kernel_rfl) rfl
theorem zv66 : ZeroV 66 (.tup [.v (.int .i64 0), .arr 32 zero32, .arr 32 zero32, .arr 32 zero32]) := zv_of (by kernel_rfl) rfl
theorem zv67 : ZeroV 67 (.tup [.v (.int .i64 0), .arr 32 zero32, .arr 32 zero32, .arr 32 zero32]) := zv_of (by kernel_rfl) rfl
theorem zv77 : ZeroV 77 (.v (.pointer none)) := zv_of (by kernel_rfl) rfl
theorem zv78 : ZeroV 78 (.tup [.v (.slice none 0 0)]) := zv_of (by kernel_rfl) rfl
theorem zv79 : ZeroV 79 (.tup [.v (.slice none 0 0)]) := zv_of (by kernel_rfl) rfl
theorem zv80 : ZeroV 80 (.v .nilIface) := zv_of (by kernel_rfl) rfl
theorem zv87 : ZeroV 87 (.v (.int .u64 0)) := zv_of (by kernel_rfl) rfl
theorem zv88 : ZeroV 88 (.tup [.v (.int .u64 0), .v (.int .u64 0), .v (.int .u64 0), .v (.int .u64 0), .v (.int .u64 0), .v (.int .u64 0), .v (.int .u64 0), .v (.int .u64 0), .v (.int .u64 0), .v (.int .u64 0), .v (.int .u64 0), .v (.int .u64 0), .v (.int .u64 0), .v (.int .u64 0), .v (.int .u64 0), .v (.int .u64 0), .v (.int .u64 0), .v (.int .u64 0), .v (.int .u64 0), .v (.int .u64 0), .v (.int .u64 0), .v (.int .u64 0), .v (.int .u64 0), .v (.int .u64 0), .v (.int .u64 0)]) := zv_of (by kernel_rfl) rfl
theorem zv90 : ZeroV 90 (.v (.pointer none)) := zv_of (by kernel_rfl) rfl
theorem zv91 : ZeroV 91 (.v (.pointer none)) := zv_of (by kernel_rfl) rfl
theorem zv92 : ZeroV 92 (.v (.map none)) := zv_of (by kernel_rfl) rfl
theorem zv113 : ZeroV 113 (.v (.slice none 0 0)) := zv_of (by kernel_rfl) rfl
theorem zv115 : ZeroV 115 (.tup [.v (.slice none 0 0), .v (.slice none 0 0)]) := zv_of (by kernel_rfl) rfl
theorem zv116 : ZeroV 116 (.tup [.v (.slice none 0 0), .v (.slice none 0 0)]) := zv_of (by kernel_rfl) rfl
theorem zv117 : ZeroV 117 (.v (.pointer none)) := zv_of (by kernel_rfl) rfl
theorem zv118 : ZeroV 118 (.tup [.v (.slice none 0 0), .v (.pointer none), .v (.bool false)]) := zv_of (by kernel_rfl) rfl
theorem zv119 : ZeroV 119 (.tup [.v (.slice none 0 0), .v (.pointer none), .v (.bool false)]) := zv_of (by kernel_rfl) rfl
theorem zv121 : ZeroV 121 (.v (.slice none 0 0)) := zv_of (by kernel_rfl) rfl
theorem zv125 : ZeroV 125 (.arr 32 zero32) := zv_of (by kernel_rfl) rfl
theorem zv130 : ZeroV 130 (.tup [.v (.int .u64 0), .v (.int .u64 0), .v (.int .u64 0), .v (.int .u64 0), .v (.int .u64 0)]) := zv_of (by kernel_rfl) rfl
theorem zv132 : ZeroV 132 (.v (.slice none 0 0)) := zv_of (by kernel_rfl) rfl
theorem zv134 : ZeroV 134 (.v (.slice none 0 0)) := zv_of (by kernel_rfl) rfl
theorem zv140 : ZeroV 140 (.tup [.arr 32 zero32, .v (.slice none 0 0)]) := zv_of (by kernel_rfl) rfl
theorem zv141 : ZeroV 141 (.tup [.arr 32 zero32, .v (.slice none 0 0)]) := zv_of (by kernel_rfl) rfl
theorem zv142 : ZeroV 142 (.v (.map none)) := zv_of (by kernel_rfl) rfl
theorem zv145 : ZeroV 145 (.v .nilIface) := zv_of (by kernel_rfl) rfl
theorem zv161 : ZeroV 161 (.tup [.v (.slice none 0 0), .v (.slice none 0 0)]) := zv_of (by kernel_rfl) rfl
theorem zv162 : ZeroV 162 (.tup [.v (.slice none 0 0), .v (.slice none 0 0)]) := zv_of (by kernel_rfl) rfl
theorem zv165 : ZeroV 165 (.v (.pointer none)) := zv_of (by kernel_rfl) rfl
theorem zv166 : ZeroV 166 (.tup [.v (.slice none 0 0), .v (.slice none 0 0)]) := zv_of (by kernel_rfl) rfl
theorem zv167 : ZeroV 167 (.tup [.v (.slice none 0 0), .v (.slice none 0 0)]) := zv_of (by kernel_rfl) rfl
theorem zv168 : ZeroV 168 (.v (.pointer none)) := zv_of (by kernel_rfl) rfl
theorem zv169 : ZeroV 169 (.tup [.v (.slice none 0 0), .v .nilIface]) := zv_of (by kernel_rfl) rfl
theorem zv170 : ZeroV 170 (.tup [.v (.slice none 0 0), .v .nilIface]) := zv_of (by kernel_rfl) rfl
theorem zv171 : ZeroV 171 (.v (.pointer none)) := zv_of (by kernel_rfl) rfl
theorem zv172 : ZeroV 172 (.tup [.v .nilIface, .v .nilIface, .v .nilIface, .v .nilIface, .v .nilIface, .v .nilIface, .v .nilIface, .v .nilIface, .v .nilIface, .v .nilIface, .v .nilIface, .v .nilIface, .v .nilIface, .v .nilIface, .v .nilIface, .v .nilIface]) := zv_of (by kernel_rfl) rfl
theorem zv173 : ZeroV 173 (.tup [.tup [.v .nilIface, .v .nilIface, .v .nilIface, .v .nilIface, .v .nilIface, .v .nilIface, .v .nilIface, .v .nilIface, .v .nilIface, .v .nilIface, .v .nilIface, .v .nilIface, .v .nilIface, .v .nilIface, .v .nilIface, .v .nilIface], .v (.slice none 0 0)]) := zv_of (by kernel_rfl) rfl
theorem zv174 : ZeroV 174 (.tup [.tup [.v .nilIface, .v .nilIface, .v .nilIface, .v .nilIface, .v .nilIface, .v .nilIface, .v .nilIface, .v .nilIface, .v .nilIface, .v .nilIface, .v .nilIface, .v .nilIface, .v .nilIface, .v .nilIface, .v .nilIface, .v .nilIface], .v (.slice none 0 0)]) := zv_of (by kernel_rfl) rfl
theorem zv175 : ZeroV 175 (.v (.slice none 0 0)) := zv_of (by kernel_rfl) rfl
theorem zv176 : ZeroV 176 (.tup [.v (.int .u64 0), .v (.int .u64 0), .v (.int .u64 0), .v (.int .u64 0), .v (.int .u64 0), .v (.int .u64 0), .v (.int .u64 0), .v (.int .u64 0), .v (.int .u64 0), .v (.int .u64 0), .v (.int .u64 0), .v (.int .u64 0), .v (.int .u64 0), .v (.int .u64 0), .v (.int .u64 0), .v (.int .u64 0), .v (.int .u64 0), .v (.int .u64 0), .v (.int .u64 0), .v (.int .u64 0), .v (.int .u64 0), .v (.int .u64 0), .v (.int .u64 0), .v (.int .u64 0), .v (.int .u64 0)]) := zv_of (by kernel_rfl) rfl
theorem zv196 : ZeroV 196 (.v (.pointer none)) := zv_of (by kernel_rfl) rfl
theorem zv197 : ZeroV 197 (.tup [.v (.int .i64 0), .v (.int .i64 0), .v (.int .i64 0), .v (.int .i64 0), .v (.int .i64 0), .v (.int .i64 0), .v (.int .i64 0), .v (.int .i64 0), .v (.int .i64 0), .v (.int .i64 0), .v (.int .i64 0), .v (.int .i64 0), .v (.int .i64 0), .v (.int .i64 0), .v (.int .i64 0), .v (.int .i64 0), .v (.int .i64 0), .v (.int .i64 0), .v (.int .i64 0), .v (.int .i64 0), .v (.int .i64 0), .v (.int .i64 0), .v (.int .i64 0), .v (.int .i64 0), .v (.int .i64 0)]) := zv_of (by kernel_rfl) rfl
theorem zv199 : ZeroV 199 (.tup [.v (.int .u64 0), .v (.int .u64 0), .v (.int .u64 0), .v (.int .u64 0), .v (.int .u64 0), .v (.int .u64 0), .v (.int .u64 0), .v (.int .u64 0), .v (.int .u64 0), .v (.int .u64 0), .v (.int .u64 0), .v (.int .u64 0), .v (.int .u64 0), .v (.int .u64 0), .v (.int .u64 0), .v (.int .u64 0), .v (.int .u64 0), .v (.int .u64 0), .v (.int .u64 0), .v (.int .u64 0), .v (.int .u64 0), .v (.int .u64 0), .v (.int .u64 0), .v (.int .u64 0)]) := zv_of (by kernel_rfl) rfl
theorem zv202 : ZeroV 202 (.v (.pointer none)) := zv_of (by kernel_rfl) rfl
theorem zv207 : ZeroV 207 (.v (.map none)) := zv_of (by kernel_rfl) rfl
theorem zv209 : ZeroV 209 (.v (.int .i64 0)) := zv_of (by kernel_rfl) rfl
theorem zv216 : ZeroV 216 (.v (.int .u32 0)) := zv_of (by kernel_rfl) rfl
theorem zv224 : ZeroV 224 (.v (.int .u64 0)) := zv_of (by kernel_rfl) rfl
theorem zv228 : ZeroV 228 (.v (.pointer none)) := zv_of (by kernel_rfl) rfl
theorem zv232 : ZeroV 232 (.v (.pointer none)) := zv_of (by kernel_rfl) rfl
theorem zv242 : ZeroV 242 (.tup []) := zv_of (by kernel_rfl) rfl
theorem zv243 : ZeroV 243 (.tup [.tup []]) := zv_of (by kernel_rfl) rfl
theorem zvL_ok : AllZV zeroL := ⟨zv2, ⟨zv3, ⟨zv4, ⟨zv5, ⟨zv7, ⟨zv12, ⟨zv15, ⟨zv16, ⟨zv17, ⟨zv18, ⟨zv20, ⟨zv21, ⟨zv22, ⟨zv23, ⟨zv27, ⟨zv28, ⟨zv30, ⟨zv31, ⟨zv32, ⟨zv33, ⟨zv38, ⟨zv39, ⟨zv40, ⟨zv41, ⟨zv49, ⟨zv53, ⟨zv56, ⟨zv57, ⟨zv58, ⟨zv59, ⟨zv60, ⟨zv61, ⟨zv62, ⟨zv66, ⟨zv67, ⟨zv77, ⟨zv78, ⟨zv79, ⟨zv80, ⟨zv87, ⟨zv88, ⟨zv90, ⟨zv91, ⟨zv92, ⟨zv113, ⟨zv115, ⟨zv116, ⟨zv117, ⟨zv118, ⟨zv119, ⟨zv121, ⟨zv125, ⟨zv130, ⟨zv132, ⟨zv134, ⟨zv140, ⟨zv141, ⟨zv142, ⟨zv145, ⟨zv161, ⟨zv162, ⟨zv165, ⟨zv166, ⟨zv167, ⟨zv168, ⟨zv169, ⟨zv170, ⟨zv171, ⟨zv172, ⟨zv173, ⟨zv174, ⟨zv175, ⟨zv176, ⟨zv196, ⟨zv197, ⟨zv199, ⟨zv202, ⟨zv207, ⟨zv209, ⟨zv216, ⟨zv224, ⟨zv228, ⟨zv232, ⟨zv242, ⟨zv243, trivial⟩⟩⟩⟩⟩⟩⟩⟩⟩⟩⟩⟩⟩⟩⟩⟩⟩⟩⟩⟩⟩⟩⟩⟩⟩⟩⟩⟩⟩⟩⟩⟩⟩⟩⟩⟩⟩⟩⟩⟩⟩⟩⟩⟩⟩⟩⟩⟩⟩⟩⟩⟩⟩⟩⟩⟩⟩⟩⟩⟩⟩⟩⟩⟩⟩⟩⟩⟩⟩⟩⟩⟩⟩⟩⟩⟩⟩⟩⟩⟩⟩⟩⟩⟩⟩
end E
end Go.Proofs.Ytmlajcbabimkjaa
/-
  The abstract machine: the rules as the walk takes them.
  Conditions: none.
-/
namespace Go.Proofs.Ytmlajcbabimkjaa
set_option linter.unusedVariables false
open Go.RowKit Mono Rlp
namespace E
def dstB (N : Nat) (d : Option Tmp) : Bool :=
  match d with
  | some t => decide (t < N)
  | none => true
section
variable {N : Nat} {X : Cx N} {S S' : St} {a : Act} {w w' : World} {ops : Array Oper} {o : Oper} {Q : Exit → Act → World → Prop} {l : List Oper} {T : St → List Fr → Prop} {E : List Fr}
theorem dst_of (h : dstB N o.dst = true) : ∀ t, o.dst = some t → t < N := fun t ht => by
  rw [ht] at h
  simpa [dstB] using h
theorem tyI {T sz : Nat} {ag : Bool} (h : assoc tyL T = some (sz, ag)) : Ty Try.prog T sz ag := ty_of (by
  have := List.all_eq_true.1 tyL_ok _ (assoc_mem _ _ _ h)
  simpa using this)
theorem slI {T e z y : Nat} (h : assoc slL T = some (e, z, y)) : SlTy T e z := by
  have := List.all_eq_true.1 slL_ok _ (assoc_mem _ _ _ h)
  exact sl_of (y := y) (y' := z) (by simpa using this)
theorem slTI {T e z y : Nat} (h : assoc slL T = some (e, z, y)) (h0 : Nat.blt 0 z = true) : SlT Try.prog T e z y := by
  have := List.all_eq_true.1 slL_ok _ (assoc_mem _ _ _ h)
  exact slT_of (by simpa using this) (by simpa using h0)
theorem arI' {T n e z : Nat} (h : assoc arL T = some (n, e, z)) : ArTy T n e z := by
  have := List.all_eq_true.1 arL_ok _ (assoc_mem _ _ _ h)
  exact ar_of (by simpa using this)
theorem fldI {T k off sz : Nat} {ag : Bool} {l : List (Nat × Nat × Bool)} (h : assoc stL T = some l) (hk : l[k]? = some (off, sz, ag)) (h0 : Nat.blt 0 sz = true) : Fld Try.prog T k off sz ag := by
  have := List.all_eq_true.1 stL_ok _ (assoc_mem _ _ _ h)
  exact st_fld (by simpa using this) hk (by simpa using h0)
theorem stI {T : Nat} {l : List (Nat × Nat × Bool)} (h : assoc stL T = some l) : StTy T (l.map fun x => (x.1, x.2.1)) := by
  have := List.all_eq_true.1 stL_ok _ (assoc_mem _ _ _ h)
  exact st_of (by simpa using this)
theorem zeroI {T : Nat} {d : D} (h : assoc zeroL T = some d) : Zero T d := AllZ.get _ _ _ zeroL_ok h
variable {rs : List (Tmp × R)} {os : List Obj} {fs : List (Value × D)}
theorem dst_lt {t : Tmp} (hd : o.dst = some t) (hN : Nat.blt t N = true) : ∀ u, o.dst = some u → u < N := fun u hu => by
  rw [hd] at hu
  cases hu
  simpa using hN
theorem ES.still {t : Tmp} {r : R} (hO : Still ops ⟨rs, os, fs⟩ o r) (hg : guardOf ops ⟨rs, os, fs⟩ o = some true) (hd : o.dst = some t) (hN : Nat.blt t N = true) (k : EL X ops Q l ⟨(t, r) :: rs, os, fs⟩) : EL X ops Q (o :: l) ⟨rs, os, fs⟩ :=
  EL.still hg (dst_lt hd hN) hO (by rw [hd]; exact k)
theorem ES.skip {t : Tmp} (hg : guardOf ops ⟨rs, os, fs⟩ o = some false) (hd : o.dst = some t) (hN : Nat.blt t N = true) (k : EL X ops Q l ⟨(t, .tpl []) :: rs, os, fs⟩) : EL X ops Q (o :: l) ⟨rs, os, fs⟩ := EL.skip hg (dst_lt hd hN) (by rw [hd]; exact k)
theorem ES.alloc {t : Tmp} {T : TypeId} {d : D} (ho : o.op = .alloc T) (hz : assoc zeroL T = some d) (hg : guardOf ops ⟨rs, os, fs⟩ o = some true) (hd : o.dst = some t) (hN : Nat.blt t N = true)
    (k : ∀ g, EL X ops Q l ⟨(t, .val (.v (.pointer (some ⟨g, 0, none⟩)))) :: rs, .var g T d :: os, fs⟩) : EL X ops Q (o :: l) ⟨rs, os, fs⟩ := EL.alloc ho hg (dst_lt hd hN) (zeroI hz) fun g => by rw [hd]; exact k g
theorem ES.box {t : Tmp} {T : TypeId} {x : Operand} {d : D} (ho : o.op = .box T x) (hx : ev ⟨rs, os, fs⟩ x = some (.val d)) (hg : guardOf ops ⟨rs, os, fs⟩ o = some true) (hd : o.dst = some t) (hN : Nat.blt t N = true)
    (k : ∀ g, EL X ops Q l ⟨(t, .val (.v (.pointer (some ⟨g, 0, none⟩)))) :: rs, .var g T d :: os, fs⟩) : EL X ops Q (o :: l) ⟨rs, os, fs⟩ := EL.box ho hg (dst_lt hd hN) hx fun g => by rw [hd]; exact k g
theorem RefineL.refl (F : List (Value × D)) : ∀ ds : List D, RefineL F ds ds
  | [] => by rw [RefineL]
  | d :: ds => by
    rw [RefineL]
    refine ⟨d, ds, rfl, ?_, RefineL.refl F ds⟩
    exact Refine.refl F d
where Refine.refl (F : List (Value × D)) : ∀ d : D, Refine F d d
  | .v x => by rw [Refine]; exact .inl rfl
  | .tup ds => by rw [Refine]; exact ⟨ds, rfl, RefineL.refl F ds⟩
  | .arr n l => by rw [Refine]
  | .bs l => by rw [Refine]
  | .sl z ds => by rw [Refine]
  | .pd d => by rw [Refine]
  | .ifc t d => by rw [Refine]
theorem RefineL.readVs {ok : Nat → Prop} {F : List (Value × D)} (hF : ∀ f ∈ F, Reads ok w f.2 [f.1]) : ∀ (ds l : List D) (xs : List Value), RefineL F ds l → ReadVs ok w ds xs → ReadVs ok w l xs
  | [], l, xs, h, hr => by rw [RefineL] at h; subst h; exact hr
  | d :: ds, l, xs, h, hr => by
    rw [RefineL] at h
    obtain ⟨d', ds', rfl, h1, h2⟩ := h
    obtain ⟨x, rest, rfl, h3, h4⟩ := hr
    exact ⟨x, rest, rfl, h1.readV hF h3, RefineL.readVs hF ds ds' rest h2 h4⟩
theorem g_callR {f : FuncId} {args : Array Operand} {tys : Array TypeId} {ds ds' : List D} {Φ : R → Prop} (hF : Fn f ds' Φ) (ho : o.op = .call { callee := .value (.func f), args := args, argTypes := tys }) (hx : evs S args.toList = some ds) (hf : Enters f) (hR : RefineL S.facts ds ds') : Grows ops S o Φ := fun base ok a w ha => by
  have hr := RefineL.readVs ha.facts _ _ _ hR (ha.evs _ _ hx fun t ht => looks_of (x := .tmp t) rfl (by rw [ho]; simp only [Op.operands, Call.operands]; simp; simpa using ht))
  have hrun : (execOp a.eval o).run Try.prog w = .ok (.enter f (args.map a.eval)) w := by
    unfold execOp
    simp [ho, resolve, Act.eval, Deferred.ofValue, invoke, hf (args.map a.eval) w]
  rw [hrun]
  refine ⟨Gr.refl w, ?_⟩
  have := hF.go ok w _ ha.lt hr
  have he : (args.toList.map a.eval).toArray = args.map a.eval := by
    apply Array.ext'
    simp
  rw [he] at this
  refine this.mono ?_
  rintro e w' ⟨hg, v, r, rfl, hr, hv⟩
  exact ⟨v, rfl, hg, r, hr, hv⟩
theorem ES.call {t : Tmp} {f : FuncId} {args : Array Operand} {tys : Array TypeId} {ds ds' : List D} {r : R} (hF : Fn f ds' (· = r)) (ho : o.op = .call { callee := .value (.func f), args := args, argTypes := tys }) (hx : evs ⟨rs, os, fs⟩ args.toList = some ds) (hf : Enters f) (hR : RefineL fs ds ds') (hg : guardOf ops ⟨rs, os, fs⟩ o = some true) (hd : o.dst = some t) (hN : Nat.blt t N = true) (k : EL X ops Q l ⟨(t, r) :: rs, os, fs⟩) : EL X ops Q (o :: l) ⟨rs, os, fs⟩ :=
  EL.grow hg (dst_lt hd hN) (g_callR hF ho hx hf hR) (by rw [hd]; exact k)
theorem ES.grow {t : Tmp} {r : R} (hO : Grows ops ⟨rs, os, fs⟩ o (· = r)) (hg : guardOf ops ⟨rs, os, fs⟩ o = some true) (hd : o.dst = some t) (hN : Nat.blt t N = true) (k : EL X ops Q l ⟨(t, r) :: rs, os, fs⟩) : EL X ops Q (o :: l) ⟨rs, os, fs⟩ := EL.grow hg (dst_lt hd hN) hO (by rw [hd]; exact k)
theorem EH.still {t : Tmp} {r : R} (hO : Still ops ⟨rs, os, fs⟩ o r) (hg : guardOf ops ⟨rs, os, fs⟩ o = some true) (ht : o.dst = some t) (hd : offB N (some t) E = true) (k : EM N ops T l ⟨(t, r) :: rs, os, fs⟩ E) : EM N ops T (o :: l) ⟨rs, os, fs⟩ E := EM.still hg (by rw [ht]; exact hd) hO (by rw [ht]; exact k)
theorem EH.skip {t : Tmp} (hg : guardOf ops ⟨rs, os, fs⟩ o = some false) (ht : o.dst = some t) (hd : offB N (some t) E = true) (k : EM N ops T l ⟨(t, .tpl []) :: rs, os, fs⟩ E) : EM N ops T (o :: l) ⟨rs, os, fs⟩ E := EM.skip hg (by rw [ht]; exact hd) (by rw [ht]; exact k)
theorem EH.grow {t : Tmp} {r : R} (hO : Grows ops ⟨rs, os, fs⟩ o (· = r)) (hg : guardOf ops ⟨rs, os, fs⟩ o = some true) (ht : o.dst = some t) (hd : offB N (some t) E = true) (k : EM N ops T l ⟨(t, r) :: rs, os, fs⟩ E) : EM N ops T (o :: l) ⟨rs, os, fs⟩ E := EM.grow hg (by rw [ht]; exact hd) hO (by rw [ht]; exact k)
theorem EH.call {t : Tmp} {f : FuncId} {args : Array Operand} {tys : Array TypeId} {ds ds' : List D} {r : R} (hF : Fn f ds' (· = r)) (ho : o.op = .call { callee := .value (.func f), args := args, argTypes := tys }) (hx : evs ⟨rs, os, fs⟩ args.toList = some ds) (hf : Enters f) (hR : RefineL fs ds ds') (hg : guardOf ops ⟨rs, os, fs⟩ o = some true) (ht : o.dst = some t) (hd : offB N (some t) E = true) (k : EM N ops T l ⟨(t, r) :: rs, os, fs⟩ E) : EM N ops T (o :: l) ⟨rs, os, fs⟩ E :=
  EM.grow hg (by rw [ht]; exact hd) (g_callR hF ho hx hf hR) (by rw [ht]; exact k)
theorem EH.alloc {t : Tmp} {Ty : TypeId} {d : D} (ho : o.op = .alloc Ty) (hz : assoc zeroL Ty = some d) (ht : o.dst = some t) (hg : guardOf ops ⟨rs, os, fs⟩ o = some true) (hd : offB N (some t) E = true) (k : EM N ops T l ⟨(t, .any) :: rs, os, fs⟩ (E ++ [(t, Ty, d)])) : EM N ops T (o :: l) ⟨rs, os, fs⟩ E := EM.new hg ht hd (n_alloc ho (zeroI hz)) k
theorem EH.box {t : Tmp} {Ty : TypeId} {x : Operand} {d : D} (ho : o.op = .box Ty x) (hx : ev ⟨rs, os, fs⟩ x = some (.val d)) (ht : o.dst = some t) (hg : guardOf ops ⟨rs, os, fs⟩ o = some true) (hd : offB N (some t) E = true) (k : EM N ops T l ⟨(t, .any) :: rs, os, fs⟩ (E ++ [(t, Ty, d)])) : EM N ops T (o :: l) ⟨rs, os, fs⟩ E := EM.new hg ht hd (n_box ho hx) k
theorem g_buildI {T : Nat} {parts : Array (Nat × Operand)} {l : List (Nat × Nat × Bool)} {d0 d : D} {ps : List (Nat × D)} (ho : o.op = .build T parts) (hx : evps S parts.toList = some ps) (hT : assoc stL T = some l) (hz : assoc zeroL T = some d0) (hd0 : d0.agg = true) (hf : fillD (l.map fun x => (x.1, x.2.1)) d0 ps = some d) : Still ops S o (.val d) := g_build ho hx (stI hT) (zeroI hz) hd0 hf
theorem g_build0I {T n e z : Nat} {d : D} (ho : o.op = .build T #[]) (hT : assoc arL T = some (n, e, z)) (hz : assoc zeroL T = some d) (hd : d.agg = true) : Still ops S o (.val d) := g_build0 ho (arI' hT) (zeroI hz) hd
def litB (n z : Nat) : Bool := Nat.blt 0 n && Nat.blt 0 z && Nat.ble (n * z) 16777216
def allB (z : Nat) (ps : List (Nat × D)) : Bool := ps.all fun p => p.2.size == z
theorem g_slice_litI {T e z y n : Nat} {parts : Array (Nat × Operand)} {ps : List (Nat × D)} {ds : List D} {d0 : D} (ho : o.op = .buildSlice T n parts) (hx : evps S parts.toList = some ps) (hT : assoc slL T = some (e, z, y)) (hz : assoc zeroL e = some d0) (hin : inRow 0 ps = some ds) (hsz : allB z ps = true) (hn : ps.length = n) (h0 : litB n z = true) : Grows ops S o (· = .val (.sl z ds)) := by
  simp only [litB, Bool.and_eq_true, Nat.blt_eq, Nat.ble_eq] at h0
  exact g_slice_lit ho hx (slI hT) (zeroI hz) hin (fun p hp => by simpa using List.all_eq_true.1 hsz p hp) hn h0.1 h0.2
theorem g_fieldI {x : Operand} {T k off sz g n : Nat} {ag : Bool} {l : List (Nat × Nat × Bool)} (ho : o.op = .fieldAddr T x k) (hx : ev S x = some (.val (.v (.pointer (some ⟨g, n, none⟩))))) (h : assoc stL T = some l) (hk : l[k]? = some (off, sz, ag)) (h0 : Nat.blt 0 sz = true) : Still ops S o (.val (.v (.pointer (some ⟨g, n + off, none⟩)))) := g_field ho hx (fldI h hk h0)
theorem g_field_pdI {x : Operand} {T k off sz : Nat} {ag : Bool} {d d' : D} {l : List (Nat × Nat × Bool)} (ho : o.op = .fieldAddr T x k) (hx : ev S x = some (.val (.pd d))) (h : assoc stL T = some l) (hk : l[k]? = some (off, sz, ag)) (h0 : Nat.blt 0 sz = true) (hs : d.sub off sz ag = some d') : Still ops S o (.val (.pd d')) := g_field_pd ho hx (fldI h hk h0) hs
theorem g_loadI {x : Operand} {T sz g n : Nat} {ag : Bool} {t : TypeId} {d d' : D} (i : Nat) (ho : o.op = .load T x) (hx : ev S x = some (.val (.v (.pointer (some ⟨g, n, none⟩))))) (hi : S.objs[i]? = some (.var g t d)) (hT : assoc tyL T = some (sz, ag)) (hs : d.sub n sz ag = some d') : Still ops S o (.val d') := g_load i ho hx hi (tyI hT) hs
theorem g_load_pdI {x : Operand} {T sz : Nat} {ag : Bool} {d d' : D} (ho : o.op = .load T x) (hx : ev S x = some (.val (.pd d))) (hT : assoc tyL T = some (sz, ag)) (hs : d.sub 0 sz ag = some d') : Still ops S o (.val d') := g_load_pd ho hx (tyI hT) hs
theorem g_indexI {x y : Operand} {T e z b : Nat} {k : Int} {ds : List D} (ho : o.op = .indexAddr T x y) (hx : ev S x = some (.val (.sl z ds))) (hy : ev S y = some (.val (.v (.int .i64 k)))) (hT : assoc slL T = some (e, z, b)) (hz : Nat.blt 0 z = true) (h0 : 0 ≤ k) (hk : k.toNat < ds.length) : Still ops S o (.val (.pd ds[k.toNat])) := g_index ho hx hy (slI hT) (by simpa using hz) h0 hk
theorem g_index_bsI {x y : Operand} {T e b : Nat} {k : Int} {l : List UInt8} (ho : o.op = .indexAddr T x y) (hx : ev S x = some (.val (.bs l))) (hy : ev S y = some (.val (.v (.int .i64 k)))) (hT : assoc slL T = some (e, 1, b)) (h0 : 0 ≤ k) (hk : k.toNat < l.length) : Still ops S o (.val (.pd (.v (bv l[k.toNat])))) := g_index_bs ho hx hy (slI hT) h0 hk
theorem g_len_bsI {x : Operand} {T e z y : Nat} {l : List UInt8} (ho : o.op = .call { callee := .builtin .len, args := #[x], argTypes := #[T] }) (hx : ev S x = some (.val (.bs l))) (hT : assoc slL T = some (e, z, y)) : Still ops S o (.val (.v (.int .i64 l.length))) := g_len_bs ho hx (slI hT).und
theorem g_len_slI {x : Operand} {T e z y z' : Nat} {ds : List D} (ho : o.op = .call { callee := .builtin .len, args := #[x], argTypes := #[T] }) (hx : ev S x = some (.val (.sl z' ds))) (hT : assoc slL T = some (e, z, y)) : Still ops S o (.val (.v (.int .i64 ds.length))) := g_len_sl ho hx (slI hT).und
theorem g_len_nilI {x : Operand} {T e n c z y : Nat} {A : Option Addr} (ho : o.op = .call { callee := .builtin .len, args := #[x], argTypes := #[T] }) (hx : ev S x = some (.val (.v (.slice A n c)))) (hT : assoc slL T = some (e, z, y)) : Still ops S o (.val (.v (.int .i64 n))) := g_len_nil ho hx (slI hT).und
theorem g_len_rowI {x : Operand} {T e e' z z' y : Nat} {v : Value} {ds : List D} (i : Nat) (ho : o.op = .call { callee := .builtin .len, args := #[x], argTypes := #[T] }) (hx : ev S x = some (.val (.v v))) (hi : S.objs[i]? = some (.row v e' z ds)) (hT : assoc slL T = some (e, z', y)) : Still ops S o (.val (.v (.int .i64 ds.length))) := g_len_row i ho hx hi (slI hT).und
theorem ES.append {t : Tmp} {T e z y : Nat} {s x : Operand} {v : Value} {ds es : List D} (i : Nat) (ho : o.op = .call { callee := .builtin .append, args := #[s, x], argTypes := #[T, T] }) (hT : assoc slL T = some (e, z, y)) (hz : Nat.blt 0 z = true)
    (hs : ev ⟨rs, os, fs⟩ s = some (.val (.v v))) (hi : os[i]? = some (.row v e z ds)) (hx : ev ⟨rs, os, fs⟩ x = some (.val (.sl z es))) (hg : guardOf ops ⟨rs, os, fs⟩ o = some true) (hd : o.dst = some t) (hN : Nat.blt t N = true) (hlen : (ds.length + es.length) * y ≤ 140737488355328 ∧ ds.length + es.length ≤ 9223372036854775807)
    (k : ∀ v', EL X ops Q l ⟨(t, .val (.v v')) :: rs, os.set i (.row v' e z (ds ++ es)), fs⟩) : EL X ops Q (o :: l) ⟨rs, os, fs⟩ := EL.append i ho hg (dst_lt hd hN) (slTI hT hz) hs hi hx hlen fun v' => by rw [hd]; exact k v'
theorem EH.nil {l' : List Oper} {F : List Fr} (hF : F = []) (h : EL X ops Q l' S) : EM N ops (fun S' E => openF (EL X ops Q l') E S') [] S F := by
  subst hF
  exact h
end
end E
end Go.Proofs.Ytmlajcbabimkjaa
