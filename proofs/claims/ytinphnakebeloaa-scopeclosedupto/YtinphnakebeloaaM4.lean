/- A part of the proof: G1. -/
import Derived.Test.YtinphnakebeloaaM3
import Derived.KernelRfl
import Derived.Test.YtinphnakebeloaaProg
set_option linter.unusedVariables false
set_option linter.unusedSimpArgs false
namespace Go.Proofs.Ytinphnakebeloaa
open Go Go.Am
set_option linter.unusedVariables false
def tF : TI := { k := .func, size := 1, bytes := 8, zero := [.nilf] }
def tP : TI := { k := .ptr, size := 1, bytes := 8, zero := [.nilp] }
def tS (e : Nat) : TI := { k := .slice e, size := 1, bytes := 24, zero := [.nils] }
noncomputable def tis : List TI := [{}, tF, { k := .int .i64, size := 1, bytes := 8, zero := [.int .i64 0] }, { k := .int .i64, size := 1, bytes := 8, zero := [.int .i64 0] }, { k := .bool, size := 1, bytes := 1, zero := [.bool false] }, { k := .int .u8, size := 1, bytes := 1, zero := [.int .u8 0] }, { k := .int .u8, size := 1, bytes := 1, zero := [.int .u8 0] }, { k := .struct [(0, 2), (1, 3), (2, 4), (3, 6)], size := 4, bytes := 24, zero := [.int .i64 0, .int .i64 0, .bool false, .int .u8 0] }, { k := .struct [(0, 2), (1, 3), (2, 4), (3, 6)], size := 4, bytes := 24, zero := [.int .i64 0, .int .i64 0, .bool false, .int .u8 0] }, { k := .str, size := 1, bytes := 16, zero := [.str []] }, { k := .str, size := 1, bytes := 16, zero := [.str []] }, { k := .str, size := 1, bytes := 16, zero := [.str []] }, { k := .int .u64, size := 1, bytes := 8, zero := [.int .u64 0] }, { k := .struct [(0, 9), (1, 12)], size := 2, bytes := 24, zero := [.str [], .int .u64 0] }, { k := .struct [(0, 9), (1, 12)], size := 2, bytes := 24, zero := [.str [], .int .u64 0] }, tP, tP, tP, { k := .struct [(0, 17)], size := 1, bytes := 8, zero := [.nilp] }, { k := .struct [(0, 17)], size := 1, bytes := 8, zero := [.nilp] }, { k := .iface, size := 1, bytes := 16, zero := [.nili] }, { k := .int .i32, size := 1, bytes := 4, zero := [.int .i32 0] }, tS 35, tF, { k := .int .i64, size := 1, bytes := 8, zero := [.int .i64 0] }, { k := .struct [(0, 24), (1, 3), (2, 9)], size := 3, bytes := 32, zero := [.int .i64 0, .int .i64 0, .str []] }, { k := .struct [(0, 24), (1, 3), (2, 9)], size := 3, bytes := 32, zero := [.int .i64 0, .int .i64 0, .str []], flat := [.int .i64, .int .i64, .str] }, tF, tF, tS 9, { k := .int .i64, size := 1, bytes := 8, zero := [.int .i64 0] }, tS 99, tS 46, tS 48, { k := .struct [(0, 30), (1, 3), (2, 9), (3, 3), (4, 31), (5, 32), (6, 33)], size := 7, bytes := 112, zero := [.int .i64 0, .int .i64 0, .str [], .int .i64 0, .nils, .nils, .nils] }, { k := .struct [(0, 30), (1, 3), (2, 9), (3, 3), (4, 31), (5, 32), (6, 33)], size := 7, bytes := 112, zero := [.int .i64 0, .int .i64 0, .str [], .int .i64 0, .nils, .nils, .nils] }, tF, { k := .int .i64, size := 1, bytes := 8, zero := [.int .i64 0] }, tS 40, { k := .struct [(0, 37), (1, 3), (2, 9), (3, 3), (4, 38)], size := 5, bytes := 64, zero := [.int .i64 0, .int .i64 0, .str [], .int .i64 0, .nils] }, { k := .struct [(0, 37), (1, 3), (2, 9), (3, 3), (4, 38)], size := 5, bytes := 64, zero := [.int .i64 0, .int .i64 0, .str [], .int .i64 0, .nils] }, { k := .int .i64, size := 1, bytes := 8, zero := [.int .i64 0] }, tS 44, { k := .struct [(0, 41), (1, 3), (2, 9), (3, 3), (4, 42), (5, 32), (6, 22)], size := 7, bytes := 112, zero := [.int .i64 0, .int .i64 0, .str [], .int .i64 0, .nils, .nils, .nils] }, { k := .struct [(0, 41), (1, 3), (2, 9), (3, 3), (4, 42), (5, 32), (6, 22)], size := 7, bytes := 112, zero := [.int .i64 0, .int .i64 0, .str [], .int .i64 0, .nils, .nils, .nils] }, { k := .struct [(0, 40), (5, 44)], size := 12, bytes := 176, zero := [.int .i64 0, .int .i64 0, .str [], .int .i64 0, .nils, .int .i64 0, .int .i64 0, .str [], .int .i64 0, .nils, .nils, .nils] }, { k := .struct [(0, 40), (5, 44)], size := 12, bytes := 176, zero := [.int .i64 0, .int .i64 0, .str [], .int .i64 0, .nils, .int .i64 0, .int .i64 0, .str [], .int .i64 0, .nils, .nils, .nils] }, { k := .struct [(0, 9), (1, 3), (2, 46)], size := 14, bytes := 200, zero := [.str [], .int .i64 0, .int .i64 0, .int .i64 0, .str [], .int .i64 0, .nils, .int .i64 0, .int .i64 0, .str [], .int .i64 0, .nils, .nils, .nils] }, { k := .struct [(0, 9), (1, 3), (2, 46)], size := 14, bytes := 200, zero := [.str [], .int .i64 0, .int .i64 0, .int .i64 0, .str [], .int .i64 0, .nils, .int .i64 0, .int .i64 0, .str [], .int .i64 0, .nils, .nils, .nils] }, tF, tF, tF, tS 71, tS 71, {}, tF, tF, tP, { k := .map 9 3, size := 1, bytes := 8, zero := [.nilm] }, tF, tF, { k := .struct [(0, 58), (1, 26), (4, 59), (5, 60), (6, 4), (7, 4)], size := 8, bytes := 64, zero := [.nilm, .int .i64 0, .int .i64 0, .str [], .nilf, .nilf, .bool false, .bool false] }, { k := .struct [(0, 58), (1, 26), (4, 59), (5, 60), (6, 4), (7, 4)], size := 8, bytes := 64, zero := [.nilm, .int .i64 0, .int .i64 0, .str [], .nilf, .nilf, .bool false, .bool false] }, tF, { k := .int .i64, size := 1, bytes := 8, zero := [.int .i64 0] }, tS 67, { k := .struct [(0, 64), (1, 3), (2, 9), (3, 65)], size := 4, bytes := 56, zero := [.int .i64 0, .int .i64 0, .str [], .nils] }, { k := .struct [(0, 64), (1, 3), (2, 9), (3, 65)], size := 4, bytes := 56, zero := [.int .i64 0, .int .i64 0, .str [], .nils] }, { k := .struct [(0, 3), (1, 67)], size := 5, bytes := 64, zero := [.int .i64 0, .int .i64 0, .int .i64 0, .str [], .nils] }, { k := .struct [(0, 3), (1, 67)], size := 5, bytes := 64, zero := [.int .i64 0, .int .i64 0, .int .i64 0, .str [], .nils] }, { k := .struct [(0, 9), (1, 9), (2, 3), (3, 3), (4, 4), (5, 69)], size := 10, bytes := 120, zero := [.str [], .str [], .int .i64 0, .int .i64 0, .bool false, .int .i64 0, .int .i64 0, .int .i64 0, .str [], .nils] }, { k := .struct [(0, 9), (1, 9), (2, 3), (3, 3), (4, 4), (5, 69)], size := 10, bytes := 120, zero := [.str [], .str [], .int .i64 0, .int .i64 0, .bool false, .int .i64 0, .int .i64 0, .int .i64 0, .str [], .nils] }, {}, tF, tF, tF, tF, tF, tF, tF, tF, tS 111, tF, tF, tF, tF, tF, tF, tF, tF, tF, tF, tF, tF, tF, {}, {}, tF, { k := .struct [(0, 9), (1, 3), (2, 4), (3, 67)], size := 7, bytes := 88, zero := [.str [], .int .i64 0, .bool false, .int .i64 0, .int .i64 0, .str [], .nils] }, { k := .struct [(0, 9), (1, 3), (2, 4), (3, 67)], size := 7, bytes := 88, zero := [.str [], .int .i64 0, .bool false, .int .i64 0, .int .i64 0, .str [], .nils] }, {}, tF, tF, tF, tF, tF, tF, tF, tF, tS 1, { k := .struct [(0, 3), (1, 4), (2, 3), (3, 35), (10, 44), (17, 40), (22, 67), (26, 48), (40, 99)], size := 47, bytes := 656, zero := [.int .i64 0, .bool false, .int .i64 0, .int .i64 0, .int .i64 0, .str [], .int .i64 0, .nils, .nils, .nils, .int .i64 0, .int .i64 0, .str [], .int .i64 0, .nils, .nils, .nils, .int .i64 0, .int .i64 0, .str [], .int .i64 0, .nils, .int .i64 0, .int .i64 0, .str [], .nils, .str [], .int .i64 0, .int .i64 0, .int .i64 0, .str [], .int .i64 0, .nils, .int .i64 0, .int .i64 0, .str [], .int .i64 0, .nils, .nils, .nils, .str [], .int .i64 0, .bool false, .int .i64 0, .int .i64 0, .str [], .nils] }, { k := .struct [(0, 3), (1, 4), (2, 3), (3, 35), (10, 44), (17, 40), (22, 67), (26, 48), (40, 99)], size := 47, bytes := 656, zero := [.int .i64 0, .bool false, .int .i64 0, .int .i64 0, .int .i64 0, .str [], .int .i64 0, .nils, .nils, .nils, .int .i64 0, .int .i64 0, .str [], .int .i64 0, .nils, .nils, .nils, .int .i64 0, .int .i64 0, .str [], .int .i64 0, .nils, .int .i64 0, .int .i64 0, .str [], .nils, .str [], .int .i64 0, .int .i64 0, .int .i64 0, .str [], .int .i64 0, .nils, .int .i64 0, .int .i64 0, .str [], .int .i64 0, .nils, .nils, .nils, .str [], .int .i64 0, .bool false, .int .i64 0, .int .i64 0, .str [], .nils] }, tF, tF, tP, tP, tP, tP, tP, tP, { k := .struct [(0, 114), (1, 4), (2, 115), (3, 116), (4, 117), (5, 118), (6, 119), (7, 3)], size := 8, bytes := 64, zero := [.nilp, .bool false, .nilp, .nilp, .nilp, .nilp, .nilp, .int .i64 0] }, { k := .struct [(0, 114), (1, 4), (2, 115), (3, 116), (4, 117), (5, 118), (6, 119), (7, 3)], size := 8, bytes := 64, zero := [.nilp, .bool false, .nilp, .nilp, .nilp, .nilp, .nilp, .int .i64 0] }, tF, tF, { k := .struct [(0, 123)], size := 1, bytes := 8, zero := [.nilf] }, { k := .struct [(0, 123)], size := 1, bytes := 8, zero := [.nilf] }, tF, tF, tF, tF, tF, tF, tF, tF, tF, tF, tF, tF, tF, tF, tF, tF, tF, tF, tF, tF, tF, tF, tF, tF, tF, tF, { k := .struct [(0, 4), (1, 4), (2, 4), (3, 4), (4, 3), (5, 3)], size := 6, bytes := 24, zero := [.bool false, .bool false, .bool false, .bool false, .int .i64 0, .int .i64 0] }, { k := .struct [(0, 4), (1, 4), (2, 4), (3, 4), (4, 3), (5, 3)], size := 6, bytes := 24, zero := [.bool false, .bool false, .bool false, .bool false, .int .i64 0, .int .i64 0] }, {}, tF, tF, tF, tF, tF, { k := .int .u64, size := 1, bytes := 8, zero := [.int .u64 0] }, { k := .int .u32, size := 1, bytes := 4, zero := [.int .u32 0] }, {}, tF, tF, { k := .struct [(0, 17), (1, 17), (2, 17), (3, 9)], size := 4, bytes := 40, zero := [.nilp, .nilp, .nilp, .str []] }, { k := .struct [(0, 17), (1, 17), (2, 17), (3, 9)], size := 4, bytes := 40, zero := [.nilp, .nilp, .nilp, .str []] }, { k := .array 0 16, size := 0, bytes := 0, zero := [] }, { k := .struct [(0, 167)], size := 0, bytes := 0, zero := [] }, { k := .struct [(0, 167)], size := 0, bytes := 0, zero := [] }, { k := .int .u8, size := 1, bytes := 1, zero := [.int .u8 0] }, { k := .int .u8, size := 1, bytes := 1, zero := [.int .u8 0] }, tF, tP, { k := .int .i32, size := 1, bytes := 4, zero := [.int .i32 0] }, { k := .int .i32, size := 1, bytes := 4, zero := [.int .i32 0] }, { k := .struct [(0, 12), (1, 12), (2, 161), (3, 170), (4, 5), (5, 5), (6, 171), (7, 172), (8, 173), (9, 174), (10, 175)], size := 11, bytes := 48, zero := [.int .u64 0, .int .u64 0, .int .u32 0, .int .u8 0, .int .u8 0, .int .u8 0, .int .u8 0, .nilf, .nilp, .int .i32 0, .int .i32 0] }, { k := .struct [(0, 12), (1, 12), (2, 161), (3, 170), (4, 5), (5, 5), (6, 171), (7, 172), (8, 173), (9, 174), (10, 175)], size := 11, bytes := 48, zero := [.int .u64 0, .int .u64 0, .int .u32 0, .int .u8 0, .int .u8 0, .int .u8 0, .int .u8 0, .nilf, .nilp, .int .i32 0, .int .i32 0] }, {}]
noncomputable def modes : List (Nat × Nat × AMode) := [(5, 6, .loc), (5, 7, .loc), (5, 28, .loc), (8, 3, .loc), (8, 11, .loc), (11, 1, .con), (22, 3, .loc), (23, 1, .con), (30, 4, .loc), (31, 1, .con), (37, 2, .con), (37, 3, .con), (43, 3, .con), (43, 4, .con), (43, 8, .loc), (44, 3, .con), (47, 3, .loc), (48, 1, .con), (53, 3, .con), (53, 5, .loc), (60, 7, .loc), (66, 1, .con)]
noncomputable def keeps : List (Nat × Nat × List Nat) := [(3, 6, [0, 3, 23, 24, 25]), (3, 12, [0, 3, 4, 5, 6, 23, 24, 25, 39, 40, 41]), (3, 15, [0, 3, 4, 5, 6, 23, 24, 25, 39, 40, 41, 49, 50, 51]), (3, 23, [0, 3, 4, 6, 23, 24, 25, 69, 70, 71]), (5, 13, [2, 6, 7, 37, 38, 39]), (9, 3, [0, 1, 5]), (12, 4, [3, 4, 10, 11, 12]), (17, 3, [1, 4, 8, 9, 10]), (18, 5, [0, 3, 16, 17, 18]), (18, 15, [0, 7, 8, 44, 45, 46]), (19, 7, [3, 5, 6, 7, 8, 9, 10, 34, 35, 36]), (19, 26, [3, 5, 6, 7, 8, 9, 10, 13, 16, 17, 18, 90, 91, 92]), (21, 5, [0, 1, 5]), (22, 6, [1, 3, 4, 16, 17, 18]), (22, 9, [1, 3, 4, 16, 17, 18, 24, 25, 26]), (22, 16, [3, 4, 39, 40, 41]), (27, 11, [0, 3, 4, 53, 54, 55]), (27, 16, [0, 3, 4, 67, 68, 69]), (27, 21, [0, 4, 78, 79, 80]), (27, 26, [88, 89, 90]), (28, 4, [0, 3, 4]), (29, 4, [0, 3, 4]), (30, 7, [4]), (33, 4, [3, 11, 12, 13]), (33, 8, [3, 5, 6, 11, 12, 13, 21, 22, 23]), (33, 13, [3, 6, 11, 12, 13, 35, 36, 37]), (35, 4, [1, 2, 10, 11, 12]), (36, 11, [0, 2, 44, 45, 46]), (37, 3, [2, 3, 7, 8, 9]), (40, 4, [3, 9, 10, 11]), (41, 4, [3, 10, 11, 12]), (42, 6, [1, 2, 4, 11, 12]), (47, 4, [3]), (50, 4, [3, 14, 15, 16]), (51, 3, [0, 1, 7, 8]), (52, 4, [2, 5, 6]), (52, 8, [2, 5, 7]), (52, 13, [2, 5, 8]), (53, 4, [3, 5]), (56, 3, [1, 2, 3, 14, 15]), (56, 9, [1, 2, 3, 8, 14, 15, 45, 46]), (56, 16, [1, 2, 3, 8, 14, 15, 80, 81]), (57, 4, [3, 6, 7, 8]), (58, 4, [3, 7, 8, 9]), (59, 4, [4, 5, 10, 11, 12]), (61, 2, [1, 4, 5, 6]), (62, 12, [3, 45, 46, 47]), (63, 6, [1, 4, 5, 23, 24, 25]), (65, 5, [2, 3, 9, 10, 11]), (68, 5, [1, 2, 29, 30]), (70, 4, [1, 2, 5, 6]), (78, 3, [1, 2, 7, 8]), (79, 5, [1, 2, 3, 19, 20]), (80, 4, [3, 7, 8, 9]), (82, 5, [1, 2, 20, 21]), (83, 4, [1, 3, 4]), (84, 4, [1, 3, 4]), (84, 8, [1, 3, 5]), (84, 12, [1, 3, 6]), (86, 3, [0, 3])]
noncomputable def cuts : List (Nat × Nat × List Nat) := [(3, 21, [0, 3, 4, 5, 6, 23, 24, 25]), (3, 29, [0, 3, 4, 23, 24, 25]), (19, 23, [3, 5, 6, 7, 8, 9, 10, 13]), (19, 38, [3, 5, 6, 7, 8, 9, 10, 13, 16, 17, 18, 20, 21, 22, 90, 91, 92]), (19, 44, [3, 5, 6, 7, 8, 9, 10, 13, 16, 17, 18, 20, 25, 90, 91, 92]), (19, 47, [5, 6, 18]), (22, 14, [1, 3, 4]), (27, 9, [0, 3]), (36, 5, [0, 2, 4, 9, 10]), (36, 10, [0, 2, 4]), (54, 17, [1, 2, 3, 4]), (72, 14, [1, 3, 5, 7, 8]), (76, 16, [1, 3, 4, 5, 6]), (77, 18, [1, 3, 4, 5, 56, 61]), (77, 24, [3, 4, 5])]
noncomputable def rankl : List (Nat × Nat × List Nat) := [(12, 7, [1, 0, 2]), (19, 18, [1, 2, 3, 4, 5, 0, 6]), (19, 47, [1, 0, 2]), (42, 9, [0, 1, 2, 3, 5, 6, 4, 7]), (54, 3, [0, 1, 2, 3, 4, 6, 7, 8, 9, 10, 5, 11]), (54, 5, [0, 1, 3, 4, 5, 6, 7, 2, 8]), (54, 11, [0, 1, 2, 3, 4, 6, 7, 8, 9, 10, 5, 11]), (54, 13, [0, 1, 2, 3, 4, 6, 7, 8, 9, 10, 5, 11]), (54, 15, [0, 1, 2, 3, 4, 6, 7, 8, 9, 10, 5, 11]), (62, 7, [1, 2, 0, 3]), (62, 9, [1, 2, 0, 3]), (72, 2, [0, 1, 2, 3, 4, 5, 6, 7, 8, 9, 10, 23, 11, 12, 13, 14, 15, 16, 25, 26, 27, 28, 29, 30, 17, 18, 19, 20, 21, 32, 22, 24, 31, 33])]
noncomputable def drawl : List (Nat × Nat × Bool × List (Option Nat)) := [(6, 3, false, [some 1, none, none, some 1, some 2, none, none, none, none, some 4]), (12, 7, false, [some 8, none, some 3]), (19, 4, false, [none, some 3, none, none, none]), (19, 18, false, [none, some 3, none, some 3, none, none, some 5]), (19, 47, false, [some 18, none, some 5]), (21, 6, false, [none, none, none, none, none, none, none, none, none]), (27, 4, false, [none, none, none, none, none, some 3, none, none]), (27, 5, false, [none, none, none, none, none, some 3, none, some 3, none]), (27, 7, false, [none, none, none, none, none, some 3, none, some 3, none, some 3, none, none]), (35, 5, false, [none, some 1, none, some 4, none, none, none]), (36, 8, false, [none, none, none, none, none, some 4, none, some 4, none, some 4, none, none]), (42, 9, false, [none, some 1, none, none, none, some 1, some 2, none]), (47, 5, false, [none, none, some 4, none, none, none, none, none, none]), (50, 1, false, [none, some 1, none, none, some 1, none, none, none]), (52, 9, false, [none, none, some 2, none, none, none, none, some 2, none, none, none, none, none, none, none, none]), (54, 3, true, [none, some 1, none, none, none, none, some 1, none, none, none, none, none]), (54, 5, true, [some 1, none, none, some 1, none, none, none, none, none]), (54, 11, true, [none, some 1, none, none, none, none, some 1, none, none, none, none, none]), (54, 13, true, [none, some 1, none, none, none, none, some 1, none, none, none, none, none]), (54, 15, true, [none, some 1, none, none, none, none, some 1, none, none, none, none, none]), (56, 5, false, [none, some 3, none, none, none, none, none, none, none, none, none, none, some 3, none, none, none, none, none, none, none]), (56, 11, false, [none, some 3, none, none, none, none, none, none, none, none, none, some 3, none, none, none, none, none, none, none, none]), (56, 18, false, [none, some 3, none, none, none, none, none, none, none, none, none, none, none, none, none, none, some 3, none, none, none, none, none, none, none, none, none, none, none]), (57, 5, false, [none, none, some 5, none, none, some 5, none, none, none]), (59, 5, false, [none, some 5, some 7, none, none, none, none, some 5]), (62, 7, false, [none, some 4, none, none]), (62, 9, false, [none, some 4, none, none]), (63, 7, false, [none, some 5, some 7, none, none, none, none, none, some 5]), (65, 6, false, [none, some 3, some 5, none, none, none, none, some 3]), (68, 1, false, [none, some 2, none, none, none, none, none, none, none, none, none, some 2, none, none, none, none, none, none, none]), (68, 6, false, [some 2, none, none, none, none, none, none, none, none]), (68, 9, false, [some 2, none, none, none, none, none, none]), (69, 1, false, [none, some 1, none, none, some 1, none, none, none]), (72, 2, false, [none, none, none, none, none, none, none, none, none, none, none, none, none, none, none, none, none, none, none, none, none, none, none, none, none, none, none, none, none, none, none, none, none, none]), (78, 4, false, [some 2, none, none, none, none, none, none, none, some 2, none, none, none, none, none, none, none]), (79, 6, false, [some 3, none, none, none, none, none, none, none, none, none]), (82, 1, false, [none, some 2, none, none, none, none, none, none, none, none]), (82, 6, false, [some 2, none, none, none, none, none, none, none, none])]
noncomputable def frzs : List (Nat × Nat × List Nat) := [(35, 7, [1])]
noncomputable def codes : List (Nat × Func) := [(3, Try.f3), (4, Try.f4), (5, Try.f5), (6, Try.f6), (7, Try.f7), (8, Try.f8), (9, Try.f9), (10, Try.f10), (11, Try.f11), (12, Try.f12), (13, Try.f13), (14, Try.f14), (15, Try.f15), (16, Try.f16), (17, Try.f17), (18, Try.f18), (19, Try.f19), (20, Try.f20), (21, Try.f21), (22, Try.f22), (23, Try.f23), (24, Try.f24), (25, Try.f25), (26, Try.f26), (27, Try.f27), (28, Try.f28), (29, Try.f29), (30, Try.f30), (31, Try.f31), (32, Try.f32), (33, Try.f33), (34, Try.f34), (35, Try.f35), (36, Try.f36), (37, Try.f37), (38, Try.f38), (39, Try.f39), (40, Try.f40), (41, Try.f41), (42, Try.f42), (43, Try.f43), (44, Try.f44), (45, Try.f45), (46, Try.f46), (47, Try.f47), (48, Try.f48), (49, Try.f49), (50, Try.f50), (51, Try.f51), (52, Try.f52), (53, Try.f53), (54, Try.f54), (55, Try.f55), (56, Try.f56), (57, Try.f57), (58, Try.f58), (59, Try.f59), (60, Try.f60), (61, Try.f61), (62, Try.f62), (63, Try.f63), (64, Try.f64), (65, Try.f65), (66, Try.f66), (67, Try.f67), (68, Try.f68), (69, Try.f69), (70, Try.f70), (71, Try.f71), (72, Try.f72), (73, Try.f73), (74, Try.f74), (75, Try.f75), (76, Try.f76), (77, Try.f77), (78, Try.f78), (79, Try.f79), (80, Try.f80), (81, Try.f81), (82, Try.f82), (83, Try.f83), (84, Try.f84), (85, Try.f85), (86, Try.f86), (88, Try.f88), (89, Try.f89), (90, Try.f90), (91, Try.f91), (92, Try.f92)]
noncomputable def exts : List (Nat × (List AV → Option AV)) := [(87, extContains)]
noncomputable def C : Cfg where
 ti t := tis.getD t {}
 mode f d := findMode f d modes
 keep f r := findKeep f r keeps
 cut f r := findCut f r cuts
 draws f r := findDraw f r drawl
 ranks f r := findKeep f r rankl
 frz f r := findKeep f r frzs
 glob _ := none
 ints := [0]
 ext f := findExt f exts
 code f := findCode f codes
noncomputable abbrev cw : CallFn := callw C
def Q9t : List UInt8 := [32, 97, 110, 100, 32, 97, 110, 100, 97, 108, 115, 111, 32, 97, 115, 32, 99, 97, 115, 101, 32, 100, 97, 116, 97, 116, 121, 112, 101, 32, 100, 105, 118, 32, 101, 108, 115, 101, 32, 101, 110, 100, 32, 101, 120, 99, 101, 112, 116, 105, 111, 110, 32, 102, 110, 32, 102, 117, 110, 32, 104, 97, 110, 100, 108, 101, 32, 105, 102, 32, 105, 110, 32, 108, 101, 116, 32, 109, 111, 100, 32, 111, 102, 32, 111, 114, 101, 108, 115, 101, 32, 112, 114, 105, 110, 116, 32, 114, 97, 105, 115, 101, 32, 114, 101, 97, 100, 32, 114, 101, 102, 32, 116, 104, 101, 110, 32, 118, 97, 108, 32, 116, 114, 117, 101, 32, 102, 97, 108, 115, 101, 32, 95, 32]
abbrev T_0 : Nat := 0
abbrev ZW : Nat := 1
abbrev Q1 : Nat := 3
abbrev Qg : Nat := 4
abbrev Q0b : Nat := 5
abbrev Q2 : Nat := 9
abbrev Qp : Nat := 22
abbrev Qv : Nat := 24
abbrev Q6 : Nat := 26
abbrev Qa : Nat := 29
abbrev Qe : Nat := 30
abbrev QL : Nat := 31
abbrev Qj : Nat := 32
abbrev QM : Nat := 33
abbrev Qi : Nat := 35
abbrev Qr : Nat := 37
abbrev QN : Nat := 38
abbrev Qq : Nat := 40
abbrev Q3 : Nat := 41
abbrev QD : Nat := 42
abbrev Qm : Nat := 44
abbrev Ql : Nat := 46
abbrev QX : Nat := 48
abbrev Zl : Nat := 53
abbrev QH : Nat := 57
abbrev Qo : Nat := 58
abbrev Qn : Nat := 59
abbrev QB : Nat := 60
abbrev Q2P : Nat := 62
abbrev Qs : Nat := 64
abbrev Qk : Nat := 65
abbrev Q4 : Nat := 67
abbrev Q1a : Nat := 69
abbrev Qd : Nat := 71
abbrev Q0a : Nat := 81
abbrev Zo : Nat := 99
abbrev Q1O : Nat := 109
abbrev Qb : Nat := 111
abbrev Q1o : Nat := 114
abbrev Q0M : Nat := 115
abbrev Q0m : Nat := 116
abbrev Q1p : Nat := 117
abbrev Q09 : Nat := 118
abbrev Q3O : Nat := 119
abbrev QI : Nat := 121
abbrev Qf : Nat := 123
abbrev Qt : Nat := 125
abbrev Qh : Nat := 131
abbrev Q0 : Nat := 153
abbrev Qz : Nat := 3
abbrev Q5M : Nat := 4
abbrev ZA : Nat := 5
abbrev Q2p : Nat := 6
abbrev Q2r : Nat := 7
abbrev Q1B : Nat := 8
abbrev Q2E : Nat := 9
abbrev Q4B : Nat := 10
abbrev Q2F : Nat := 11
abbrev Q5g : Nat := 12
abbrev Q2C : Nat := 13
abbrev Q0p : Nat := 14
abbrev QF : Nat := 15
abbrev Q0q : Nat := 16
abbrev Q3H : Nat := 17
abbrev ZG : Nat := 18
abbrev Zn : Nat := 19
abbrev Q1n : Nat := 20
abbrev Q1A : Nat := 21
abbrev Z3 : Nat := 22
abbrev Q2G : Nat := 23
abbrev Q07 : Nat := 24
abbrev QQ : Nat := 25
abbrev Q0K : Nat := 26
abbrev Qy : Nat := 27
abbrev Q2q : Nat := 28
abbrev Q4p : Nat := 29
abbrev Q1D : Nat := 30
abbrev Q3u : Nat := 31
abbrev Q3s : Nat := 32
abbrev Z9 : Nat := 33
abbrev ZL : Nat := 34
abbrev Q0G : Nat := 35
abbrev QP : Nat := 36
abbrev Z6 : Nat := 37
abbrev ZX : Nat := 38
abbrev Q0r : Nat := 39
abbrev Q2o : Nat := 40
abbrev Q2D : Nat := 41
abbrev Q27 : Nat := 42
abbrev Q4A : Nat := 43
abbrev Q97 : Nat := 44
abbrev QaG : Nat := 45
abbrev Z8 : Nat := 46
abbrev Q28 : Nat := 47
abbrev Q23 : Nat := 48
abbrev Q22 : Nat := 49
abbrev ZH : Nat := 50
abbrev QZ : Nat := 51
abbrev ZU : Nat := 52
abbrev Q2H : Nat := 53
abbrev Q0t : Nat := 54
abbrev Q2u : Nat := 55
abbrev Z1 : Nat := 56
abbrev Zh : Nat := 57
abbrev Q0l : Nat := 58
abbrev Q3v : Nat := 59
abbrev Zj : Nat := 60
abbrev QA : Nat := 61
abbrev Q0H : Nat := 62
abbrev Q29 : Nat := 63
abbrev Q6t : Nat := 64
abbrev Q3w : Nat := 65
abbrev Q3t : Nat := 66
abbrev Q1v : Nat := 67
abbrev Zk : Nat := 68
abbrev Q0I : Nat := 69
abbrev Q0J : Nat := 70
abbrev Q24 : Nat := 71
abbrev ZO : Nat := 72
abbrev Q19 : Nat := 73
abbrev Q2M : Nat := 74
abbrev Q2N : Nat := 75
abbrev Q1z : Nat := 76
abbrev Q0L : Nat := 77
abbrev Zb : Nat := 78
abbrev Zc : Nat := 79
abbrev Q08 : Nat := 80
abbrev Z0 : Nat := 81
abbrev QO : Nat := 82
abbrev Q0k : Nat := 83
abbrev ZV : Nat := 84
abbrev Q2L : Nat := 85
abbrev Q2K : Nat := 86
abbrev Q1C : Nat := 87
abbrev Q1M : Nat := 88
abbrev Q6V : Nat := 89
abbrev Q0s : Nat := 90
abbrev Q2J : Nat := 91
abbrev Q2I : Nat := 92
@[go_sem] theorem Q6X : (C.ti ZW).size = 1 := by kernel_rfl
@[go_sem] theorem QkX : (C.ti ZW).k = .func := by kernel_rfl
@[go_sem] theorem Qjk : (C.ti ZW).isAgg = false := by kernel_rfl
@[go_sem] theorem Qit : (C.ti ZW).isGood = true := by kernel_rfl
@[go_sem] theorem QaH : (C.ti ZW).bytes = 8 := by kernel_rfl
@[go_sem] theorem Qiu : (C.ti ZW).zero = [.nilf] := by kernel_rfl
@[go_sem] theorem QeH : (C.ti Q1).size = 1 := by kernel_rfl
@[go_sem] theorem Q1N : (C.ti Q1).k = .int .i64 := by kernel_rfl
@[go_sem] theorem Qfv : (C.ti Q1).isAgg = false := by kernel_rfl
@[go_sem] theorem QeG : (C.ti Q1).isGood = true := by kernel_rfl
@[go_sem] theorem QeI : (C.ti Q1).zero = [.int .i64 0] := by kernel_rfl
@[go_sem] theorem QjY : (C.ti Qg).size = 1 := by kernel_rfl
@[go_sem] theorem Qgo : (C.ti Qg).k = .bool := by kernel_rfl
@[go_sem] theorem QkR : (C.ti Qg).isAgg = false := by kernel_rfl
@[go_sem] theorem QjX : (C.ti Qg).isGood = true := by kernel_rfl
@[go_sem] theorem QjZ : (C.ti Qg).zero = [.bool false] := by kernel_rfl
@[go_sem] theorem Qjg : (C.ti Q0b).size = 1 := by kernel_rfl
@[go_sem] theorem Qn3 : (C.ti Q0b).k = .int .u8 := by kernel_rfl
@[go_sem] theorem Qk1 : (C.ti Q0b).isAgg = false := by kernel_rfl
@[go_sem] theorem Qjf : (C.ti Q0b).isGood = true := by kernel_rfl
@[go_sem] theorem Qjh : (C.ti Q0b).zero = [.int .u8 0] := by kernel_rfl
@[go_sem] theorem Q0n : (C.ti Q2).size = 1 := by kernel_rfl
@[go_sem] theorem QY : (C.ti Q2).k = .str := by kernel_rfl
@[go_sem] theorem Qjb : (C.ti Q2).isAgg = false := by kernel_rfl
@[go_sem] theorem Qio : (C.ti Q2).isGood = true := by kernel_rfl
@[go_sem] theorem Q3x : (C.ti Q2).bytes = 16 := by kernel_rfl
@[go_sem] theorem Qip : (C.ti Q2).zero = [.str []] := by kernel_rfl
@[go_sem] theorem QiU : (C.ti Qp).size = 1 := by kernel_rfl
@[go_sem] theorem Q7u : (C.ti Qp).k = .slice 35 := by kernel_rfl
@[go_sem] theorem QjP : (C.ti Qp).isAgg = false := by kernel_rfl
@[go_sem] theorem QiT : (C.ti Qp).isGood = true := by kernel_rfl
@[go_sem] theorem QiV : (C.ti Qp).zero = [.nils] := by kernel_rfl
@[go_sem] theorem Qiw : (C.ti Qv).size = 1 := by kernel_rfl
@[go_sem] theorem QmR : (C.ti Qv).k = .int .i64 := by kernel_rfl
@[go_sem] theorem QjF : (C.ti Qv).isAgg = false := by kernel_rfl
@[go_sem] theorem Qiv : (C.ti Qv).isGood = true := by kernel_rfl
@[go_sem] theorem Qix : (C.ti Qv).zero = [.int .i64 0] := by kernel_rfl
@[go_sem] theorem Qkx : (C.ti Q6).size = 3 := by kernel_rfl
@[go_sem] theorem Qhk : (C.ti Q6).k = .struct [(0, 24), (1, 3), (2, 9)] := by kernel_rfl
@[go_sem] theorem QmQ : (C.ti Q6).isAgg = true := by kernel_rfl
@[go_sem] theorem Qkw : (C.ti Q6).isGood = true := by kernel_rfl
@[go_sem] theorem Qky : (C.ti Q6).zero = [.int .i64 0, .int .i64 0, .str []] := by kernel_rfl
@[go_sem] theorem QeE : (C.ti Q6).flat = [.int .i64, .int .i64, .str] := by kernel_rfl
@[go_sem] theorem Qhd : (C.ti Qa).size = 1 := by kernel_rfl
@[go_sem] theorem Qj5 : (C.ti Qa).k = .slice 9 := by kernel_rfl
@[go_sem] theorem Qhw : (C.ti Qa).isAgg = false := by kernel_rfl
@[go_sem] theorem Qhc : (C.ti Qa).isGood = true := by kernel_rfl
@[go_sem] theorem Qhe : (C.ti Qa).zero = [.nils] := by kernel_rfl
@[go_sem] theorem Qhn : (C.ti Qe).size = 1 := by kernel_rfl
@[go_sem] theorem QdG : (C.ti Qe).k = .int .i64 := by kernel_rfl
@[go_sem] theorem Qi9 : (C.ti Qe).isAgg = false := by kernel_rfl
@[go_sem] theorem Qhm : (C.ti Qe).isGood = true := by kernel_rfl
@[go_sem] theorem Qho : (C.ti Qe).zero = [.int .i64 0] := by kernel_rfl
@[go_sem] theorem QiR : (C.ti QL).size = 1 := by kernel_rfl
@[go_sem] theorem Qfp : (C.ti QL).k = .slice 99 := by kernel_rfl
@[go_sem] theorem QjO : (C.ti QL).isAgg = false := by kernel_rfl
@[go_sem] theorem QiQ : (C.ti QL).isGood = true := by kernel_rfl
@[go_sem] theorem QiS : (C.ti QL).zero = [.nils] := by kernel_rfl
@[go_sem] theorem Qig : (C.ti Qj).size = 1 := by kernel_rfl
@[go_sem] theorem Q9w : (C.ti Qj).k = .slice 46 := by kernel_rfl
@[go_sem] theorem QiP : (C.ti Qj).isAgg = false := by kernel_rfl
@[go_sem] theorem Qif : (C.ti Qj).isGood = true := by kernel_rfl
@[go_sem] theorem Qih : (C.ti Qj).zero = [.nils] := by kernel_rfl
@[go_sem] theorem Qj0 : (C.ti QM).size = 1 := by kernel_rfl
@[go_sem] theorem Qfr : (C.ti QM).k = .slice 48 := by kernel_rfl
@[go_sem] theorem QjR : (C.ti QM).isAgg = false := by kernel_rfl
@[go_sem] theorem QiZ : (C.ti QM).isGood = true := by kernel_rfl
@[go_sem] theorem Qj1 : (C.ti QM).zero = [.nils] := by kernel_rfl
@[go_sem] theorem Q9v : (C.ti Qi).size = 7 := by kernel_rfl
@[go_sem] theorem Qeb : (C.ti Qi).k = .struct [(0, 30), (1, 3), (2, 9), (3, 3), (4, 31), (5, 32), (6, 33)] := by kernel_rfl
@[go_sem] theorem Qbi : (C.ti Qi).isAgg = true := by kernel_rfl
@[go_sem] theorem QkC : (C.ti Qi).isGood = true := by kernel_rfl
@[go_sem] theorem QkD : (C.ti Qi).zero = [.int .i64 0, .int .i64 0, .str [], .int .i64 0, .nils, .nils, .nils] := by kernel_rfl
@[go_sem] theorem Qhu : (C.ti Qr).size = 1 := by kernel_rfl
@[go_sem] theorem QdI : (C.ti Qr).k = .int .i64 := by kernel_rfl
@[go_sem] theorem Qie : (C.ti Qr).isAgg = false := by kernel_rfl
@[go_sem] theorem Qht : (C.ti Qr).isGood = true := by kernel_rfl
@[go_sem] theorem Qhv : (C.ti Qr).zero = [.int .i64 0] := by kernel_rfl
@[go_sem] theorem Qj3 : (C.ti QN).size = 1 := by kernel_rfl
@[go_sem] theorem Qfs : (C.ti QN).k = .slice 40 := by kernel_rfl
@[go_sem] theorem QjS : (C.ti QN).isAgg = false := by kernel_rfl
@[go_sem] theorem Qj2 : (C.ti QN).isGood = true := by kernel_rfl
@[go_sem] theorem Qj4 : (C.ti QN).zero = [.nils] := by kernel_rfl
@[go_sem] theorem QkN : (C.ti Qq).size = 5 := by kernel_rfl
@[go_sem] theorem Qed : (C.ti Qq).k = .struct [(0, 37), (1, 3), (2, 9), (3, 3), (4, 38)] := by kernel_rfl
@[go_sem] theorem Qfo : (C.ti Qq).isAgg = true := by kernel_rfl
@[go_sem] theorem QkM : (C.ti Qq).isGood = true := by kernel_rfl
@[go_sem] theorem QkO : (C.ti Qq).zero = [.int .i64 0, .int .i64 0, .str [], .int .i64 0, .nils] := by kernel_rfl
@[go_sem] theorem Qhq : (C.ti Q3).size = 1 := by kernel_rfl
@[go_sem] theorem QdH : (C.ti Q3).k = .int .i64 := by kernel_rfl
@[go_sem] theorem Qia : (C.ti Q3).isAgg = false := by kernel_rfl
@[go_sem] theorem Qhp : (C.ti Q3).isGood = true := by kernel_rfl
@[go_sem] theorem Qhr : (C.ti Q3).zero = [.int .i64 0] := by kernel_rfl
@[go_sem] theorem QiX : (C.ti QD).size = 1 := by kernel_rfl
@[go_sem] theorem Qfq : (C.ti QD).k = .slice 44 := by kernel_rfl
@[go_sem] theorem QjQ : (C.ti QD).isAgg = false := by kernel_rfl
@[go_sem] theorem QiW : (C.ti QD).isGood = true := by kernel_rfl
@[go_sem] theorem QiY : (C.ti QD).zero = [.nils] := by kernel_rfl
@[go_sem] theorem QkF : (C.ti Qm).size = 7 := by kernel_rfl
@[go_sem] theorem Qec : (C.ti Qm).k = .struct [(0, 41), (1, 3), (2, 9), (3, 3), (4, 42), (5, 32), (6, 22)] := by kernel_rfl
@[go_sem] theorem Qfm : (C.ti Qm).isAgg = true := by kernel_rfl
@[go_sem] theorem QkE : (C.ti Qm).isGood = true := by kernel_rfl
@[go_sem] theorem QkG : (C.ti Qm).zero = [.int .i64 0, .int .i64 0, .str [], .int .i64 0, .nils, .nils, .nils] := by kernel_rfl
@[go_sem] theorem QjD : (C.ti Ql).size = 12 := by kernel_rfl
@[go_sem] theorem Qgm : (C.ti Ql).k = .struct [(0, 40), (5, 44)] := by kernel_rfl
@[go_sem] theorem Q9u : (C.ti Ql).isAgg = true := by kernel_rfl
@[go_sem] theorem QjC : (C.ti Ql).isGood = true := by kernel_rfl
@[go_sem] theorem QjE : (C.ti Ql).zero = [.int .i64 0, .int .i64 0, .str [], .int .i64 0, .nils, .int .i64 0, .int .i64 0, .str [], .int .i64 0, .nils, .nils, .nils] := by kernel_rfl
@[go_sem] theorem QkI : (C.ti QX).size = 14 := by kernel_rfl
@[go_sem] theorem Qhs : (C.ti QX).k = .struct [(0, 9), (1, 3), (2, 46)] := by kernel_rfl
@[go_sem] theorem Qfn : (C.ti QX).isAgg = true := by kernel_rfl
@[go_sem] theorem QkH : (C.ti QX).isGood = true := by kernel_rfl
@[go_sem] theorem QkJ : (C.ti QX).zero = [.str [], .int .i64 0, .int .i64 0, .int .i64 0, .str [], .int .i64 0, .nils, .int .i64 0, .int .i64 0, .str [], .int .i64 0, .nils, .nils, .nils] := by kernel_rfl
@[go_sem] theorem Qj8 : (C.ti Zl).size = 1 := by kernel_rfl
@[go_sem] theorem QmY : (C.ti Zl).k = .slice 71 := by kernel_rfl
@[go_sem] theorem QjW : (C.ti Zl).isAgg = false := by kernel_rfl
@[go_sem] theorem Qj7 : (C.ti Zl).isGood = true := by kernel_rfl
@[go_sem] theorem Qj9 : (C.ti Zl).zero = [.nils] := by kernel_rfl
@[go_sem] theorem Qic : (C.ti QH).size = 1 := by kernel_rfl
@[go_sem] theorem QkL : (C.ti QH).k = .ptr := by kernel_rfl
@[go_sem] theorem QiN : (C.ti QH).isAgg = false := by kernel_rfl
@[go_sem] theorem Qib : (C.ti QH).isGood = true := by kernel_rfl
@[go_sem] theorem Qid : (C.ti QH).zero = [.nilp] := by kernel_rfl
@[go_sem] theorem QdE : (C.ti Qo).size = 1 := by kernel_rfl
@[go_sem] theorem QeJ : (C.ti Qo).k = .map 9 3 := by kernel_rfl
@[go_sem] theorem QdK : (C.ti Qo).isAgg = false := by kernel_rfl
@[go_sem] theorem QdD : (C.ti Qo).isGood = true := by kernel_rfl
@[go_sem] theorem QdF : (C.ti Qo).zero = [.nilm] := by kernel_rfl
@[go_sem] theorem QaJ : (C.ti Qn).size = 1 := by kernel_rfl
@[go_sem] theorem Qck : (C.ti Qn).k = .func := by kernel_rfl
@[go_sem] theorem Qbj : (C.ti Qn).isAgg = false := by kernel_rfl
@[go_sem] theorem QaI : (C.ti Qn).isGood = true := by kernel_rfl
@[go_sem] theorem QaK : (C.ti Qn).zero = [.nilf] := by kernel_rfl
@[go_sem] theorem Qcr : (C.ti QB).size = 1 := by kernel_rfl
@[go_sem] theorem Qee : (C.ti QB).k = .func := by kernel_rfl
@[go_sem] theorem QdC : (C.ti QB).isAgg = false := by kernel_rfl
@[go_sem] theorem Qcq : (C.ti QB).isGood = true := by kernel_rfl
@[go_sem] theorem Qcs : (C.ti QB).zero = [.nilf] := by kernel_rfl
@[go_sem] theorem Qk3 : (C.ti Q2P).size = 8 := by kernel_rfl
@[go_sem] theorem QnM : (C.ti Q2P).k = .struct [(0, 58), (1, 26), (4, 59), (5, 60), (6, 4), (7, 4)] := by kernel_rfl
@[go_sem] theorem QkV : (C.ti Q2P).isAgg = true := by kernel_rfl
@[go_sem] theorem Qk2 : (C.ti Q2P).isGood = true := by kernel_rfl
@[go_sem] theorem Qk4 : (C.ti Q2P).zero = [.nilm, .int .i64 0, .int .i64 0, .str [], .nilf, .nilf, .bool false, .bool false] := by kernel_rfl
@[go_sem] theorem Qim : (C.ti Qs).size = 1 := by kernel_rfl
@[go_sem] theorem QeF : (C.ti Qs).k = .int .i64 := by kernel_rfl
@[go_sem] theorem Qja : (C.ti Qs).isAgg = false := by kernel_rfl
@[go_sem] theorem Qil : (C.ti Qs).isGood = true := by kernel_rfl
@[go_sem] theorem Qin : (C.ti Qs).zero = [.int .i64 0] := by kernel_rfl
@[go_sem] theorem QjU : (C.ti Qk).size = 1 := by kernel_rfl
@[go_sem] theorem Q6v : (C.ti Qk).k = .slice 67 := by kernel_rfl
@[go_sem] theorem QkP : (C.ti Qk).isAgg = false := by kernel_rfl
@[go_sem] theorem QjT : (C.ti Qk).isGood = true := by kernel_rfl
@[go_sem] theorem QjV : (C.ti Qk).zero = [.nils] := by kernel_rfl
@[go_sem] theorem ZM : (C.ti Q4).size = 4 := by kernel_rfl
@[go_sem] theorem Qfu : (C.ti Q4).k = .struct [(0, 64), (1, 3), (2, 9), (3, 65)] := by kernel_rfl
@[go_sem] theorem Qco : (C.ti Q4).isAgg = true := by kernel_rfl
@[go_sem] theorem QmZ : (C.ti Q4).isGood = true := by kernel_rfl
@[go_sem] theorem Q9x : (C.ti Q4).bytes = 56 := by kernel_rfl
@[go_sem] theorem Qn0 : (C.ti Q4).zero = [.int .i64 0, .int .i64 0, .str [], .nils] := by kernel_rfl
@[go_sem] theorem Qij : (C.ti Q1a).size = 5 := by kernel_rfl
@[go_sem] theorem QkQ : (C.ti Q1a).k = .struct [(0, 3), (1, 67)] := by kernel_rfl
@[go_sem] theorem Qj6 : (C.ti Q1a).isAgg = true := by kernel_rfl
@[go_sem] theorem Qii : (C.ti Q1a).isGood = true := by kernel_rfl
@[go_sem] theorem Qik : (C.ti Q1a).zero = [.int .i64 0, .int .i64 0, .int .i64 0, .str [], .nils] := by kernel_rfl
@[go_sem] theorem Q2O : (C.ti Qd).size = 10 := by kernel_rfl
@[go_sem] theorem QmX : (C.ti Qd).k = .struct [(0, 9), (1, 9), (2, 3), (3, 3), (4, 4), (5, 69)] := by kernel_rfl
@[go_sem] theorem QdJ : (C.ti Qd).isAgg = true := by kernel_rfl
@[go_sem] theorem QiO : (C.ti Qd).isGood = true := by kernel_rfl
@[go_sem] theorem Q6W : (C.ti Qd).bytes = 120 := by kernel_rfl
@[go_sem] theorem Qcn : (C.ti Qd).zero = [.str [], .str [], .int .i64 0, .int .i64 0, .bool false, .int .i64 0, .int .i64 0, .int .i64 0, .str [], .nils] := by kernel_rfl
@[go_sem] theorem Qfj : (C.ti Q0a).size = 1 := by kernel_rfl
@[go_sem] theorem Qgn : (C.ti Q0a).k = .slice 111 := by kernel_rfl
@[go_sem] theorem Qft : (C.ti Q0a).isAgg = false := by kernel_rfl
@[go_sem] theorem Qfi : (C.ti Q0a).isGood = true := by kernel_rfl
@[go_sem] theorem Qfk : (C.ti Q0a).zero = [.nils] := by kernel_rfl
@[go_sem] theorem QkA : (C.ti Zo).size = 7 := by kernel_rfl
@[go_sem] theorem Qhl : (C.ti Zo).k = .struct [(0, 9), (1, 3), (2, 4), (3, 67)] := by kernel_rfl
@[go_sem] theorem Qfl : (C.ti Zo).isAgg = true := by kernel_rfl
@[go_sem] theorem Qkz : (C.ti Zo).isGood = true := by kernel_rfl
@[go_sem] theorem QkB : (C.ti Zo).zero = [.str [], .int .i64 0, .bool false, .int .i64 0, .int .i64 0, .str [], .nils] := by kernel_rfl
@[go_sem] theorem Qhg : (C.ti Q1O).size = 1 := by kernel_rfl
@[go_sem] theorem Qjj : (C.ti Q1O).k = .slice 1 := by kernel_rfl
@[go_sem] theorem Qhy : (C.ti Q1O).isAgg = false := by kernel_rfl
@[go_sem] theorem Qhf : (C.ti Q1O).isGood = true := by kernel_rfl
@[go_sem] theorem Qhh : (C.ti Q1O).zero = [.nils] := by kernel_rfl
@[go_sem] theorem Q42 : (C.ti Qb).size = 47 := by kernel_rfl
@[go_sem] theorem Qhx : (C.ti Qb).k = .struct [(0, 3), (1, 4), (2, 3), (3, 35), (10, 44), (17, 40), (22, 67), (26, 48), (40, 99)] := by kernel_rfl
@[go_sem] theorem Qgp : (C.ti Qb).isAgg = true := by kernel_rfl
@[go_sem] theorem Qgk : (C.ti Qb).isGood = true := by kernel_rfl
@[go_sem] theorem Q7v : (C.ti Qb).bytes = 656 := by kernel_rfl
@[go_sem] theorem Qgl : (C.ti Qb).zero = [.int .i64 0, .bool false, .int .i64 0, .int .i64 0, .int .i64 0, .str [], .int .i64 0, .nils, .nils, .nils, .int .i64 0, .int .i64 0, .str [], .int .i64 0, .nils, .nils, .nils, .int .i64 0, .int .i64 0, .str [], .int .i64 0, .nils, .int .i64 0, .int .i64 0, .str [], .nils, .str [], .int .i64 0, .int .i64 0, .int .i64 0, .str [], .int .i64 0, .nils, .int .i64 0, .int .i64 0, .str [], .int .i64 0, .nils, .nils, .nils, .str [], .int .i64 0, .bool false, .int .i64 0, .int .i64 0, .str [], .nils] := by kernel_rfl
@[go_sem] theorem QiC : (C.ti Q1o).size = 1 := by kernel_rfl
@[go_sem] theorem QmT : (C.ti Q1o).k = .ptr := by kernel_rfl
@[go_sem] theorem QjH : (C.ti Q1o).isAgg = false := by kernel_rfl
@[go_sem] theorem QiB : (C.ti Q1o).isGood = true := by kernel_rfl
@[go_sem] theorem QiD : (C.ti Q1o).zero = [.nilp] := by kernel_rfl
@[go_sem] theorem QiI : (C.ti Q0M).size = 1 := by kernel_rfl
@[go_sem] theorem QmV : (C.ti Q0M).k = .ptr := by kernel_rfl
@[go_sem] theorem QjJ : (C.ti Q0M).isAgg = false := by kernel_rfl
@[go_sem] theorem QiH : (C.ti Q0M).isGood = true := by kernel_rfl
@[go_sem] theorem QiJ : (C.ti Q0M).zero = [.nilp] := by kernel_rfl
@[go_sem] theorem Qiz : (C.ti Q0m).size = 1 := by kernel_rfl
@[go_sem] theorem QmS : (C.ti Q0m).k = .ptr := by kernel_rfl
@[go_sem] theorem QjG : (C.ti Q0m).isAgg = false := by kernel_rfl
@[go_sem] theorem Qiy : (C.ti Q0m).isGood = true := by kernel_rfl
@[go_sem] theorem QiA : (C.ti Q0m).zero = [.nilp] := by kernel_rfl
@[go_sem] theorem QiF : (C.ti Q1p).size = 1 := by kernel_rfl
@[go_sem] theorem QmU : (C.ti Q1p).k = .ptr := by kernel_rfl
@[go_sem] theorem QjI : (C.ti Q1p).isAgg = false := by kernel_rfl
@[go_sem] theorem QiE : (C.ti Q1p).isGood = true := by kernel_rfl
@[go_sem] theorem QiG : (C.ti Q1p).zero = [.nilp] := by kernel_rfl
@[go_sem] theorem QiL : (C.ti Q09).size = 1 := by kernel_rfl
@[go_sem] theorem QmW : (C.ti Q09).k = .ptr := by kernel_rfl
@[go_sem] theorem QjK : (C.ti Q09).isAgg = false := by kernel_rfl
@[go_sem] theorem QiK : (C.ti Q09).isGood = true := by kernel_rfl
@[go_sem] theorem QiM : (C.ti Q09).zero = [.nilp] := by kernel_rfl
@[go_sem] theorem QjM : (C.ti Q3O).size = 1 := by kernel_rfl
@[go_sem] theorem QnL : (C.ti Q3O).k = .ptr := by kernel_rfl
@[go_sem] theorem QkK : (C.ti Q3O).isAgg = false := by kernel_rfl
@[go_sem] theorem QjL : (C.ti Q3O).isGood = true := by kernel_rfl
@[go_sem] theorem QjN : (C.ti Q3O).zero = [.nilp] := by kernel_rfl
@[go_sem] theorem Qjd : (C.ti QI).size = 8 := by kernel_rfl
@[go_sem] theorem Qn2 : (C.ti QI).k = .struct [(0, 114), (1, 4), (2, 115), (3, 116), (4, 117), (5, 118), (6, 119), (7, 3)] := by kernel_rfl
@[go_sem] theorem Qk0 : (C.ti QI).isAgg = true := by kernel_rfl
@[go_sem] theorem Qjc : (C.ti QI).isGood = true := by kernel_rfl
@[go_sem] theorem Qje : (C.ti QI).zero = [.nilp, .bool false, .nilp, .nilp, .nilp, .nilp, .nilp, .int .i64 0] := by kernel_rfl
@[go_sem] theorem QaE : (C.ti Qf).size = 1 := by kernel_rfl
@[go_sem] theorem QbV : (C.ti Qf).k = .func := by kernel_rfl
@[go_sem] theorem QaL : (C.ti Qf).isAgg = false := by kernel_rfl
@[go_sem] theorem QaD : (C.ti Qf).isGood = true := by kernel_rfl
@[go_sem] theorem QaF : (C.ti Qf).zero = [.nilf] := by kernel_rfl
@[go_sem] theorem Qir : (C.ti Qt).size = 1 := by kernel_rfl
@[go_sem] theorem QkW : (C.ti Qt).k = .struct [(0, 123)] := by kernel_rfl
@[go_sem] theorem Qji : (C.ti Qt).isAgg = true := by kernel_rfl
@[go_sem] theorem Qiq : (C.ti Qt).isGood = true := by kernel_rfl
@[go_sem] theorem Qis : (C.ti Qt).zero = [.nilf] := by kernel_rfl
@[go_sem] theorem Q7s : (C.ti Qh).size = 1 := by kernel_rfl
@[go_sem] theorem Q8o : (C.ti Qh).k = .func := by kernel_rfl
@[go_sem] theorem Q7w : (C.ti Qh).isAgg = false := by kernel_rfl
@[go_sem] theorem Q7r : (C.ti Qh).isGood = true := by kernel_rfl
@[go_sem] theorem Q7t : (C.ti Qh).zero = [.nilf] := by kernel_rfl
@[go_sem] theorem QkT : (C.ti Q0).size = 6 := by kernel_rfl
@[go_sem] theorem Qp8 : (C.ti Q0).k = .struct [(0, 4), (1, 4), (2, 4), (3, 4), (4, 3), (5, 3)] := by kernel_rfl
@[go_sem] theorem Qn1 : (C.ti Q0).isAgg = true := by kernel_rfl
@[go_sem] theorem QkS : (C.ti Q0).isGood = true := by kernel_rfl
@[go_sem] theorem QkU : (C.ti Q0).zero = [.bool false, .bool false, .bool false, .bool false, .int .i64 0, .int .i64 0] := by kernel_rfl
noncomputable def gC (T : Nat) (k : Nat) (c : List Slot) (K : Slot → Res) : Res := bind1 (ofSlots (C.ti T) (List.take (C.ti T).size (List.drop k c))) K
@[go_sem] theorem Qq2 (T : Nat) (k : Nat) (c : List Slot) (K : Slot → Res) : gC T k c K = bind1 (ofSlots (C.ti T) (List.take (C.ti T).size (List.drop k c))) K := id rfl
@[congr] theorem Qor {T : Nat} {k : Nat} {c c' : List Slot} {K : Slot → Res} (h0 : c = c') : gC T k c K = gC T k c' K := by rw [h0]
noncomputable def gA (T : Nat) (c : List Slot) (K : Slot → Res) : Res := bind1 (ofSlots (C.ti T) (List.take (C.ti T).size c)) K
@[go_sem] theorem Qq0 (T : Nat) (c : List Slot) (K : Slot → Res) : gA T c K = bind1 (ofSlots (C.ti T) (List.take (C.ti T).size c)) K := id rfl
@[congr] theorem Qop {T : Nat} {c c' : List Slot} {K : Slot → Res} (h0 : c = c') : gA T c K = gA T c' K := by rw [h0]
noncomputable def bx (T : Nat) (v : Slot) (K : List Slot → Res) : Res := bindL (boxCells (C.ti T) v) K
@[go_sem] theorem QpU (T : Nat) (v : Slot) (K : List Slot → Res) : bx T v K = bindL (boxCells (C.ti T) v) K := id rfl
@[congr] theorem Qo8 {T : Nat} {v v' : Slot} {K : List Slot → Res} (h0 : v = v') : bx T v K = bx T v' K := by rw [h0]
noncomputable def pZ (T : Nat) (c : List Slot) (K : List Slot → Res) : Res := bindL (putAt (List.map .val (C.ti T).zero) 0 c) K
@[go_sem] theorem Qqm (T : Nat) (c : List Slot) (K : List Slot → Res) : pZ T c K = bindL (putAt (List.map .val (C.ti T).zero) 0 c) K := id rfl
@[congr] theorem Qp2 {T : Nat} {c c' : List Slot} {K : List Slot → Res} (h0 : c = c') : pZ T c K = pZ T c' K := by rw [h0]
noncomputable def bn (T : Nat) (op : BinOp) (x : Slot) (y : Slot) (K : Slot → Res) : Res := bind1 (binS (C.ti T) op x y) K
@[go_sem] theorem Qhi (T : Nat) (op : BinOp) (x : Slot) (y : Slot) (K : Slot → Res) : bn T op x y K = bind1 (binS (C.ti T) op x y) K := id rfl
@[congr] theorem Qo4 {T : Nat} {op : BinOp} {x x' : Slot} {y y' : Slot} {K : Slot → Res} (h0 : x = x') (h1 : y = y') : bn T op x y K = bn T op x' y' K := by rw [h0, h1]
noncomputable def ix (T : Nat) (x : Slot) (i : Slot) (K : Slot → Res) : Res := bind1 (ixS (C.ti T).size x i) K
@[go_sem] theorem Qqh (T : Nat) (x : Slot) (i : Slot) (K : Slot → Res) : ix T x i K = bind1 (ixS (C.ti T).size x i) K := id rfl
@[congr] theorem QoL {T : Nat} {x x' : Slot} {i i' : Slot} {K : Slot → Res} (h0 : x = x') (h1 : i = i') : ix T x i K = ix T x' i' K := by rw [h0, h1]
noncomputable def ld (T : Nat) (s : St) (a : Slot) (K : Slot → Res) : Res := bind1 (ldV (C.ti T) false s a) K
@[go_sem] theorem Qqi (T : Nat) (s : St) (a : Slot) (K : Slot → Res) : ld T s a K = bind1 (ldV (C.ti T) false s a) K := id rfl
@[congr] theorem QoM {T : Nat} {s s' : St} {a a' : Slot} {K : Slot → Res} (h0 : s = s') (h1 : a = a') : ld T s a K = ld T s' a' K := by rw [h0, h1]
noncomputable def ln (T : Nat) (x : Slot) (K : Slot → Res) : Res := bind1 (lenS (C.ti T) x) K
@[go_sem] theorem Qhj (T : Nat) (x : Slot) (K : Slot → Res) : ln T x K = bind1 (lenS (C.ti T) x) K := id rfl
@[congr] theorem QoP {T : Nat} {x x' : Slot} {K : Slot → Res} (h0 : x = x') : ln T x K = ln T x' K := by rw [h0]
noncomputable def ca (f : Nat) (l : List Slot) (s : St) (K : Slot → St → Res) : Res := back (cal cw true (tgtV (.val (.fn f [])) l) s) K
@[go_sem] theorem QpV (f : Nat) (l : List Slot) (s : St) (K : Slot → St → Res) : ca f l s K = back (cal cw true (tgtV (.val (.fn f [])) l) s) K := id rfl
@[congr] theorem Qo9 {f : Nat} {l l' : List Slot} {s s' : St} {K : Slot → St → Res} (h0 : l = l') (h1 : s = s') : ca f l s K = ca f l' s' K := by rw [h0, h1]
noncomputable def cn (f : Nat) (l : List Slot) (s : St) (K : Slot → St → Res) : Res := back (noPan (cal cw true (tgtV (.val (.fn f [])) l) s)) K
@[go_sem] theorem QpX (f : Nat) (l : List Slot) (s : St) (K : Slot → St → Res) : cn f l s K = back (noPan (cal cw true (tgtV (.val (.fn f [])) l) s)) K := id rfl
@[congr] theorem Qog {f : Nat} {l l' : List Slot} {s s' : St} {K : Slot → St → Res} (h0 : l = l') (h1 : s = s') : cn f l s K = cn f l' s' K := by rw [h0, h1]
noncomputable def cg (w : Bool) (f : Nat) (l : List Slot) (s : St) (K : Slot → St → Res) : Res := back (cal cw w (tgtV (.val (.fn f [])) l) s) K
@[go_sem] theorem QpW (w : Bool) (f : Nat) (l : List Slot) (s : St) (K : Slot → St → Res) : cg w f l s K = back (cal cw w (tgtV (.val (.fn f [])) l) s) K := id rfl
@[congr] theorem Qof {f : Nat} {w w' : Bool} {l l' : List Slot} {s s' : St} {K : Slot → St → Res} (h0 : w = w') (h1 : l = l') (h2 : s = s') : cg w f l s K = cg w' f l' s' K := by rw [h0, h1, h2]
noncomputable def iT (v : Slot) (K : Bool → Res) : Res := bindB (Slot.isB v true) K
@[go_sem] theorem Qqd (v : Slot) (K : Bool → Res) : iT v K = bindB (Slot.isB v true) K := id rfl
@[congr] theorem QoE  {v v' : Slot} {K : Bool → Res} (h0 : v = v') : iT v K = iT v' K := by rw [h0]
noncomputable def iF (v : Slot) (K : Bool → Res) : Res := bindB (Slot.isB v false) K
@[go_sem] theorem Qqc (v : Slot) (K : Bool → Res) : iF v K = bindB (Slot.isB v false) K := id rfl
@[congr] theorem QoD  {v v' : Slot} {K : Bool → Res} (h0 : v = v') : iF v K = iF v' K := by rw [h0]
noncomputable def gG (w : Bool) (b : Bool) (T : Nat) (k : Nat) (c : List Slot) (K : Slot → Res) : Res := bind1 (gd w (bif b then (ofSlots (C.ti T) (List.take (C.ti T).size (List.drop k c))) else none)) K
@[go_sem] theorem Qq3 (w : Bool) (b : Bool) (T : Nat) (k : Nat) (c : List Slot) (K : Slot → Res) : gG w b T k c K = bind1 (gd w (bif b then (ofSlots (C.ti T) (List.take (C.ti T).size (List.drop k c))) else none)) K := id rfl
@[congr] theorem Qos {b : Bool} {T : Nat} {k : Nat} {c : List Slot} {w w' : Bool} {K : Slot → Res} (h0 : w = w') : gG w b T k c K = gG w' b T k c K := by rw [h0]
noncomputable def gB (w : Bool) (T : Nat) (op : BinOp) (x : Slot) (y : Slot) (K : Slot → Res) : Res := bind1 (gd w (binS (C.ti T) op x y)) K
@[go_sem] theorem Qq1 (w : Bool) (T : Nat) (op : BinOp) (x : Slot) (y : Slot) (K : Slot → Res) : gB w T op x y K = bind1 (gd w (binS (C.ti T) op x y)) K := id rfl
@[congr] theorem Qoq {T : Nat} {op : BinOp} {x : Slot} {y : Slot} {w w' : Bool} {K : Slot → Res} (h0 : w = w') : gB w T op x y K = gB w' T op x y K := by rw [h0]
noncomputable def gN (w : Bool) (x : Slot) (K : Slot → Res) : Res := bind1 (gd w (unS .not x)) K
@[go_sem] theorem Qq5 (w : Bool) (x : Slot) (K : Slot → Res) : gN w x K = bind1 (gd w (unS .not x)) K := id rfl
@[congr] theorem Qou {x : Slot} {w w' : Bool} {K : Slot → Res} (h0 : w = w') : gN w x K = gN w' x K := by rw [h0]
noncomputable def gL (w : Bool) (T : Nat) (x : Slot) (K : Slot → Res) : Res := bind1 (gd w (lenS (C.ti T) x)) K
@[go_sem] theorem Qq4 (w : Bool) (T : Nat) (x : Slot) (K : Slot → Res) : gL w T x K = bind1 (gd w (lenS (C.ti T) x)) K := id rfl
@[congr] theorem Qot {T : Nat} {x : Slot} {w w' : Bool} {K : Slot → Res} (h0 : w = w') : gL w T x K = gL w' T x K := by rw [h0]
noncomputable def nt (x : Slot) (K : Slot → Res) : Res := bind1 (unS .not x) K
@[go_sem] theorem Qqk (x : Slot) (K : Slot → Res) : nt x K = bind1 (unS .not x) K := id rfl
@[congr] theorem QoT  {x x' : Slot} {K : Slot → Res} (h0 : x = x') : nt x K = nt x' K := by rw [h0]
noncomputable def pk (a : Slot) (b : Slot) (c : Slot) (K : Slot → Res) : Res := bind1 (pickS a b c) K
@[go_sem] theorem Qqn (a : Slot) (b : Slot) (c : Slot) (K : Slot → Res) : pk a b c K = bind1 (pickS a b c) K := id rfl
@[congr] theorem Qp3  {a a' : Slot} {b b' : Slot} {c c' : Slot} {K : Slot → Res} (h0 : a = a') (h1 : b = b') (h2 : c = c') : pk a b c K = pk a' b' c' K := by rw [h0, h1, h2]
noncomputable def ex (a : Slot) (i : Nat) (K : Slot → Res) : Res := bind1 (extractS a i) K
@[go_sem] theorem QpY (a : Slot) (i : Nat) (K : Slot → Res) : ex a i K = bind1 (extractS a i) K := id rfl
@[congr] theorem Qoj {i : Nat} {a a' : Slot} {K : Slot → Res} (h0 : a = a') : ex a i K = ex a' i K := by rw [h0]
noncomputable def fa (i : Nat) (a : Slot) (K : Slot → Res) : Res := bind1 (faV i a) K
@[go_sem] theorem QpZ (i : Nat) (a : Slot) (K : Slot → Res) : fa i a K = bind1 (faV i a) K := id rfl
@[congr] theorem Qon {i : Nat} {a a' : Slot} {K : Slot → Res} (h0 : a = a') : fa i a K = fa i a' K := by rw [h0]
noncomputable def pt (c : List Slot) (i : Nat) (d : List Slot) (K : List Slot → Res) : Res := bindL (putAt c i d) K
@[go_sem] theorem Qqo (c : List Slot) (i : Nat) (d : List Slot) (K : List Slot → Res) : pt c i d K = bindL (putAt c i d) K := id rfl
@[congr] theorem Qp4 {i : Nat} {c c' : List Slot} {d d' : List Slot} {K : List Slot → Res} (h0 : c = c') (h1 : d = d') : pt c i d K = pt c' i d' K := by rw [h0, h1]
noncomputable def bs (T : Nat) (l : List Slot) (K : Slot → Res) : Res := bind1 (bslF (C.ti T).size l) K
@[go_sem] theorem QpS (T : Nat) (l : List Slot) (K : Slot → Res) : bs T l K = bind1 (bslF (C.ti T).size l) K := id rfl
@[congr] theorem Qo5 {T : Nat} {l l' : List Slot} {K : Slot → Res} (h0 : l = l') : bs T l K = bs T l' K := by rw [h0]
noncomputable def ap (T : Nat) (s : St) (x : Slot) (y : Slot) (K : Slot → St → Res) : Res := bind2 (appendS T (C.ti T) s x y) K
@[go_sem] theorem QpQ (T : Nat) (s : St) (x : Slot) (y : Slot) (K : Slot → St → Res) : ap T s x y K = bind2 (appendS T (C.ti T) s x y) K := id rfl
@[congr] theorem QnN {T : Nat} {s s' : St} {x x' : Slot} {y y' : Slot} {K : Slot → St → Res} (h0 : s = s') (h1 : x = x') (h2 : y = y') : ap T s x y K = ap T s' x' y' K := by rw [h0, h1, h2]
noncomputable def sto (s : St) (a : Slot) (c : List Slot) (K : St → Res) : Res := bindS (stV s a c) K
@[go_sem] theorem QpN (s : St) (a : Slot) (c : List Slot) (K : St → Res) : sto s a c K = bindS (stV s a c) K := id rfl
@[congr] theorem QnJ  {s s' : St} {a a' : Slot} {c c' : List Slot} {K : St → Res} (h0 : s = s') (h1 : a = a') (h2 : c = c') : sto s a c K = sto s' a' c' K := by rw [h0, h1, h2]
noncomputable def upd2 (A : Nat) (B : Nat) (s : St) (a : Slot) (b : Slot) (c : Slot) (K : Slot → St → Res) : Res := bind2 (updateS (C.ti A) (C.ti B) s a b c) K
@[go_sem] theorem Qpw (A : Nat) (B : Nat) (s : St) (a : Slot) (b : Slot) (c : Slot) (K : Slot → St → Res) : upd2 A B s a b c K = bind2 (updateS (C.ti A) (C.ti B) s a b c) K := id rfl
@[congr] theorem QmO {A : Nat} {B : Nat} {s s' : St} {a a' : Slot} {b b' : Slot} {c c' : Slot} {K : Slot → St → Res} (h0 : s = s') (h1 : a = a') (h2 : b = b') (h3 : c = c') : upd2 A B s a b c K = upd2 A B s' a' b' c' K := by rw [h0, h1, h2, h3]
noncomputable def lk (A : Nat) (B : Nat) (s : St) (a : Slot) (b : Slot) (q : Bool) (K : Slot → Res) : Res := bind1 (lookupS (C.ti A) (C.ti B) s a b q) K
@[go_sem] theorem Qqj (A : Nat) (B : Nat) (s : St) (a : Slot) (b : Slot) (q : Bool) (K : Slot → Res) : lk A B s a b q K = bind1 (lookupS (C.ti A) (C.ti B) s a b q) K := id rfl
@[congr] theorem QoO {A : Nat} {B : Nat} {q : Bool} {s s' : St} {a a' : Slot} {b b' : Slot} {K : Slot → Res} (h0 : s = s') (h1 : a = a') (h2 : b = b') : lk A B s a b q K = lk A B s' a' b' q K := by rw [h0, h1, h2]
noncomputable def bdL : List (Nat × Nat × Slot) → List (Nat × Nat × Slot)
 | [] => []
 | p :: r => (p.1, (C.ti p.2.1).size, p.2.2) :: bdL r
@[go_sem] theorem Qpd : bdL [] = [] := id rfl
@[go_sem] theorem QnS (a b : Nat) (v : Slot) (r : List (Nat × Nat × Slot)) : bdL ((a, b, v) :: r) = (a, (C.ti b).size, v) :: bdL r := id rfl
noncomputable def bd (T : Nat) (l : List (Nat × Nat × Slot)) (K : Slot → Res) : Res := bind1 (buildS (C.ti T).zero (bdL l)) K
@[go_sem] theorem QpR (T : Nat) (l : List (Nat × Nat × Slot)) (K : Slot → Res) : bd T l K = bind1 (buildS (C.ti T).zero (bdL l)) K := id rfl
@[congr] theorem QnT {T : Nat} {l l' : List (Nat × Nat × Slot)} {K : Slot → Res} (h0 : l = l') : bd T l K = bd T l' K := by rw [h0]
noncomputable def rt (l : List (Option Slot)) (s : St) : Res := bind1 (tupS l) fun v => some (.ret v, s)
@[go_sem] theorem Qqp (l : List (Option Slot)) (s : St) : rt l s = bind1 (tupS l) fun v => some (.ret v, s) := id rfl
@[reducible] def iv (n : Int) : Slot := .val (.int .i64 n)
@[go_sem] theorem Qqg (n : Int) : iv n = .val (.int .i64 n) := id rfl
@[reducible] def bv (b : Bool) : Slot := .val (.bool b)
@[go_sem] theorem QpT (b : Bool) : bv b = .val (.bool b) := id rfl
@[reducible] def sv (l : List UInt8) : Slot := .val (.str l)
@[go_sem] theorem Qqq (l : List UInt8) : sv l = .val (.str l) := id rfl
noncomputable def nx (x : Slot) (K : Slot → Res) : Res := bind1 (binS (C.ti Q1) .add x (.val (.int .i64 1))) K
@[go_sem] theorem Qql (x : Slot) (K : Slot → Res) : nx x K = bind1 (binS (C.ti Q1) .add x (.val (.int .i64 1))) K := id rfl
@[congr] theorem QoU  {x x' : Slot} {K : Slot → Res} (h0 : x = x') : nx x K = nx x' K := by rw [h0]
@[reducible] noncomputable def lpD (f : FuncId) (p : List Step) (fn : Func) (e : Env) (s : St) : Res := loopR C false f p (body fn) e s (ctxR C false f p (body fn) (outK C fn.results.toList))
@[reducible] noncomputable def pwD (f : FuncId) (p : List Step) (fn : Func) (e : Env) (s : St) : Res := pw (run C false f (codeAt p (body fn)) e s (ctxR C false f p (body fn) (outK C fn.results.toList)))
end Go.Proofs.Ytinphnakebeloaa