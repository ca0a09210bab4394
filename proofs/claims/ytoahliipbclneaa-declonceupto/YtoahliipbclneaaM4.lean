/- A part of the proof: G1. -/
import Derived.Test.YtoahliipbclneaaM3
import Derived.KernelRfl
import Derived.Test.YtoahliipbclneaaProg
set_option linter.unusedVariables false
set_option linter.unusedSimpArgs false
namespace Go.Proofs.Ytoahliipbclneaa
open Go Go.Am
set_option linter.unusedVariables false
def tF : TI := { k := .func, size := 1, bytes := 8, zero := [.nilf] }
def tP : TI := { k := .ptr, size := 1, bytes := 8, zero := [.nilp] }
def tS (e : Nat) : TI := { k := .slice e, size := 1, bytes := 24, zero := [.nils] }
noncomputable def tis : List TI := [{}, tF, { k := .int .i64, size := 1, bytes := 8, zero := [.int .i64 0] }, { k := .int .i64, size := 1, bytes := 8, zero := [.int .i64 0] }, { k := .bool, size := 1, bytes := 1, zero := [.bool false] }, { k := .int .u8, size := 1, bytes := 1, zero := [.int .u8 0] }, { k := .int .u8, size := 1, bytes := 1, zero := [.int .u8 0] }, { k := .struct [(0, 2), (1, 3), (2, 4), (3, 6)], size := 4, bytes := 24, zero := [.int .i64 0, .int .i64 0, .bool false, .int .u8 0] }, { k := .struct [(0, 2), (1, 3), (2, 4), (3, 6)], size := 4, bytes := 24, zero := [.int .i64 0, .int .i64 0, .bool false, .int .u8 0] }, { k := .str, size := 1, bytes := 16, zero := [.str []] }, { k := .str, size := 1, bytes := 16, zero := [.str []] }, { k := .str, size := 1, bytes := 16, zero := [.str []] }, { k := .int .u64, size := 1, bytes := 8, zero := [.int .u64 0] }, { k := .struct [(0, 9), (1, 12)], size := 2, bytes := 24, zero := [.str [], .int .u64 0] }, { k := .struct [(0, 9), (1, 12)], size := 2, bytes := 24, zero := [.str [], .int .u64 0] }, tP, tP, tP, { k := .struct [(0, 17)], size := 1, bytes := 8, zero := [.nilp] }, { k := .struct [(0, 17)], size := 1, bytes := 8, zero := [.nilp] }, { k := .iface, size := 1, bytes := 16, zero := [.nili] }, { k := .int .i32, size := 1, bytes := 4, zero := [.int .i32 0] }, tS 34, tS 34, tF, tF, { k := .int .u64, size := 1, bytes := 8, zero := [.int .u64 0] }, { k := .int .i64, size := 1, bytes := 8, zero := [.int .i64 0] }, tS 30, { k := .struct [(0, 27), (1, 3), (2, 9), (3, 28)], size := 4, bytes := 56, zero := [.int .i64 0, .int .i64 0, .str [], .nils] }, { k := .struct [(0, 27), (1, 3), (2, 9), (3, 28)], size := 4, bytes := 56, zero := [.int .i64 0, .int .i64 0, .str [], .nils] }, { k := .struct [(0, 3), (1, 30)], size := 5, bytes := 64, zero := [.int .i64 0, .int .i64 0, .int .i64 0, .str [], .nils] }, { k := .struct [(0, 3), (1, 30)], size := 5, bytes := 64, zero := [.int .i64 0, .int .i64 0, .int .i64 0, .str [], .nils] }, { k := .struct [(0, 9), (1, 9), (2, 3), (3, 3), (4, 4), (5, 32)], size := 10, bytes := 120, zero := [.str [], .str [], .int .i64 0, .int .i64 0, .bool false, .int .i64 0, .int .i64 0, .int .i64 0, .str [], .nils] }, { k := .struct [(0, 9), (1, 9), (2, 3), (3, 3), (4, 4), (5, 32)], size := 10, bytes := 120, zero := [.str [], .str [], .int .i64 0, .int .i64 0, .bool false, .int .i64 0, .int .i64 0, .int .i64 0, .str [], .nils] }, {}, tF, tF, tF, tF, tF, tF, tF, tS 3, tF, tF, tS 9, tF, tF, tF, tS 59, { k := .int .i64, size := 1, bytes := 8, zero := [.int .i64 0] }, { k := .struct [(0, 9), (1, 3), (2, 4), (3, 30)], size := 7, bytes := 88, zero := [.str [], .int .i64 0, .bool false, .int .i64 0, .int .i64 0, .str [], .nils] }, { k := .struct [(0, 9), (1, 3), (2, 4), (3, 30)], size := 7, bytes := 88, zero := [.str [], .int .i64 0, .bool false, .int .i64 0, .int .i64 0, .str [], .nils] }, tF, tS 53, tS 79, tS 81, { k := .struct [(0, 51), (1, 3), (2, 9), (3, 3), (4, 55), (5, 56), (6, 57)], size := 7, bytes := 112, zero := [.int .i64 0, .int .i64 0, .str [], .int .i64 0, .nils, .nils, .nils] }, { k := .struct [(0, 51), (1, 3), (2, 9), (3, 3), (4, 55), (5, 56), (6, 57)], size := 7, bytes := 112, zero := [.int .i64 0, .int .i64 0, .str [], .int .i64 0, .nils, .nils, .nils] }, { k := .int .i64, size := 1, bytes := 8, zero := [.int .i64 0] }, { k := .struct [(0, 60), (1, 3), (2, 9)], size := 3, bytes := 32, zero := [.int .i64 0, .int .i64 0, .str []] }, { k := .struct [(0, 60), (1, 3), (2, 9)], size := 3, bytes := 32, zero := [.int .i64 0, .int .i64 0, .str []], flat := [.int .i64, .int .i64, .str] }, tF, {}, tF, tF, tF, tS 83, tF, { k := .int .i64, size := 1, bytes := 8, zero := [.int .i64 0] }, tS 73, { k := .struct [(0, 70), (1, 3), (2, 9), (3, 3), (4, 71), (5, 56), (6, 50)], size := 7, bytes := 112, zero := [.int .i64 0, .int .i64 0, .str [], .int .i64 0, .nils, .nils, .nils] }, { k := .struct [(0, 70), (1, 3), (2, 9), (3, 3), (4, 71), (5, 56), (6, 50)], size := 7, bytes := 112, zero := [.int .i64 0, .int .i64 0, .str [], .int .i64 0, .nils, .nils, .nils] }, { k := .int .i64, size := 1, bytes := 8, zero := [.int .i64 0] }, tS 77, { k := .struct [(0, 74), (1, 3), (2, 9), (3, 3), (4, 75)], size := 5, bytes := 64, zero := [.int .i64 0, .int .i64 0, .str [], .int .i64 0, .nils] }, { k := .struct [(0, 74), (1, 3), (2, 9), (3, 3), (4, 75)], size := 5, bytes := 64, zero := [.int .i64 0, .int .i64 0, .str [], .int .i64 0, .nils] }, { k := .struct [(0, 77), (5, 73)], size := 12, bytes := 176, zero := [.int .i64 0, .int .i64 0, .str [], .int .i64 0, .nils, .int .i64 0, .int .i64 0, .str [], .int .i64 0, .nils, .nils, .nils] }, { k := .struct [(0, 77), (5, 73)], size := 12, bytes := 176, zero := [.int .i64 0, .int .i64 0, .str [], .int .i64 0, .nils, .int .i64 0, .int .i64 0, .str [], .int .i64 0, .nils, .nils, .nils] }, { k := .struct [(0, 9), (1, 3), (2, 79)], size := 14, bytes := 200, zero := [.str [], .int .i64 0, .int .i64 0, .int .i64 0, .str [], .int .i64 0, .nils, .int .i64 0, .int .i64 0, .str [], .int .i64 0, .nils, .nils, .nils] }, { k := .struct [(0, 9), (1, 3), (2, 79)], size := 14, bytes := 200, zero := [.str [], .int .i64 0, .int .i64 0, .int .i64 0, .str [], .int .i64 0, .nils, .int .i64 0, .int .i64 0, .str [], .int .i64 0, .nils, .nils, .nils] }, { k := .struct [(0, 3), (1, 4), (2, 3), (3, 59), (10, 73), (17, 77), (22, 30), (26, 81), (40, 53)], size := 47, bytes := 656, zero := [.int .i64 0, .bool false, .int .i64 0, .int .i64 0, .int .i64 0, .str [], .int .i64 0, .nils, .nils, .nils, .int .i64 0, .int .i64 0, .str [], .int .i64 0, .nils, .nils, .nils, .int .i64 0, .int .i64 0, .str [], .int .i64 0, .nils, .int .i64 0, .int .i64 0, .str [], .nils, .str [], .int .i64 0, .int .i64 0, .int .i64 0, .str [], .int .i64 0, .nils, .int .i64 0, .int .i64 0, .str [], .int .i64 0, .nils, .nils, .nils, .str [], .int .i64 0, .bool false, .int .i64 0, .int .i64 0, .str [], .nils] }, { k := .struct [(0, 3), (1, 4), (2, 3), (3, 59), (10, 73), (17, 77), (22, 30), (26, 81), (40, 53)], size := 47, bytes := 656, zero := [.int .i64 0, .bool false, .int .i64 0, .int .i64 0, .int .i64 0, .str [], .int .i64 0, .nils, .nils, .nils, .int .i64 0, .int .i64 0, .str [], .int .i64 0, .nils, .nils, .nils, .int .i64 0, .int .i64 0, .str [], .int .i64 0, .nils, .int .i64 0, .int .i64 0, .str [], .nils, .str [], .int .i64 0, .int .i64 0, .int .i64 0, .str [], .int .i64 0, .nils, .int .i64 0, .int .i64 0, .str [], .int .i64 0, .nils, .nils, .nils, .str [], .int .i64 0, .bool false, .int .i64 0, .int .i64 0, .str [], .nils] }, tF, tF, tF, tF, tF, tF, tF, tF, tF, tF, { k := .map 9 3, size := 1, bytes := 8, zero := [.nilm] }, tF, {}, {}, tF, {}, tF, tF, tF, tF, {}, tF, tF, tP, tP, tP, tP, tP, tP, { k := .struct [(0, 107), (1, 4), (2, 108), (3, 109), (4, 110), (5, 111), (6, 112), (7, 3)], size := 8, bytes := 64, zero := [.nilp, .bool false, .nilp, .nilp, .nilp, .nilp, .nilp, .int .i64 0] }, { k := .struct [(0, 107), (1, 4), (2, 108), (3, 109), (4, 110), (5, 111), (6, 112), (7, 3)], size := 8, bytes := 64, zero := [.nilp, .bool false, .nilp, .nilp, .nilp, .nilp, .nilp, .int .i64 0] }, tF, tF, { k := .struct [(0, 116)], size := 1, bytes := 8, zero := [.nilf] }, { k := .struct [(0, 116)], size := 1, bytes := 8, zero := [.nilf] }, tF, tF, tF, tF, tF, tF, tF, tF, tF, tF, tF, tF, tF, tF, tF, tF, tF, tF, tF, tF, tF, tF, { k := .struct [(0, 4), (1, 4), (2, 4), (3, 4), (4, 3), (5, 3)], size := 6, bytes := 24, zero := [.bool false, .bool false, .bool false, .bool false, .int .i64 0, .int .i64 0] }, { k := .struct [(0, 4), (1, 4), (2, 4), (3, 4), (4, 3), (5, 3)], size := 6, bytes := 24, zero := [.bool false, .bool false, .bool false, .bool false, .int .i64 0, .int .i64 0] }, {}, tF, tF, tF, tF, tF, tF, { k := .int .u64, size := 1, bytes := 8, zero := [.int .u64 0] }, { k := .int .u32, size := 1, bytes := 4, zero := [.int .u32 0] }, {}, tF, tF, { k := .struct [(0, 17), (1, 17), (2, 17), (3, 9)], size := 4, bytes := 40, zero := [.nilp, .nilp, .nilp, .str []] }, { k := .struct [(0, 17), (1, 17), (2, 17), (3, 9)], size := 4, bytes := 40, zero := [.nilp, .nilp, .nilp, .str []] }, { k := .array 0 16, size := 0, bytes := 0, zero := [] }, { k := .struct [(0, 157)], size := 0, bytes := 0, zero := [] }, { k := .struct [(0, 157)], size := 0, bytes := 0, zero := [] }, { k := .int .u8, size := 1, bytes := 1, zero := [.int .u8 0] }, { k := .int .u8, size := 1, bytes := 1, zero := [.int .u8 0] }, tF, tP, { k := .int .i32, size := 1, bytes := 4, zero := [.int .i32 0] }, { k := .int .i32, size := 1, bytes := 4, zero := [.int .i32 0] }, { k := .struct [(0, 12), (1, 12), (2, 151), (3, 160), (4, 5), (5, 5), (6, 161), (7, 162), (8, 163), (9, 164), (10, 165)], size := 11, bytes := 48, zero := [.int .u64 0, .int .u64 0, .int .u32 0, .int .u8 0, .int .u8 0, .int .u8 0, .int .u8 0, .nilf, .nilp, .int .i32 0, .int .i32 0] }, { k := .struct [(0, 12), (1, 12), (2, 151), (3, 160), (4, 5), (5, 5), (6, 161), (7, 162), (8, 163), (9, 164), (10, 165)], size := 11, bytes := 48, zero := [.int .u64 0, .int .u64 0, .int .u32 0, .int .u8 0, .int .u8 0, .int .u8 0, .int .u8 0, .nilf, .nilp, .int .i32 0, .int .i32 0] }, {}]
noncomputable def modes : List (Nat × Nat × AMode) := [(10, 34, .loc), (10, 83, .loc), (10, 89, .loc), (20, 1, .con), (29, 7, .loc), (30, 4, .loc), (31, 1, .con), (38, 3, .con), (38, 4, .con), (38, 8, .loc), (39, 3, .con), (44, 3, .con), (44, 5, .loc)]
noncomputable def keeps : List (Nat × Nat × List Nat) := [(4, 5, [0, 3]), (4, 15, [0, 3, 7, 8]), (6, 5, [0, 1, 5]), (7, 8, [1, 2, 3, 4, 5, 6]), (8, 3, [1, 4, 8, 9, 10]), (10, 7, [0, 4, 21, 22, 23]), (10, 18, [0, 4, 91, 92, 93]), (12, 4, [3, 4]), (13, 4, [1, 5, 8, 9, 10]), (14, 5, [3, 4, 5]), (17, 4, [1, 2, 10, 11, 12]), (18, 5, [2, 3, 5]), (21, 4, [3, 4, 10, 11, 12]), (22, 5, [1, 2, 15, 16, 17]), (24, 7, [3, 5, 6, 7, 8, 9, 10, 34, 35, 36]), (24, 26, [3, 5, 6, 7, 8, 9, 10, 13, 16, 17, 18, 90, 91, 92]), (25, 4, [1, 2, 5, 6]), (27, 3, [0, 1, 5]), (28, 4, [4, 5, 10, 11, 12]), (30, 7, [4]), (33, 4, [3, 11, 12, 13]), (33, 8, [3, 5, 6, 11, 12, 13, 21, 22, 23]), (33, 13, [3, 6, 11, 12, 13, 35, 36, 37]), (35, 4, [3, 9, 10, 11]), (36, 4, [3, 10, 11, 12]), (37, 6, [1, 2, 4, 11, 12]), (43, 5, [2, 3, 9, 10, 11]), (44, 4, [3, 5]), (47, 3, [1, 2, 3, 14, 15]), (47, 9, [1, 2, 3, 8, 14, 15, 45, 46]), (47, 16, [1, 2, 3, 8, 14, 15, 80, 81]), (48, 4, [3, 6, 7, 8]), (49, 4, [3, 7, 8, 9]), (50, 5, [1, 2, 15, 16, 17]), (51, 12, [3, 45, 46, 47]), (52, 6, [1, 4, 5, 23, 24, 25]), (54, 5, [0, 5]), (55, 3, [0, 1, 5]), (64, 3, [1, 2, 7, 8]), (65, 5, [1, 2, 3, 19, 20]), (66, 4, [3, 7, 8, 9]), (67, 4, [3, 14, 15, 16]), (71, 3, [0, 3]), (77, 5, [1, 2, 20, 21]), (78, 5, [1, 2, 29, 30])]
noncomputable def cuts : List (Nat × Nat × List Nat) := [(10, 12, [0, 4, 6, 7, 21, 22, 23]), (24, 23, [3, 5, 6, 7, 8, 9, 10, 13]), (24, 38, [3, 5, 6, 7, 8, 9, 10, 13, 16, 17, 18, 20, 21, 22, 90, 91, 92]), (24, 44, [3, 5, 6, 7, 8, 9, 10, 13, 16, 17, 18, 20, 25, 90, 91, 92]), (24, 47, [5, 6, 18]), (42, 7, [4, 5]), (45, 17, [1, 2, 3, 4]), (58, 14, [1, 3, 5, 7, 8]), (62, 16, [1, 3, 4, 5, 6]), (63, 18, [1, 3, 4, 5, 56, 61]), (63, 24, [3, 4, 5])]
noncomputable def rankl : List (Nat × Nat × List Nat) := [(11, 2, [0, 1, 2, 3, 4, 7, 5, 6, 8]), (21, 7, [1, 0, 2]), (24, 18, [1, 2, 3, 4, 5, 0, 6]), (24, 47, [1, 0, 2]), (37, 9, [0, 1, 2, 3, 5, 6, 4, 7]), (45, 3, [0, 1, 2, 3, 4, 6, 7, 8, 9, 10, 5, 11]), (45, 5, [0, 1, 3, 4, 5, 6, 7, 2, 8]), (45, 11, [0, 1, 2, 3, 4, 6, 7, 8, 9, 10, 5, 11]), (45, 13, [0, 1, 2, 3, 4, 6, 7, 8, 9, 10, 5, 11]), (45, 15, [0, 1, 2, 3, 4, 6, 7, 8, 9, 10, 5, 11]), (51, 7, [1, 2, 0, 3]), (51, 9, [1, 2, 0, 3]), (58, 2, [0, 1, 2, 3, 4, 5, 6, 7, 8, 9, 10, 23, 11, 12, 13, 14, 15, 16, 25, 26, 27, 28, 29, 30, 17, 18, 19, 20, 21, 32, 22, 24, 31, 33])]
noncomputable def drawl : List (Nat × Nat × Bool × List (Option Nat)) := [(3, 6, false, [none, none, some 5, none, none, none, none, none, none, none, none, none, none, none, none, none, none]), (4, 7, false, [none, none, none, some 4, none, none, none, none, none, none, none, none, none, none, none, none, none, none, none, none, none]), (4, 10, false, [none, none, none, none, none, none, none, none, none, none, none, none, none, none, none, none, none, none, none, none, none, none, none, none, none, none, none, none, none, none, none, none, none, none, none, none, none, none, none, none, none, none, none, none, none, none, none, none, none, none, none, none, none, none, none, none, none, none, none, none, none, none, none, none, none, none, none]), (4, 16, false, [none, none, none, none, none, none, none, none, none, none, none]), (4, 18, false, [none, none, none, none, none, none, none, none, none, none, none, none, none, none, none, none, none, none, none, none, none, none, none, none, none, none, none, none, none, none, none, none]), (6, 6, false, [none, none, none, none, none, none, none, none, none, none]), (7, 9, true, [none, none, none, none, none, none, none, none, none, none, none, none, none, none, none, none, none, none, none, none, none, none, none, none, none, none, none]), (10, 8, false, [none, some 6, none, none, some 6, some 6, none, none, none, none, some 7]), (10, 12, false, [none, some 7, none, none, none, none, none, none, none, none, none, none, none, none, none, none, none, none, none, none, none, none, none, none, some 6, none, none]), (10, 13, false, [none, none, none, none, none, none, none, none, none, some 6, none, none, none, none, none, none]), (11, 2, false, [none, some 1, none, none, none, none, none, none, some 3]), (17, 5, false, [none, some 1, none, some 4, none, none, none]), (18, 6, false, [none, some 2, none, none, none, none, some 3, none, none, none, none, none]), (21, 7, false, [some 8, none, some 3]), (24, 4, false, [none, some 3, none, none, none]), (24, 18, false, [none, some 3, none, some 3, none, none, some 5]), (24, 47, false, [some 18, none, some 5]), (28, 5, false, [none, some 5, some 7, none, none, none, none, some 5]), (37, 9, false, [none, some 1, none, none, none, some 1, some 2, none]), (43, 6, false, [none, some 3, some 5, none, none, none, none, some 3]), (45, 3, true, [none, some 1, none, none, none, none, some 1, none, none, none, none, none]), (45, 5, true, [some 1, none, none, some 1, none, none, none, none, none]), (45, 11, true, [none, some 1, none, none, none, none, some 1, none, none, none, none, none]), (45, 13, true, [none, some 1, none, none, none, none, some 1, none, none, none, none, none]), (45, 15, true, [none, some 1, none, none, none, none, some 1, none, none, none, none, none]), (47, 5, false, [none, some 3, none, none, none, none, none, none, none, none, none, none, some 3, none, none, none, none, none, none, none]), (47, 11, false, [none, some 3, none, none, none, none, none, none, none, none, none, some 3, none, none, none, none, none, none, none, none]), (47, 18, false, [none, some 3, none, none, none, none, none, none, none, none, none, none, none, none, none, none, some 3, none, none, none, none, none, none, none, none, none, none, none]), (48, 5, false, [none, none, some 5, none, none, some 5, none, none, none]), (51, 7, false, [none, some 4, none, none]), (51, 9, false, [none, some 4, none, none]), (52, 7, false, [none, some 5, some 7, none, none, none, none, none, some 5]), (58, 2, false, [none, none, none, none, none, none, none, none, none, none, none, none, none, none, none, none, none, none, none, none, none, none, none, none, none, none, none, none, none, none, none, none, none, none]), (64, 4, false, [some 2, none, none, none, none, none, none, none, some 2, none, none, none, none, none, none, none]), (65, 6, false, [some 3, none, none, none, none, none, none, none, none, none]), (67, 1, false, [none, some 1, none, none, some 1, none, none, none]), (77, 1, false, [none, some 2, none, none, none, none, none, none, none, none]), (77, 6, false, [some 2, none, none, none, none, none, none, none, none]), (78, 1, false, [none, some 2, none, none, none, none, none, none, none, none, none, some 2, none, none, none, none, none, none, none]), (78, 6, false, [some 2, none, none, none, none, none, none, none, none]), (78, 9, false, [some 2, none, none, none, none, none, none])]
noncomputable def frzs : List (Nat × Nat × List Nat) := [(10, 16, [4]), (17, 7, [1])]
noncomputable def codes : List (Nat × Func) := [(3, Try.f3), (4, Try.f4), (5, Try.f5), (6, Try.f6), (7, Try.f7), (8, Try.f8), (9, Try.f9), (10, Try.f10), (11, Try.f11), (12, Try.f12), (13, Try.f13), (14, Try.f14), (15, Try.f15), (16, Try.f16), (17, Try.f17), (18, Try.f18), (19, Try.f19), (20, Try.f20), (21, Try.f21), (22, Try.f22), (23, Try.f23), (24, Try.f24), (25, Try.f25), (26, Try.f26), (27, Try.f27), (28, Try.f28), (29, Try.f29), (30, Try.f30), (31, Try.f31), (32, Try.f32), (33, Try.f33), (34, Try.f34), (35, Try.f35), (36, Try.f36), (37, Try.f37), (38, Try.f38), (39, Try.f39), (40, Try.f40), (41, Try.f41), (42, Try.f42), (43, Try.f43), (44, Try.f44), (45, Try.f45), (46, Try.f46), (47, Try.f47), (48, Try.f48), (49, Try.f49), (50, Try.f50), (51, Try.f51), (52, Try.f52), (53, Try.f53), (54, Try.f54), (55, Try.f55), (56, Try.f56), (57, Try.f57), (58, Try.f58), (59, Try.f59), (60, Try.f60), (61, Try.f61), (62, Try.f62), (63, Try.f63), (64, Try.f64), (65, Try.f65), (66, Try.f66), (67, Try.f67), (68, Try.f68), (69, Try.f69), (70, Try.f70), (71, Try.f71), (73, Try.f73), (74, Try.f74), (75, Try.f75), (76, Try.f76), (77, Try.f77), (78, Try.f78), (79, Try.f79)]
noncomputable def exts : List (Nat × (List AV → Option AV)) := [(72, extContains)]
noncomputable def C : Cfg where
 ti t := tis.getD t {}
 mode f d := findMode f d modes
 keep f r := findKeep f r keeps
 cut f r := findCut f r cuts
 draws f r := findDraw f r drawl
 ranks f r := findKeep f r rankl
 frz f r := findKeep f r frzs
 glob _ := none
 ints := [0]
 ext f := findExt f exts
 code f := findCode f codes
 quiet f n := Nat.beq f 19 && Nat.beq n 1
noncomputable abbrev cw : CallFn := callw C
def Q7K : List UInt8 := [32, 97, 110, 100, 32, 97, 110, 100, 97, 108, 115, 111, 32, 97, 115, 32, 99, 97, 115, 101, 32, 100, 97, 116, 97, 116, 121, 112, 101, 32, 100, 105, 118, 32, 101, 108, 115, 101, 32, 101, 110, 100, 32, 101, 120, 99, 101, 112, 116, 105, 111, 110, 32, 102, 110, 32, 102, 117, 110, 32, 104, 97, 110, 100, 108, 101, 32, 105, 102, 32, 105, 110, 32, 108, 101, 116, 32, 109, 111, 100, 32, 111, 102, 32, 111, 114, 101, 108, 115, 101, 32, 112, 114, 105, 110, 116, 32, 114, 97, 105, 115, 101, 32, 114, 101, 97, 100, 32, 114, 101, 102, 32, 116, 104, 101, 110, 32, 118, 97, 108, 32, 116, 114, 117, 101, 32, 102, 97, 108, 115, 101, 32, 95, 32]
abbrev T_0 : Nat := 0
abbrev Q1 : Nat := 3
abbrev Qg : Nat := 4
abbrev Qu : Nat := 5
abbrev Q2 : Nat := 9
abbrev Q0I : Nat := 22
abbrev QB : Nat := 23
abbrev Qb : Nat := 27
abbrev Q8 : Nat := 28
abbrev Q4 : Nat := 30
abbrev ZU : Nat := 32
abbrev Q5 : Nat := 34
abbrev Q29 : Nat := 43
abbrev Q0T : Nat := 46
abbrev Qz : Nat := 50
abbrev Qd : Nat := 51
abbrev Qi : Nat := 53
abbrev Qr : Nat := 55
abbrev Qx : Nat := 56
abbrev ZG : Nat := 57
abbrev Qf : Nat := 59
abbrev Qt : Nat := 60
abbrev Q7 : Nat := 62
abbrev Z7 : Nat := 68
abbrev Q3 : Nat := 70
abbrev QJ : Nat := 71
abbrev ZZ : Nat := 73
abbrev QE : Nat := 74
abbrev QZ : Nat := 75
abbrev Q0l : Nat := 77
abbrev Zn : Nat := 79
abbrev Q1J : Nat := 81
abbrev Ql : Nat := 83
abbrev QH : Nat := 94
abbrev Q0v : Nat := 107
abbrev Q04 : Nat := 108
abbrev ZF : Nat := 109
abbrev Q0w : Nat := 110
abbrev Q0x : Nat := 111
abbrev Q2n : Nat := 112
abbrev QA : Nat := 114
abbrev Qh : Nat := 116
abbrev Qm : Nat := 118
abbrev Qe : Nat := 123
abbrev Q0 : Nat := 142
abbrev QeQ : Nat := 3
abbrev ZA : Nat := 4
abbrev Q0G : Nat := 5
abbrev Qh6 : Nat := 6
abbrev QgL : Nat := 7
abbrev Q15 : Nat := 8
abbrev Q12 : Nat := 9
abbrev Zy : Nat := 10
abbrev Q1m : Nat := 11
abbrev Q0R : Nat := 12
abbrev Q2g : Nat := 13
abbrev Q1A : Nat := 14
abbrev Za : Nat := 15
abbrev QgM : Nat := 16
abbrev Zz : Nat := 17
abbrev Q01 : Nat := 18
abbrev Q0j : Nat := 19
abbrev Q3a : Nat := 20
abbrev Q3D : Nat := 21
abbrev Qo : Nat := 22
abbrev Q17 : Nat := 23
abbrev QV : Nat := 24
abbrev Zb : Nat := 25
abbrev Q39 : Nat := 26
abbrev Q1o : Nat := 27
abbrev Q27 : Nat := 28
abbrev QS : Nat := 29
abbrev Q1E : Nat := 30
abbrev Q26 : Nat := 31
abbrev Q25 : Nat := 32
abbrev QL : Nat := 33
abbrev Q1t : Nat := 34
abbrev Q1l : Nat := 35
abbrev Q1y : Nat := 36
abbrev Q16 : Nat := 37
abbrev Q37 : Nat := 38
abbrev Q7m : Nat := 39
abbrev Q8Y : Nat := 40
abbrev Q42 : Nat := 41
abbrev Q1z : Nat := 42
abbrev Q28 : Nat := 43
abbrev Q1B : Nat := 44
abbrev ZM : Nat := 45
abbrev Q1q : Nat := 46
abbrev QG : Nat := 47
abbrev QQ : Nat := 48
abbrev ZE : Nat := 49
abbrev QC : Nat := 50
abbrev Q00 : Nat := 51
abbrev Q18 : Nat := 52
abbrev Q4B : Nat := 53
abbrev Q0Q : Nat := 54
abbrev Q1n : Nat := 55
abbrev Q2B : Nat := 56
abbrev Q13 : Nat := 57
abbrev Zf : Nat := 58
abbrev Q0k : Nat := 59
abbrev Q1H : Nat := 60
abbrev Q1I : Nat := 61
abbrev Q0E : Nat := 62
abbrev Q03 : Nat := 63
abbrev QN : Nat := 64
abbrev QO : Nat := 65
abbrev Zv : Nat := 66
abbrev Q02 : Nat := 67
abbrev Q24 : Nat := 68
abbrev Q38 : Nat := 69
abbrev Q1G : Nat := 70
abbrev Q1F : Nat := 71
abbrev Q0H : Nat := 72
abbrev Q0S : Nat := 73
abbrev Q55 : Nat := 74
abbrev ZL : Nat := 75
abbrev Q1D : Nat := 76
abbrev QT : Nat := 77
abbrev Zc : Nat := 78
abbrev Q1C : Nat := 79
@[go_sem] theorem Q4E : (C.ti Q1).size = 1 := by kernel_rfl
@[go_sem] theorem Q6m : (C.ti Q1).k = .int .i64 := by kernel_rfl
@[go_sem] theorem QdJ : (C.ti Q1).isAgg = false := by kernel_rfl
@[go_sem] theorem QcV : (C.ti Q1).isGood = true := by kernel_rfl
@[go_sem] theorem QbT : (C.ti Q1).bytes = 8 := by kernel_rfl
@[go_sem] theorem QcW : (C.ti Q1).zero = [.int .i64 0] := by kernel_rfl
@[go_sem] theorem QiC : (C.ti Qg).size = 1 := by kernel_rfl
@[go_sem] theorem QeU : (C.ti Qg).k = .bool := by kernel_rfl
@[go_sem] theorem Qjr : (C.ti Qg).isAgg = false := by kernel_rfl
@[go_sem] theorem QiB : (C.ti Qg).isGood = true := by kernel_rfl
@[go_sem] theorem QiD : (C.ti Qg).zero = [.bool false] := by kernel_rfl
@[go_sem] theorem QhU : (C.ti Qu).size = 1 := by kernel_rfl
@[go_sem] theorem Qlr : (C.ti Qu).k = .int .u8 := by kernel_rfl
@[go_sem] theorem QiF : (C.ti Qu).isAgg = false := by kernel_rfl
@[go_sem] theorem QhT : (C.ti Qu).isGood = true := by kernel_rfl
@[go_sem] theorem QhV : (C.ti Qu).zero = [.int .u8 0] := by kernel_rfl
@[go_sem] theorem Qh1 : (C.ti Q2).size = 1 := by kernel_rfl
@[go_sem] theorem QD : (C.ti Q2).k = .str := by kernel_rfl
@[go_sem] theorem QhP : (C.ti Q2).isAgg = false := by kernel_rfl
@[go_sem] theorem Qh0 : (C.ti Q2).isGood = true := by kernel_rfl
@[go_sem] theorem Qh2 : (C.ti Q2).zero = [.str []] := by kernel_rfl
@[go_sem] theorem Qgb : (C.ti Q0I).size = 1 := by kernel_rfl
@[go_sem] theorem Qiv : (C.ti Q0I).k = .slice 34 := by kernel_rfl
@[go_sem] theorem QgT : (C.ti Q0I).isAgg = false := by kernel_rfl
@[go_sem] theorem Qga : (C.ti Q0I).isGood = true := by kernel_rfl
@[go_sem] theorem Qgc : (C.ti Q0I).zero = [.nils] := by kernel_rfl
@[go_sem] theorem QhM : (C.ti QB).size = 1 := by kernel_rfl
@[go_sem] theorem Q9s : (C.ti QB).k = .slice 34 := by kernel_rfl
@[go_sem] theorem QiA : (C.ti QB).isAgg = false := by kernel_rfl
@[go_sem] theorem QhL : (C.ti QB).isGood = true := by kernel_rfl
@[go_sem] theorem QhN : (C.ti QB).zero = [.nils] := by kernel_rfl
@[go_sem] theorem QgY : (C.ti Qb).size = 1 := by kernel_rfl
@[go_sem] theorem QcU : (C.ti Qb).k = .int .i64 := by kernel_rfl
@[go_sem] theorem QhO : (C.ti Qb).isAgg = false := by kernel_rfl
@[go_sem] theorem QgX : (C.ti Qb).isGood = true := by kernel_rfl
@[go_sem] theorem QgZ : (C.ti Qb).zero = [.int .i64 0] := by kernel_rfl
@[go_sem] theorem Qix : (C.ti Q8).size = 1 := by kernel_rfl
@[go_sem] theorem Q4D : (C.ti Q8).k = .slice 30 := by kernel_rfl
@[go_sem] theorem Qjp : (C.ti Q8).isAgg = false := by kernel_rfl
@[go_sem] theorem Qiw : (C.ti Q8).isGood = true := by kernel_rfl
@[go_sem] theorem Qiy : (C.ti Q8).zero = [.nils] := by kernel_rfl
@[go_sem] theorem Zd : (C.ti Q4).size = 4 := by kernel_rfl
@[go_sem] theorem QdI : (C.ti Q4).k = .struct [(0, 27), (1, 3), (2, 9), (3, 28)] := by kernel_rfl
@[go_sem] theorem QaR : (C.ti Q4).isAgg = true := by kernel_rfl
@[go_sem] theorem Qln : (C.ti Q4).isGood = true := by kernel_rfl
@[go_sem] theorem Q7L : (C.ti Q4).bytes = 56 := by kernel_rfl
@[go_sem] theorem Qlo : (C.ti Q4).zero = [.int .i64 0, .int .i64 0, .str [], .nils] := by kernel_rfl
@[go_sem] theorem QgV : (C.ti ZU).size = 5 := by kernel_rfl
@[go_sem] theorem Qjq : (C.ti ZU).k = .struct [(0, 3), (1, 30)] := by kernel_rfl
@[go_sem] theorem QhK : (C.ti ZU).isAgg = true := by kernel_rfl
@[go_sem] theorem QgU : (C.ti ZU).isGood = true := by kernel_rfl
@[go_sem] theorem QgW : (C.ti ZU).zero = [.int .i64 0, .int .i64 0, .int .i64 0, .str [], .nils] := by kernel_rfl
@[go_sem] theorem Q1K : (C.ti Q5).size = 10 := by kernel_rfl
@[go_sem] theorem QdG : (C.ti Q5).k = .struct [(0, 9), (1, 9), (2, 3), (3, 3), (4, 4), (5, 32)] := by kernel_rfl
@[go_sem] theorem Q6D : (C.ti Q5).isAgg = true := by kernel_rfl
@[go_sem] theorem Qhp : (C.ti Q5).isGood = true := by kernel_rfl
@[go_sem] theorem Q56 : (C.ti Q5).bytes = 120 := by kernel_rfl
@[go_sem] theorem QaQ : (C.ti Q5).zero = [.str [], .str [], .int .i64 0, .int .i64 0, .bool false, .int .i64 0, .int .i64 0, .int .i64 0, .str [], .nils] := by kernel_rfl
@[go_sem] theorem QhH : (C.ti Q29).size = 1 := by kernel_rfl
@[go_sem] theorem Qlm : (C.ti Q29).k = .slice 3 := by kernel_rfl
@[go_sem] theorem Qiz : (C.ti Q29).isAgg = false := by kernel_rfl
@[go_sem] theorem QhG : (C.ti Q29).isGood = true := by kernel_rfl
@[go_sem] theorem QhI : (C.ti Q29).zero = [.nils] := by kernel_rfl
@[go_sem] theorem QfY : (C.ti Q0T).size = 1 := by kernel_rfl
@[go_sem] theorem QhJ : (C.ti Q0T).k = .slice 9 := by kernel_rfl
@[go_sem] theorem Qgd : (C.ti Q0T).isAgg = false := by kernel_rfl
@[go_sem] theorem QfX : (C.ti Q0T).isGood = true := by kernel_rfl
@[go_sem] theorem QfZ : (C.ti Q0T).zero = [.nils] := by kernel_rfl
@[go_sem] theorem Qhv : (C.ti Qz).size = 1 := by kernel_rfl
@[go_sem] theorem Qli : (C.ti Qz).k = .slice 59 := by kernel_rfl
@[go_sem] theorem Qir : (C.ti Qz).isAgg = false := by kernel_rfl
@[go_sem] theorem Qhu : (C.ti Qz).isGood = true := by kernel_rfl
@[go_sem] theorem Qhw : (C.ti Qz).zero = [.nils] := by kernel_rfl
@[go_sem] theorem Qg2 : (C.ti Qd).size = 1 := by kernel_rfl
@[go_sem] theorem Qie : (C.ti Qd).k = .int .i64 := by kernel_rfl
@[go_sem] theorem QgN : (C.ti Qd).isAgg = false := by kernel_rfl
@[go_sem] theorem Qg1 : (C.ti Qd).isGood = true := by kernel_rfl
@[go_sem] theorem Qg3 : (C.ti Qd).zero = [.int .i64 0] := by kernel_rfl
@[go_sem] theorem Z9 : (C.ti Qi).size = 7 := by kernel_rfl
@[go_sem] theorem Qnp : (C.ti Qi).k = .struct [(0, 9), (1, 3), (2, 4), (3, 30)] := by kernel_rfl
@[go_sem] theorem QdE : (C.ti Qi).isAgg = true := by kernel_rfl
@[go_sem] theorem Qja : (C.ti Qi).isGood = true := by kernel_rfl
@[go_sem] theorem Q6B : (C.ti Qi).bytes = 88 := by kernel_rfl
@[go_sem] theorem Qjb : (C.ti Qi).zero = [.str [], .int .i64 0, .bool false, .int .i64 0, .int .i64 0, .str [], .nils] := by kernel_rfl
@[go_sem] theorem Qhs : (C.ti Qr).size = 1 := by kernel_rfl
@[go_sem] theorem Qlh : (C.ti Qr).k = .slice 53 := by kernel_rfl
@[go_sem] theorem Qiq : (C.ti Qr).isAgg = false := by kernel_rfl
@[go_sem] theorem Qhr : (C.ti Qr).isGood = true := by kernel_rfl
@[go_sem] theorem Qht : (C.ti Qr).zero = [.nils] := by kernel_rfl
@[go_sem] theorem QgR : (C.ti Qx).size = 1 := by kernel_rfl
@[go_sem] theorem Qjo : (C.ti Qx).k = .slice 79 := by kernel_rfl
@[go_sem] theorem Qhq : (C.ti Qx).isAgg = false := by kernel_rfl
@[go_sem] theorem QgQ : (C.ti Qx).isGood = true := by kernel_rfl
@[go_sem] theorem QgS : (C.ti Qx).zero = [.nils] := by kernel_rfl
@[go_sem] theorem QhB : (C.ti ZG).size = 1 := by kernel_rfl
@[go_sem] theorem Qlk : (C.ti ZG).k = .slice 81 := by kernel_rfl
@[go_sem] theorem Qit : (C.ti ZG).isAgg = false := by kernel_rfl
@[go_sem] theorem QhA : (C.ti ZG).isGood = true := by kernel_rfl
@[go_sem] theorem QhC : (C.ti ZG).zero = [.nils] := by kernel_rfl
@[go_sem] theorem Zq : (C.ti Qf).size = 7 := by kernel_rfl
@[go_sem] theorem Qnq : (C.ti Qf).k = .struct [(0, 51), (1, 3), (2, 9), (3, 3), (4, 55), (5, 56), (6, 57)] := by kernel_rfl
@[go_sem] theorem QdF : (C.ti Qf).isAgg = true := by kernel_rfl
@[go_sem] theorem Qjc : (C.ti Qf).isGood = true := by kernel_rfl
@[go_sem] theorem Q6C : (C.ti Qf).bytes = 112 := by kernel_rfl
@[go_sem] theorem Qjd : (C.ti Qf).zero = [.int .i64 0, .int .i64 0, .str [], .int .i64 0, .nils, .nils, .nils] := by kernel_rfl
@[go_sem] theorem Qh8 : (C.ti Qt).size = 1 := by kernel_rfl
@[go_sem] theorem Ql8 : (C.ti Qt).k = .int .i64 := by kernel_rfl
@[go_sem] theorem Qif : (C.ti Qt).isAgg = false := by kernel_rfl
@[go_sem] theorem Qh7 : (C.ti Qt).isGood = true := by kernel_rfl
@[go_sem] theorem Qh9 : (C.ti Qt).zero = [.int .i64 0] := by kernel_rfl
@[go_sem] theorem Qj7 : (C.ti Q7).size = 3 := by kernel_rfl
@[go_sem] theorem Qg0 : (C.ti Q7).k = .struct [(0, 60), (1, 3), (2, 9)] := by kernel_rfl
@[go_sem] theorem Ql7 : (C.ti Q7).isAgg = true := by kernel_rfl
@[go_sem] theorem Qj6 : (C.ti Q7).isGood = true := by kernel_rfl
@[go_sem] theorem Qj8 : (C.ti Q7).zero = [.int .i64 0, .int .i64 0, .str []] := by kernel_rfl
@[go_sem] theorem QcT : (C.ti Q7).flat = [.int .i64, .int .i64, .str] := by kernel_rfl
@[go_sem] theorem QdC : (C.ti Z7).size = 1 := by kernel_rfl
@[go_sem] theorem QeT : (C.ti Z7).k = .slice 83 := by kernel_rfl
@[go_sem] theorem QdH : (C.ti Z7).isAgg = false := by kernel_rfl
@[go_sem] theorem QdB : (C.ti Z7).isGood = true := by kernel_rfl
@[go_sem] theorem QdD : (C.ti Z7).zero = [.nils] := by kernel_rfl
@[go_sem] theorem Qg5 : (C.ti Q3).size = 1 := by kernel_rfl
@[go_sem] theorem Qig : (C.ti Q3).k = .int .i64 := by kernel_rfl
@[go_sem] theorem QgO : (C.ti Q3).isAgg = false := by kernel_rfl
@[go_sem] theorem Qg4 : (C.ti Q3).isGood = true := by kernel_rfl
@[go_sem] theorem Qg6 : (C.ti Q3).zero = [.int .i64 0] := by kernel_rfl
@[go_sem] theorem Qhy : (C.ti QJ).size = 1 := by kernel_rfl
@[go_sem] theorem Qlj : (C.ti QJ).k = .slice 73 := by kernel_rfl
@[go_sem] theorem Qis : (C.ti QJ).isAgg = false := by kernel_rfl
@[go_sem] theorem Qhx : (C.ti QJ).isGood = true := by kernel_rfl
@[go_sem] theorem Qhz : (C.ti QJ).zero = [.nils] := by kernel_rfl
@[go_sem] theorem Qjf : (C.ti ZZ).size = 7 := by kernel_rfl
@[go_sem] theorem Qnr : (C.ti ZZ).k = .struct [(0, 70), (1, 3), (2, 9), (3, 3), (4, 71), (5, 56), (6, 50)] := by kernel_rfl
@[go_sem] theorem Ql9 : (C.ti ZZ).isAgg = true := by kernel_rfl
@[go_sem] theorem Qje : (C.ti ZZ).isGood = true := by kernel_rfl
@[go_sem] theorem Qjg : (C.ti ZZ).zero = [.int .i64 0, .int .i64 0, .str [], .int .i64 0, .nils, .nils, .nils] := by kernel_rfl
@[go_sem] theorem Qg8 : (C.ti QE).size = 1 := by kernel_rfl
@[go_sem] theorem Qip : (C.ti QE).k = .int .i64 := by kernel_rfl
@[go_sem] theorem QgP : (C.ti QE).isAgg = false := by kernel_rfl
@[go_sem] theorem Qg7 : (C.ti QE).isGood = true := by kernel_rfl
@[go_sem] theorem Qg9 : (C.ti QE).zero = [.int .i64 0] := by kernel_rfl
@[go_sem] theorem QhE : (C.ti QZ).size = 1 := by kernel_rfl
@[go_sem] theorem Qll : (C.ti QZ).k = .slice 77 := by kernel_rfl
@[go_sem] theorem Qiu : (C.ti QZ).isAgg = false := by kernel_rfl
@[go_sem] theorem QhD : (C.ti QZ).isGood = true := by kernel_rfl
@[go_sem] theorem QhF : (C.ti QZ).zero = [.nils] := by kernel_rfl
@[go_sem] theorem Qjm : (C.ti Q0l).size = 5 := by kernel_rfl
@[go_sem] theorem Qnt : (C.ti Q0l).k = .struct [(0, 74), (1, 3), (2, 9), (3, 3), (4, 75)] := by kernel_rfl
@[go_sem] theorem Qlg : (C.ti Q0l).isAgg = true := by kernel_rfl
@[go_sem] theorem Qjl : (C.ti Q0l).isGood = true := by kernel_rfl
@[go_sem] theorem Qjn : (C.ti Q0l).zero = [.int .i64 0, .int .i64 0, .str [], .int .i64 0, .nils] := by kernel_rfl
@[go_sem] theorem Qic : (C.ti Zn).size = 12 := by kernel_rfl
@[go_sem] theorem Qm7 : (C.ti Zn).k = .struct [(0, 77), (5, 73)] := by kernel_rfl
@[go_sem] theorem Qj9 : (C.ti Zn).isAgg = true := by kernel_rfl
@[go_sem] theorem Qib : (C.ti Zn).isGood = true := by kernel_rfl
@[go_sem] theorem Qid : (C.ti Zn).zero = [.int .i64 0, .int .i64 0, .str [], .int .i64 0, .nils, .int .i64 0, .int .i64 0, .str [], .int .i64 0, .nils, .nils, .nils] := by kernel_rfl
@[go_sem] theorem Qji : (C.ti Q1J).size = 14 := by kernel_rfl
@[go_sem] theorem Qns : (C.ti Q1J).k = .struct [(0, 9), (1, 3), (2, 79)] := by kernel_rfl
@[go_sem] theorem Qla : (C.ti Q1J).isAgg = true := by kernel_rfl
@[go_sem] theorem Qjh : (C.ti Q1J).isGood = true := by kernel_rfl
@[go_sem] theorem Qjj : (C.ti Q1J).zero = [.str [], .int .i64 0, .int .i64 0, .int .i64 0, .str [], .int .i64 0, .nils, .int .i64 0, .int .i64 0, .str [], .int .i64 0, .nils, .nils, .nils] := by kernel_rfl
@[go_sem] theorem Q2I : (C.ti Ql).size = 47 := by kernel_rfl
@[go_sem] theorem Qge : (C.ti Ql).k = .struct [(0, 3), (1, 4), (2, 3), (3, 59), (10, 73), (17, 77), (22, 30), (26, 81), (40, 53)] := by kernel_rfl
@[go_sem] theorem QeV : (C.ti Ql).isAgg = true := by kernel_rfl
@[go_sem] theorem QeR : (C.ti Ql).isGood = true := by kernel_rfl
@[go_sem] theorem Q5v : (C.ti Ql).bytes = 656 := by kernel_rfl
@[go_sem] theorem QeS : (C.ti Ql).zero = [.int .i64 0, .bool false, .int .i64 0, .int .i64 0, .int .i64 0, .str [], .int .i64 0, .nils, .nils, .nils, .int .i64 0, .int .i64 0, .str [], .int .i64 0, .nils, .nils, .nils, .int .i64 0, .int .i64 0, .str [], .int .i64 0, .nils, .int .i64 0, .int .i64 0, .str [], .nils, .str [], .int .i64 0, .int .i64 0, .int .i64 0, .str [], .int .i64 0, .nils, .int .i64 0, .int .i64 0, .str [], .int .i64 0, .nils, .nils, .nils, .str [], .int .i64 0, .bool false, .int .i64 0, .int .i64 0, .str [], .nils] := by kernel_rfl
@[go_sem] theorem QbR : (C.ti QH).size = 1 := by kernel_rfl
@[go_sem] theorem QcX : (C.ti QH).k = .map 9 3 := by kernel_rfl
@[go_sem] theorem QbU : (C.ti QH).isAgg = false := by kernel_rfl
@[go_sem] theorem QbQ : (C.ti QH).isGood = true := by kernel_rfl
@[go_sem] theorem QbS : (C.ti QH).zero = [.nilm] := by kernel_rfl
@[go_sem] theorem Qhe : (C.ti Q0v).size = 1 := by kernel_rfl
@[go_sem] theorem Qlc : (C.ti Q0v).k = .ptr := by kernel_rfl
@[go_sem] theorem Qii : (C.ti Q0v).isAgg = false := by kernel_rfl
@[go_sem] theorem Qhd : (C.ti Q0v).isGood = true := by kernel_rfl
@[go_sem] theorem Qhf : (C.ti Q0v).zero = [.nilp] := by kernel_rfl
@[go_sem] theorem Qhk : (C.ti Q04).size = 1 := by kernel_rfl
@[go_sem] theorem Qle : (C.ti Q04).k = .ptr := by kernel_rfl
@[go_sem] theorem Qik : (C.ti Q04).isAgg = false := by kernel_rfl
@[go_sem] theorem Qhj : (C.ti Q04).isGood = true := by kernel_rfl
@[go_sem] theorem Qhl : (C.ti Q04).zero = [.nilp] := by kernel_rfl
@[go_sem] theorem Qhb : (C.ti ZF).size = 1 := by kernel_rfl
@[go_sem] theorem Qlb : (C.ti ZF).k = .ptr := by kernel_rfl
@[go_sem] theorem Qih : (C.ti ZF).isAgg = false := by kernel_rfl
@[go_sem] theorem Qha : (C.ti ZF).isGood = true := by kernel_rfl
@[go_sem] theorem Qhc : (C.ti ZF).zero = [.nilp] := by kernel_rfl
@[go_sem] theorem Qhh : (C.ti Q0w).size = 1 := by kernel_rfl
@[go_sem] theorem Qld : (C.ti Q0w).k = .ptr := by kernel_rfl
@[go_sem] theorem Qij : (C.ti Q0w).isAgg = false := by kernel_rfl
@[go_sem] theorem Qhg : (C.ti Q0w).isGood = true := by kernel_rfl
@[go_sem] theorem Qhi : (C.ti Q0w).zero = [.nilp] := by kernel_rfl
@[go_sem] theorem Qhn : (C.ti Q0x).size = 1 := by kernel_rfl
@[go_sem] theorem Qlf : (C.ti Q0x).k = .ptr := by kernel_rfl
@[go_sem] theorem Qil : (C.ti Q0x).isAgg = false := by kernel_rfl
@[go_sem] theorem Qhm : (C.ti Q0x).isGood = true := by kernel_rfl
@[go_sem] theorem Qho : (C.ti Q0x).zero = [.nilp] := by kernel_rfl
@[go_sem] theorem Qin : (C.ti Q2n).size = 1 := by kernel_rfl
@[go_sem] theorem Qm8 : (C.ti Q2n).k = .ptr := by kernel_rfl
@[go_sem] theorem Qjk : (C.ti Q2n).isAgg = false := by kernel_rfl
@[go_sem] theorem Qim : (C.ti Q2n).isGood = true := by kernel_rfl
@[go_sem] theorem Qio : (C.ti Q2n).zero = [.nilp] := by kernel_rfl
@[go_sem] theorem QhR : (C.ti QA).size = 8 := by kernel_rfl
@[go_sem] theorem Qlq : (C.ti QA).k = .struct [(0, 107), (1, 4), (2, 108), (3, 109), (4, 110), (5, 111), (6, 112), (7, 3)] := by kernel_rfl
@[go_sem] theorem QiE : (C.ti QA).isAgg = true := by kernel_rfl
@[go_sem] theorem QhQ : (C.ti QA).isGood = true := by kernel_rfl
@[go_sem] theorem QhS : (C.ti QA).zero = [.nilp, .bool false, .nilp, .nilp, .nilp, .nilp, .nilp, .int .i64 0] := by kernel_rfl
@[go_sem] theorem Q8W : (C.ti Qh).size = 1 := by kernel_rfl
@[go_sem] theorem Qal : (C.ti Qh).k = .func := by kernel_rfl
@[go_sem] theorem Q8Z : (C.ti Qh).isAgg = false := by kernel_rfl
@[go_sem] theorem Q8V : (C.ti Qh).isGood = true := by kernel_rfl
@[go_sem] theorem Q8X : (C.ti Qh).zero = [.nilf] := by kernel_rfl
@[go_sem] theorem Qh4 : (C.ti Qm).size = 1 := by kernel_rfl
@[go_sem] theorem Qjv : (C.ti Qm).k = .struct [(0, 116)] := by kernel_rfl
@[go_sem] theorem QhW : (C.ti Qm).isAgg = true := by kernel_rfl
@[go_sem] theorem Qh3 : (C.ti Qm).isGood = true := by kernel_rfl
@[go_sem] theorem Qh5 : (C.ti Qm).zero = [.nilf] := by kernel_rfl
@[go_sem] theorem Q5t : (C.ti Qe).size = 1 := by kernel_rfl
@[go_sem] theorem Q6s : (C.ti Qe).k = .func := by kernel_rfl
@[go_sem] theorem Q5w : (C.ti Qe).isAgg = false := by kernel_rfl
@[go_sem] theorem Q5s : (C.ti Qe).isGood = true := by kernel_rfl
@[go_sem] theorem Q5u : (C.ti Qe).zero = [.nilf] := by kernel_rfl
@[go_sem] theorem Qjt : (C.ti Q0).size = 6 := by kernel_rfl
@[go_sem] theorem Qnu : (C.ti Q0).k = .struct [(0, 4), (1, 4), (2, 4), (3, 4), (4, 3), (5, 3)] := by kernel_rfl
@[go_sem] theorem Qlp : (C.ti Q0).isAgg = true := by kernel_rfl
@[go_sem] theorem Qjs : (C.ti Q0).isGood = true := by kernel_rfl
@[go_sem] theorem Qju : (C.ti Q0).zero = [.bool false, .bool false, .bool false, .bool false, .int .i64 0, .int .i64 0] := by kernel_rfl
noncomputable def gC (T : Nat) (k : Nat) (c : List Slot) (K : Slot → Res) : Res := bind1 (ofSlots (C.ti T) (List.take (C.ti T).size (List.drop k c))) K
@[go_sem] theorem Qoo (T : Nat) (k : Nat) (c : List Slot) (K : Slot → Res) : gC T k c K = bind1 (ofSlots (C.ti T) (List.take (C.ti T).size (List.drop k c))) K := id rfl
@[congr] theorem QmK {T : Nat} {k : Nat} {c c' : List Slot} {K : Slot → Res} (h0 : c = c') : gC T k c K = gC T k c' K := by rw [h0]
noncomputable def gA (T : Nat) (c : List Slot) (K : Slot → Res) : Res := bind1 (ofSlots (C.ti T) (List.take (C.ti T).size c)) K
@[go_sem] theorem Qom (T : Nat) (c : List Slot) (K : Slot → Res) : gA T c K = bind1 (ofSlots (C.ti T) (List.take (C.ti T).size c)) K := id rfl
@[congr] theorem QmI {T : Nat} {c c' : List Slot} {K : Slot → Res} (h0 : c = c') : gA T c K = gA T c' K := by rw [h0]
noncomputable def bx (T : Nat) (v : Slot) (K : List Slot → Res) : Res := bindL (boxCells (C.ti T) v) K
@[go_sem] theorem Qog (T : Nat) (v : Slot) (K : List Slot → Res) : bx T v K = bindL (boxCells (C.ti T) v) K := id rfl
@[congr] theorem Qms {T : Nat} {v v' : Slot} {K : List Slot → Res} (h0 : v = v') : bx T v K = bx T v' K := by rw [h0]
noncomputable def pZ (T : Nat) (c : List Slot) (K : List Slot → Res) : Res := bindL (putAt (List.map .val (C.ti T).zero) 0 c) K
@[go_sem] theorem QoI (T : Nat) (c : List Slot) (K : List Slot → Res) : pZ T c K = bindL (putAt (List.map .val (C.ti T).zero) 0 c) K := id rfl
@[congr] theorem Qnj {T : Nat} {c c' : List Slot} {K : List Slot → Res} (h0 : c = c') : pZ T c K = pZ T c' K := by rw [h0]
noncomputable def bn (T : Nat) (op : BinOp) (x : Slot) (y : Slot) (K : Slot → Res) : Res := bind1 (binS (C.ti T) op x y) K
@[go_sem] theorem QaN (T : Nat) (op : BinOp) (x : Slot) (y : Slot) (K : Slot → Res) : bn T op x y K = bind1 (binS (C.ti T) op x y) K := id rfl
@[congr] theorem Qmq {T : Nat} {op : BinOp} {x x' : Slot} {y y' : Slot} {K : Slot → Res} (h0 : x = x') (h1 : y = y') : bn T op x y K = bn T op x' y' K := by rw [h0, h1]
noncomputable def ix (T : Nat) (x : Slot) (i : Slot) (K : Slot → Res) : Res := bind1 (ixS (C.ti T).size x i) K
@[go_sem] theorem QoD (T : Nat) (x : Slot) (i : Slot) (K : Slot → Res) : ix T x i K = bind1 (ixS (C.ti T).size x i) K := id rfl
@[congr] theorem Qn3 {T : Nat} {x x' : Slot} {i i' : Slot} {K : Slot → Res} (h0 : x = x') (h1 : i = i') : ix T x i K = ix T x' i' K := by rw [h0, h1]
noncomputable def ld (T : Nat) (s : St) (a : Slot) (K : Slot → Res) : Res := bind1 (ldV (C.ti T) false s a) K
@[go_sem] theorem QoE (T : Nat) (s : St) (a : Slot) (K : Slot → Res) : ld T s a K = bind1 (ldV (C.ti T) false s a) K := id rfl
@[congr] theorem Qn4 {T : Nat} {s s' : St} {a a' : Slot} {K : Slot → Res} (h0 : s = s') (h1 : a = a') : ld T s a K = ld T s' a' K := by rw [h0, h1]
noncomputable def ln (T : Nat) (x : Slot) (K : Slot → Res) : Res := bind1 (lenS (C.ti T) x) K
@[go_sem] theorem QaP (T : Nat) (x : Slot) (K : Slot → Res) : ln T x K = bind1 (lenS (C.ti T) x) K := id rfl
@[congr] theorem Qn6 {T : Nat} {x x' : Slot} {K : Slot → Res} (h0 : x = x') : ln T x K = ln T x' K := by rw [h0]
noncomputable def ca (f : Nat) (l : List Slot) (s : St) (K : Slot → St → Res) : Res := back (cal cw true (tgtV (.val (.fn f [])) l) s) K
@[go_sem] theorem Qoh (f : Nat) (l : List Slot) (s : St) (K : Slot → St → Res) : ca f l s K = back (cal cw true (tgtV (.val (.fn f [])) l) s) K := id rfl
@[congr] theorem Qmt {f : Nat} {l l' : List Slot} {s s' : St} {K : Slot → St → Res} (h0 : l = l') (h1 : s = s') : ca f l s K = ca f l' s' K := by rw [h0, h1]
noncomputable def cn (f : Nat) (l : List Slot) (s : St) (K : Slot → St → Res) : Res := back (noPan (cal cw true (tgtV (.val (.fn f [])) l) s)) K
@[go_sem] theorem Qoj (f : Nat) (l : List Slot) (s : St) (K : Slot → St → Res) : cn f l s K = back (noPan (cal cw true (tgtV (.val (.fn f [])) l) s)) K := id rfl
@[congr] theorem Qmz {f : Nat} {l l' : List Slot} {s s' : St} {K : Slot → St → Res} (h0 : l = l') (h1 : s = s') : cn f l s K = cn f l' s' K := by rw [h0, h1]
noncomputable def cg (w : Bool) (f : Nat) (l : List Slot) (s : St) (K : Slot → St → Res) : Res := back (cal cw w (tgtV (.val (.fn f [])) l) s) K
@[go_sem] theorem Qoi (w : Bool) (f : Nat) (l : List Slot) (s : St) (K : Slot → St → Res) : cg w f l s K = back (cal cw w (tgtV (.val (.fn f [])) l) s) K := id rfl
@[congr] theorem Qmy {f : Nat} {w w' : Bool} {l l' : List Slot} {s s' : St} {K : Slot → St → Res} (h0 : w = w') (h1 : l = l') (h2 : s = s') : cg w f l s K = cg w' f l' s' K := by rw [h0, h1, h2]
noncomputable def iT (v : Slot) (K : Bool → Res) : Res := bindB (Slot.isB v true) K
@[go_sem] theorem Qoz (v : Slot) (K : Bool → Res) : iT v K = bindB (Slot.isB v true) K := id rfl
@[congr] theorem QmX  {v v' : Slot} {K : Bool → Res} (h0 : v = v') : iT v K = iT v' K := by rw [h0]
noncomputable def iF (v : Slot) (K : Bool → Res) : Res := bindB (Slot.isB v false) K
@[go_sem] theorem Qoy (v : Slot) (K : Bool → Res) : iF v K = bindB (Slot.isB v false) K := id rfl
@[congr] theorem QmW  {v v' : Slot} {K : Bool → Res} (h0 : v = v') : iF v K = iF v' K := by rw [h0]
noncomputable def gG (w : Bool) (b : Bool) (T : Nat) (k : Nat) (c : List Slot) (K : Slot → Res) : Res := bind1 (gd w (bif b then (ofSlots (C.ti T) (List.take (C.ti T).size (List.drop k c))) else none)) K
@[go_sem] theorem Qop (w : Bool) (b : Bool) (T : Nat) (k : Nat) (c : List Slot) (K : Slot → Res) : gG w b T k c K = bind1 (gd w (bif b then (ofSlots (C.ti T) (List.take (C.ti T).size (List.drop k c))) else none)) K := id rfl
@[congr] theorem QmL {b : Bool} {T : Nat} {k : Nat} {c : List Slot} {w w' : Bool} {K : Slot → Res} (h0 : w = w') : gG w b T k c K = gG w' b T k c K := by rw [h0]
noncomputable def gB (w : Bool) (T : Nat) (op : BinOp) (x : Slot) (y : Slot) (K : Slot → Res) : Res := bind1 (gd w (binS (C.ti T) op x y)) K
@[go_sem] theorem Qon (w : Bool) (T : Nat) (op : BinOp) (x : Slot) (y : Slot) (K : Slot → Res) : gB w T op x y K = bind1 (gd w (binS (C.ti T) op x y)) K := id rfl
@[congr] theorem QmJ {T : Nat} {op : BinOp} {x : Slot} {y : Slot} {w w' : Bool} {K : Slot → Res} (h0 : w = w') : gB w T op x y K = gB w' T op x y K := by rw [h0]
noncomputable def gN (w : Bool) (x : Slot) (K : Slot → Res) : Res := bind1 (gd w (unS .not x)) K
@[go_sem] theorem Qor (w : Bool) (x : Slot) (K : Slot → Res) : gN w x K = bind1 (gd w (unS .not x)) K := id rfl
@[congr] theorem QmN {x : Slot} {w w' : Bool} {K : Slot → Res} (h0 : w = w') : gN w x K = gN w' x K := by rw [h0]
noncomputable def gL (w : Bool) (T : Nat) (x : Slot) (K : Slot → Res) : Res := bind1 (gd w (lenS (C.ti T) x)) K
@[go_sem] theorem Qoq (w : Bool) (T : Nat) (x : Slot) (K : Slot → Res) : gL w T x K = bind1 (gd w (lenS (C.ti T) x)) K := id rfl
@[congr] theorem QmM {T : Nat} {x : Slot} {w w' : Bool} {K : Slot → Res} (h0 : w = w') : gL w T x K = gL w' T x K := by rw [h0]
noncomputable def nt (x : Slot) (K : Slot → Res) : Res := bind1 (unS .not x) K
@[go_sem] theorem QoG (x : Slot) (K : Slot → Res) : nt x K = bind1 (unS .not x) K := id rfl
@[congr] theorem Qna  {x x' : Slot} {K : Slot → Res} (h0 : x = x') : nt x K = nt x' K := by rw [h0]
noncomputable def pk (a : Slot) (b : Slot) (c : Slot) (K : Slot → Res) : Res := bind1 (pickS a b c) K
@[go_sem] theorem QoJ (a : Slot) (b : Slot) (c : Slot) (K : Slot → Res) : pk a b c K = bind1 (pickS a b c) K := id rfl
@[congr] theorem Qnk  {a a' : Slot} {b b' : Slot} {c c' : Slot} {K : Slot → Res} (h0 : a = a') (h1 : b = b') (h2 : c = c') : pk a b c K = pk a' b' c' K := by rw [h0, h1, h2]
noncomputable def ex (a : Slot) (i : Nat) (K : Slot → Res) : Res := bind1 (extractS a i) K
@[go_sem] theorem Qok (a : Slot) (i : Nat) (K : Slot → Res) : ex a i K = bind1 (extractS a i) K := id rfl
@[congr] theorem QmC {i : Nat} {a a' : Slot} {K : Slot → Res} (h0 : a = a') : ex a i K = ex a' i K := by rw [h0]
noncomputable def fa (i : Nat) (a : Slot) (K : Slot → Res) : Res := bind1 (faV i a) K
@[go_sem] theorem Qol (i : Nat) (a : Slot) (K : Slot → Res) : fa i a K = bind1 (faV i a) K := id rfl
@[congr] theorem QmG {i : Nat} {a a' : Slot} {K : Slot → Res} (h0 : a = a') : fa i a K = fa i a' K := by rw [h0]
noncomputable def pt (c : List Slot) (i : Nat) (d : List Slot) (K : List Slot → Res) : Res := bindL (putAt c i d) K
@[go_sem] theorem QoK (c : List Slot) (i : Nat) (d : List Slot) (K : List Slot → Res) : pt c i d K = bindL (putAt c i d) K := id rfl
@[congr] theorem Qnl {i : Nat} {c c' : List Slot} {d d' : List Slot} {K : List Slot → Res} (h0 : c = c') (h1 : d = d') : pt c i d K = pt c' i d' K := by rw [h0, h1]
noncomputable def bs (T : Nat) (l : List Slot) (K : Slot → Res) : Res := bind1 (bslF (C.ti T).size l) K
@[go_sem] theorem Qoe (T : Nat) (l : List Slot) (K : Slot → Res) : bs T l K = bind1 (bslF (C.ti T).size l) K := id rfl
@[congr] theorem Qmr {T : Nat} {l l' : List Slot} {K : Slot → Res} (h0 : l = l') : bs T l K = bs T l' K := by rw [h0]
noncomputable def ap (T : Nat) (s : St) (x : Slot) (y : Slot) (K : Slot → St → Res) : Res := bind2 (appendS T (C.ti T) s x y) K
@[go_sem] theorem Qoc (T : Nat) (s : St) (x : Slot) (y : Slot) (K : Slot → St → Res) : ap T s x y K = bind2 (appendS T (C.ti T) s x y) K := id rfl
@[congr] theorem Qm9 {T : Nat} {s s' : St} {x x' : Slot} {y y' : Slot} {K : Slot → St → Res} (h0 : s = s') (h1 : x = x') (h2 : y = y') : ap T s x y K = ap T s' x' y' K := by rw [h0, h1, h2]
noncomputable def sto (s : St) (a : Slot) (c : List Slot) (K : St → Res) : Res := bindS (stV s a c) K
@[go_sem] theorem Qo9 (s : St) (a : Slot) (c : List Slot) (K : St → Res) : sto s a c K = bindS (stV s a c) K := id rfl
@[congr] theorem Qm5  {s s' : St} {a a' : Slot} {c c' : List Slot} {K : St → Res} (h0 : s = s') (h1 : a = a') (h2 : c = c') : sto s a c K = sto s' a' c' K := by rw [h0, h1, h2]
noncomputable def upd2 (A : Nat) (B : Nat) (s : St) (a : Slot) (b : Slot) (c : Slot) (K : Slot → St → Res) : Res := bind2 (updateS (C.ti A) (C.ti B) s a b c) K
@[go_sem] theorem QnS (A : Nat) (B : Nat) (s : St) (a : Slot) (b : Slot) (c : Slot) (K : Slot → St → Res) : upd2 A B s a b c K = bind2 (updateS (C.ti A) (C.ti B) s a b c) K := id rfl
@[congr] theorem Ql5 {A : Nat} {B : Nat} {s s' : St} {a a' : Slot} {b b' : Slot} {c c' : Slot} {K : Slot → St → Res} (h0 : s = s') (h1 : a = a') (h2 : b = b') (h3 : c = c') : upd2 A B s a b c K = upd2 A B s' a' b' c' K := by rw [h0, h1, h2, h3]
noncomputable def lk (A : Nat) (B : Nat) (s : St) (a : Slot) (b : Slot) (q : Bool) (K : Slot → Res) : Res := bind1 (lookupS (C.ti A) (C.ti B) s a b q) K
@[go_sem] theorem QoF (A : Nat) (B : Nat) (s : St) (a : Slot) (b : Slot) (q : Bool) (K : Slot → Res) : lk A B s a b q K = bind1 (lookupS (C.ti A) (C.ti B) s a b q) K := id rfl
@[congr] theorem Qn5 {A : Nat} {B : Nat} {q : Bool} {s s' : St} {a a' : Slot} {b b' : Slot} {K : Slot → Res} (h0 : s = s') (h1 : a = a') (h2 : b = b') : lk A B s a b q K = lk A B s' a' b' q K := by rw [h0, h1, h2]
noncomputable def bdL : List (Nat × Nat × Slot) → List (Nat × Nat × Slot)
 | [] => []
 | p :: r => (p.1, (C.ti p.2.1).size, p.2.2) :: bdL r
@[go_sem] theorem Qnz : bdL [] = [] := id rfl
@[go_sem] theorem Qme (a b : Nat) (v : Slot) (r : List (Nat × Nat × Slot)) : bdL ((a, b, v) :: r) = (a, (C.ti b).size, v) :: bdL r := id rfl
noncomputable def bd (T : Nat) (l : List (Nat × Nat × Slot)) (K : Slot → Res) : Res := bind1 (buildS (C.ti T).zero (bdL l)) K
@[go_sem] theorem Qod (T : Nat) (l : List (Nat × Nat × Slot)) (K : Slot → Res) : bd T l K = bind1 (buildS (C.ti T).zero (bdL l)) K := id rfl
@[congr] theorem Qmf {T : Nat} {l l' : List (Nat × Nat × Slot)} {K : Slot → Res} (h0 : l = l') : bd T l K = bd T l' K := by rw [h0]
noncomputable def rt (l : List (Option Slot)) (s : St) : Res := bind1 (tupS l) fun v => some (.ret v, s)
@[go_sem] theorem QoL (l : List (Option Slot)) (s : St) : rt l s = bind1 (tupS l) fun v => some (.ret v, s) := id rfl
@[reducible] def iv (n : Int) : Slot := .val (.int .i64 n)
@[go_sem] theorem QoC (n : Int) : iv n = .val (.int .i64 n) := id rfl
@[reducible] def bv (b : Bool) : Slot := .val (.bool b)
@[go_sem] theorem Qof (b : Bool) : bv b = .val (.bool b) := id rfl
@[reducible] def sv (l : List UInt8) : Slot := .val (.str l)
@[go_sem] theorem QoM (l : List UInt8) : sv l = .val (.str l) := id rfl
noncomputable def nx (x : Slot) (K : Slot → Res) : Res := bind1 (binS (C.ti Q1) .add x (.val (.int .i64 1))) K
@[go_sem] theorem QoH (x : Slot) (K : Slot → Res) : nx x K = bind1 (binS (C.ti Q1) .add x (.val (.int .i64 1))) K := id rfl
@[congr] theorem Qnb  {x x' : Slot} {K : Slot → Res} (h0 : x = x') : nx x K = nx x' K := by rw [h0]
@[reducible] noncomputable def lpD (f : FuncId) (p : List Step) (fn : Func) (e : Env) (s : St) : Res := loopR C false f p (body fn) e s (ctxR C false f p (body fn) (outK C fn.results.toList))
@[reducible] noncomputable def pwD (f : FuncId) (p : List Step) (fn : Func) (e : Env) (s : St) : Res := pw (run C false f (codeAt p (body fn)) e s (ctxR C false f p (body fn) (outK C fn.results.toList)))
end Go.Proofs.Ytoahliipbclneaa