/- A part of the proof: G1. -/
import Derived.Test.YtinphnakebeloaaGreatM3
import Derived.KernelRfl
import Derived.Test.YtinphnakebeloaaGreatProg
set_option linter.unusedVariables false
set_option linter.unusedSimpArgs false
namespace Go.Proofs.YtinphnakebeloaaGreat
open Go Go.Am
set_option linter.unusedVariables false
def tF : TI := { k := .func, size := 1, bytes := 8, zero := [.nilf] }
def tP : TI := { k := .ptr, size := 1, bytes := 8, zero := [.nilp] }
def tS (e : Nat) : TI := { k := .slice e, size := 1, bytes := 24, zero := [.nils] }
noncomputable def tis : List TI := [{}, tF, { k := .int .i64, size := 1, bytes := 8, zero := [.int .i64 0] }, { k := .int .i64, size := 1, bytes := 8, zero := [.int .i64 0] }, { k := .bool, size := 1, bytes := 1, zero := [.bool false] }, { k := .int .u8, size := 1, bytes := 1, zero := [.int .u8 0] }, { k := .int .u8, size := 1, bytes := 1, zero := [.int .u8 0] }, { k := .struct [(0, 2), (1, 3), (2, 4), (3, 6)], size := 4, bytes := 24, zero := [.int .i64 0, .int .i64 0, .bool false, .int .u8 0] }, { k := .struct [(0, 2), (1, 3), (2, 4), (3, 6)], size := 4, bytes := 24, zero := [.int .i64 0, .int .i64 0, .bool false, .int .u8 0] }, { k := .str, size := 1, bytes := 16, zero := [.str []] }, { k := .str, size := 1, bytes := 16, zero := [.str []] }, { k := .str, size := 1, bytes := 16, zero := [.str []] }, { k := .int .u64, size := 1, bytes := 8, zero := [.int .u64 0] }, { k := .struct [(0, 9), (1, 12)], size := 2, bytes := 24, zero := [.str [], .int .u64 0] }, { k := .struct [(0, 9), (1, 12)], size := 2, bytes := 24, zero := [.str [], .int .u64 0] }, tP, tP, tP, { k := .struct [(0, 17)], size := 1, bytes := 8, zero := [.nilp] }, { k := .struct [(0, 17)], size := 1, bytes := 8, zero := [.nilp] }, { k := .iface, size := 1, bytes := 16, zero := [.nili] }, { k := .int .i32, size := 1, bytes := 4, zero := [.int .i32 0] }, tS 38, tF, tF, { k := .int .i64, size := 1, bytes := 8, zero := [.int .i64 0] }, { k := .struct [(0, 25), (1, 3), (2, 9)], size := 3, bytes := 32, zero := [.int .i64 0, .int .i64 0, .str []] }, { k := .struct [(0, 25), (1, 3), (2, 9)], size := 3, bytes := 32, zero := [.int .i64 0, .int .i64 0, .str []], flat := [.int .i64, .int .i64, .str] }, tF, { k := .int .i64, size := 1, bytes := 8, zero := [.int .i64 0] }, tS 33, tS 78, { k := .struct [(0, 29), (1, 3), (2, 9), (3, 3), (4, 30), (5, 31), (6, 22)], size := 7, bytes := 112, zero := [.int .i64 0, .int .i64 0, .str [], .int .i64 0, .nils, .nils, .nils] }, { k := .struct [(0, 29), (1, 3), (2, 9), (3, 3), (4, 30), (5, 31), (6, 22)], size := 7, bytes := 112, zero := [.int .i64 0, .int .i64 0, .str [], .int .i64 0, .nils, .nils, .nils] }, { k := .int .i64, size := 1, bytes := 8, zero := [.int .i64 0] }, tS 105, tS 97, { k := .struct [(0, 34), (1, 3), (2, 9), (3, 3), (4, 35), (5, 31), (6, 36)], size := 7, bytes := 112, zero := [.int .i64 0, .int .i64 0, .str [], .int .i64 0, .nils, .nils, .nils] }, { k := .struct [(0, 34), (1, 3), (2, 9), (3, 3), (4, 35), (5, 31), (6, 36)], size := 7, bytes := 112, zero := [.int .i64 0, .int .i64 0, .str [], .int .i64 0, .nils, .nils, .nils] }, tF, { k := .int .i64, size := 1, bytes := 8, zero := [.int .i64 0] }, tS 43, { k := .struct [(0, 40), (1, 3), (2, 9), (3, 3), (4, 41)], size := 5, bytes := 64, zero := [.int .i64 0, .int .i64 0, .str [], .int .i64 0, .nils] }, { k := .struct [(0, 40), (1, 3), (2, 9), (3, 3), (4, 41)], size := 5, bytes := 64, zero := [.int .i64 0, .int .i64 0, .str [], .int .i64 0, .nils] }, tF, tS 9, tF, tF, tF, tF, tS 69, tS 69, {}, tF, tF, tP, { k := .map 9 3, size := 1, bytes := 8, zero := [.nilm] }, tF, tF, { k := .struct [(0, 56), (1, 27), (4, 57), (5, 58), (6, 4), (7, 4)], size := 8, bytes := 64, zero := [.nilm, .int .i64 0, .int .i64 0, .str [], .nilf, .nilf, .bool false, .bool false] }, { k := .struct [(0, 56), (1, 27), (4, 57), (5, 58), (6, 4), (7, 4)], size := 8, bytes := 64, zero := [.nilm, .int .i64 0, .int .i64 0, .str [], .nilf, .nilf, .bool false, .bool false] }, tF, { k := .int .i64, size := 1, bytes := 8, zero := [.int .i64 0] }, tS 65, { k := .struct [(0, 62), (1, 3), (2, 9), (3, 63)], size := 4, bytes := 56, zero := [.int .i64 0, .int .i64 0, .str [], .nils] }, { k := .struct [(0, 62), (1, 3), (2, 9), (3, 63)], size := 4, bytes := 56, zero := [.int .i64 0, .int .i64 0, .str [], .nils] }, { k := .struct [(0, 3), (1, 65)], size := 5, bytes := 64, zero := [.int .i64 0, .int .i64 0, .int .i64 0, .str [], .nils] }, { k := .struct [(0, 3), (1, 65)], size := 5, bytes := 64, zero := [.int .i64 0, .int .i64 0, .int .i64 0, .str [], .nils] }, { k := .struct [(0, 9), (1, 9), (2, 3), (3, 3), (4, 4), (5, 67)], size := 10, bytes := 120, zero := [.str [], .str [], .int .i64 0, .int .i64 0, .bool false, .int .i64 0, .int .i64 0, .int .i64 0, .str [], .nils] }, { k := .struct [(0, 9), (1, 9), (2, 3), (3, 3), (4, 4), (5, 67)], size := 10, bytes := 120, zero := [.str [], .str [], .int .i64 0, .int .i64 0, .bool false, .int .i64 0, .int .i64 0, .int .i64 0, .str [], .nils] }, {}, tF, tF, tF, tF, tF, tF, { k := .struct [(0, 43), (5, 33)], size := 12, bytes := 176, zero := [.int .i64 0, .int .i64 0, .str [], .int .i64 0, .nils, .int .i64 0, .int .i64 0, .str [], .int .i64 0, .nils, .nils, .nils] }, { k := .struct [(0, 43), (5, 33)], size := 12, bytes := 176, zero := [.int .i64 0, .int .i64 0, .str [], .int .i64 0, .nils, .int .i64 0, .int .i64 0, .str [], .int .i64 0, .nils, .nils, .nils] }, tF, tF, tF, tF, tF, tS 123, tF, tF, tF, tF, tF, tF, tF, tF, tF, tF, tF, { k := .struct [(0, 9), (1, 3), (2, 78)], size := 14, bytes := 200, zero := [.str [], .int .i64 0, .int .i64 0, .int .i64 0, .str [], .int .i64 0, .nils, .int .i64 0, .int .i64 0, .str [], .int .i64 0, .nils, .nils, .nils] }, { k := .struct [(0, 9), (1, 3), (2, 78)], size := 14, bytes := 200, zero := [.str [], .int .i64 0, .int .i64 0, .int .i64 0, .str [], .int .i64 0, .nils, .int .i64 0, .int .i64 0, .str [], .int .i64 0, .nils, .nils, .nils] }, tF, tF, tF, {}, {}, tF, { k := .struct [(0, 9), (1, 3), (2, 4), (3, 65)], size := 7, bytes := 88, zero := [.str [], .int .i64 0, .bool false, .int .i64 0, .int .i64 0, .str [], .nils] }, { k := .struct [(0, 9), (1, 3), (2, 4), (3, 65)], size := 7, bytes := 88, zero := [.str [], .int .i64 0, .bool false, .int .i64 0, .int .i64 0, .str [], .nils] }, {}, tF, tF, tF, tS 3, tF, {}, tF, tF, tF, tF, tF, tF, tF, tF, tF, { k := .struct [(0, 3), (1, 4), (2, 3), (3, 38), (10, 33), (17, 43), (22, 65), (26, 97), (40, 105)], size := 47, bytes := 656, zero := [.int .i64 0, .bool false, .int .i64 0, .int .i64 0, .int .i64 0, .str [], .int .i64 0, .nils, .nils, .nils, .int .i64 0, .int .i64 0, .str [], .int .i64 0, .nils, .nils, .nils, .int .i64 0, .int .i64 0, .str [], .int .i64 0, .nils, .int .i64 0, .int .i64 0, .str [], .nils, .str [], .int .i64 0, .int .i64 0, .int .i64 0, .str [], .int .i64 0, .nils, .int .i64 0, .int .i64 0, .str [], .int .i64 0, .nils, .nils, .nils, .str [], .int .i64 0, .bool false, .int .i64 0, .int .i64 0, .str [], .nils] }, { k := .struct [(0, 3), (1, 4), (2, 3), (3, 38), (10, 33), (17, 43), (22, 65), (26, 97), (40, 105)], size := 47, bytes := 656, zero := [.int .i64 0, .bool false, .int .i64 0, .int .i64 0, .int .i64 0, .str [], .int .i64 0, .nils, .nils, .nils, .int .i64 0, .int .i64 0, .str [], .int .i64 0, .nils, .nils, .nils, .int .i64 0, .int .i64 0, .str [], .int .i64 0, .nils, .int .i64 0, .int .i64 0, .str [], .nils, .str [], .int .i64 0, .int .i64 0, .int .i64 0, .str [], .int .i64 0, .nils, .int .i64 0, .int .i64 0, .str [], .int .i64 0, .nils, .nils, .nils, .str [], .int .i64 0, .bool false, .int .i64 0, .int .i64 0, .str [], .nils] }, tF, tF, tF, tS 1, tF, tF, tF, tF, tF, tF, tF, tP, tP, tP, tP, tP, tP, { k := .struct [(0, 135), (1, 4), (2, 136), (3, 137), (4, 138), (5, 139), (6, 140), (7, 3)], size := 8, bytes := 64, zero := [.nilp, .bool false, .nilp, .nilp, .nilp, .nilp, .nilp, .int .i64 0] }, { k := .struct [(0, 135), (1, 4), (2, 136), (3, 137), (4, 138), (5, 139), (6, 140), (7, 3)], size := 8, bytes := 64, zero := [.nilp, .bool false, .nilp, .nilp, .nilp, .nilp, .nilp, .int .i64 0] }, tF, tF, { k := .struct [(0, 144)], size := 1, bytes := 8, zero := [.nilf] }, { k := .struct [(0, 144)], size := 1, bytes := 8, zero := [.nilf] }, tF, tF, tF, tF, tF, tF, tF, tF, tF, tF, tF, tF, tF, tF, tF, tF, tF, tF, tF, tF, tF, tF, tF, tF, {}, tF, tF, {}, tF, tF, tF, tF, tF, tF, { k := .struct [(0, 4), (1, 4), (2, 4), (3, 4), (4, 3), (5, 3)], size := 6, bytes := 24, zero := [.bool false, .bool false, .bool false, .bool false, .int .i64 0, .int .i64 0] }, { k := .struct [(0, 4), (1, 4), (2, 4), (3, 4), (4, 3), (5, 3)], size := 6, bytes := 24, zero := [.bool false, .bool false, .bool false, .bool false, .int .i64 0, .int .i64 0] }, {}, tF, tF, tF, tF, tF, { k := .int .u64, size := 1, bytes := 8, zero := [.int .u64 0] }, { k := .int .u32, size := 1, bytes := 4, zero := [.int .u32 0] }, {}, tF, tF, { k := .struct [(0, 17), (1, 17), (2, 17), (3, 9)], size := 4, bytes := 40, zero := [.nilp, .nilp, .nilp, .str []] }, { k := .struct [(0, 17), (1, 17), (2, 17), (3, 9)], size := 4, bytes := 40, zero := [.nilp, .nilp, .nilp, .str []] }, { k := .array 0 16, size := 0, bytes := 0, zero := [] }, { k := .struct [(0, 196)], size := 0, bytes := 0, zero := [] }, { k := .struct [(0, 196)], size := 0, bytes := 0, zero := [] }, { k := .int .u8, size := 1, bytes := 1, zero := [.int .u8 0] }, { k := .int .u8, size := 1, bytes := 1, zero := [.int .u8 0] }, tF, tP, { k := .int .i32, size := 1, bytes := 4, zero := [.int .i32 0] }, { k := .int .i32, size := 1, bytes := 4, zero := [.int .i32 0] }, { k := .struct [(0, 12), (1, 12), (2, 190), (3, 199), (4, 5), (5, 5), (6, 200), (7, 201), (8, 202), (9, 203), (10, 204)], size := 11, bytes := 48, zero := [.int .u64 0, .int .u64 0, .int .u32 0, .int .u8 0, .int .u8 0, .int .u8 0, .int .u8 0, .nilf, .nilp, .int .i32 0, .int .i32 0] }, { k := .struct [(0, 12), (1, 12), (2, 190), (3, 199), (4, 5), (5, 5), (6, 200), (7, 201), (8, 202), (9, 203), (10, 204)], size := 11, bytes := 48, zero := [.int .u64 0, .int .u64 0, .int .u32 0, .int .u8 0, .int .u8 0, .int .u8 0, .int .u8 0, .nilf, .nilp, .int .i32 0, .int .i32 0] }, {}]
noncomputable def modes : List (Nat × Nat × AMode) := [(8, 6, .loc), (8, 7, .loc), (8, 28, .loc), (12, 3, .loc), (12, 11, .loc), (18, 1, .con), (34, 1, .con), (41, 3, .loc), (47, 4, .loc), (48, 1, .con), (54, 2, .con), (54, 3, .con), (60, 3, .con), (60, 4, .con), (60, 8, .loc), (61, 3, .con), (76, 1, .con), (83, 3, .loc), (88, 3, .con), (88, 5, .loc), (95, 7, .loc), (107, 1, .con)]
noncomputable def keeps : List (Nat × Nat × List Nat) := [(5, 5, [0, 15, 16, 17]), (8, 13, [2, 6, 7, 37, 38, 39]), (9, 10, [0, 2, 6, 7, 8]), (11, 5, [0, 1, 5]), (15, 7, [3, 4, 5]), (19, 4, [3, 4, 10, 11, 12]), (24, 3, [1, 4, 8, 9, 10]), (25, 5, [0, 3, 16, 17, 18]), (25, 15, [0, 7, 8, 44, 45, 46]), (26, 7, [3, 5, 6, 7, 8, 9, 10, 34, 35, 36]), (26, 26, [3, 5, 6, 7, 8, 9, 10, 13, 16, 17, 18, 90, 91, 92]), (28, 4, [0, 3, 4, 5]), (29, 8, [1, 2, 3, 4, 5, 6]), (30, 9, [0, 2, 4, 6, 9, 10]), (32, 6, [1, 3, 4]), (33, 10, [0, 3, 5, 8, 9]), (33, 19, [0, 3, 5, 8, 9, 10, 13, 14, 15]), (33, 33, [0, 3, 5, 8, 9, 10, 13, 14, 16, 17]), (38, 11, [0, 3, 4, 53, 54, 55]), (38, 16, [0, 3, 4, 67, 68, 69]), (38, 21, [0, 4, 78, 79, 80]), (38, 26, [88, 89, 90]), (40, 5, [1, 2, 3, 7]), (40, 13, [1, 2, 3, 7, 8, 10]), (40, 17, [1, 2, 3, 11]), (40, 21, [1, 2, 3, 12]), (41, 6, [1, 3, 4, 16, 17, 18]), (41, 9, [1, 3, 4, 16, 17, 18, 24, 25, 26]), (41, 16, [3, 4, 39, 40, 41]), (42, 3, [0, 1, 5]), (43, 7, [0, 4, 5]), (44, 4, [0, 3, 4]), (45, 4, [0, 3, 4]), (45, 8, [0, 3, 4, 5, 6]), (45, 12, [0, 3, 4, 5, 7]), (45, 16, [0, 3, 4, 5, 8]), (46, 4, [0, 3, 4]), (47, 7, [4]), (50, 4, [3, 11, 12, 13]), (50, 8, [3, 5, 6, 11, 12, 13, 21, 22, 23]), (50, 13, [3, 6, 11, 12, 13, 35, 36, 37]), (52, 4, [1, 2, 10, 11, 12]), (53, 11, [0, 2, 44, 45, 46]), (54, 3, [2, 3, 7, 8, 9]), (57, 4, [3, 9, 10, 11]), (58, 4, [3, 10, 11, 12]), (59, 6, [1, 2, 4, 11, 12]), (64, 11, [0, 2, 4, 6, 9]), (65, 9, [0, 2, 4, 6, 8]), (65, 16, [0, 2, 4, 6, 10]), (65, 22, [0, 2, 4, 6, 12]), (67, 6, [1, 3, 4]), (68, 4, [0, 3, 4]), (71, 3, [0, 1, 4, 6]), (72, 4, [0, 1, 5, 6]), (73, 4, [1, 2, 5, 6]), (78, 4, [3, 14, 15, 16]), (79, 3, [0, 1, 7, 8]), (80, 4, [1, 3, 4]), (80, 8, [1, 3, 5]), (80, 12, [1, 3, 6]), (81, 4, [1, 3, 4]), (81, 8, [1, 3, 5]), (83, 4, [3]), (85, 4, [2, 5, 6]), (85, 8, [2, 5, 7]), (85, 13, [2, 5, 8]), (86, 4, [1, 3, 4]), (87, 4, [1, 3, 4]), (88, 4, [3, 5]), (91, 3, [1, 2, 3, 14, 15]), (91, 9, [1, 2, 3, 8, 14, 15, 45, 46]), (91, 16, [1, 2, 3, 8, 14, 15, 80, 81]), (92, 4, [3, 6, 7, 8]), (93, 4, [3, 7, 8, 9]), (94, 4, [4, 5, 10, 11, 12]), (96, 2, [1, 4, 5, 6]), (97, 12, [3, 45, 46, 47]), (98, 6, [1, 4, 5, 23, 24, 25]), (100, 5, [2, 3, 9, 10, 11]), (102, 4, [1, 2, 3, 4]), (103, 4, [1, 4, 5, 6]), (105, 5, [1, 2, 29, 30]), (122, 3, [1, 2, 7, 8]), (123, 5, [1, 2, 3, 19, 20]), (124, 4, [3, 7, 8, 9]), (125, 4, [1, 3, 4]), (127, 5, [1, 2, 20, 21]), (133, 5, [0, 5]), (134, 3, [0, 1, 5]), (137, 3, [0, 3])]
noncomputable def cuts : List (Nat × Nat × List Nat) := [(26, 23, [3, 5, 6, 7, 8, 9, 10, 13]), (26, 38, [3, 5, 6, 7, 8, 9, 10, 13, 16, 17, 18, 20, 21, 22, 90, 91, 92]), (26, 44, [3, 5, 6, 7, 8, 9, 10, 13, 16, 17, 18, 20, 25, 90, 91, 92]), (26, 47, [5, 6, 18]), (32, 5, [1, 3]), (33, 8, [0, 3, 5]), (33, 30, [0, 3, 5, 8, 9, 10, 13, 14]), (33, 39, [0, 3, 5, 8, 9, 13, 14]), (38, 9, [0, 3]), (40, 4, [1, 2, 3]), (40, 11, [1, 2, 3, 7, 8, 9]), (41, 14, [1, 3, 4]), (43, 13, [0, 4, 5, 6, 7]), (53, 5, [0, 2, 4, 9, 10]), (53, 10, [0, 2, 4]), (64, 6, [0, 2, 4, 6]), (64, 10, [0, 2, 4, 6]), (65, 8, [0, 2, 4, 6]), (67, 5, [1, 3]), (74, 12, [5, 8, 9]), (89, 17, [1, 2, 3, 4]), (116, 14, [1, 3, 5, 7, 8]), (120, 16, [1, 3, 4, 5, 6]), (121, 18, [1, 3, 4, 5, 56, 61]), (121, 24, [3, 4, 5]), (129, 14, [5, 10]), (129, 20, [5, 18]), (132, 7, [4, 5]), (143, 5, [3])]
noncomputable def rankl : List (Nat × Nat × List Nat) := [(19, 7, [1, 0, 2]), (26, 18, [1, 2, 3, 4, 5, 0, 6]), (26, 47, [1, 0, 2]), (28, 7, [1, 0, 2]), (33, 6, [1, 2, 3, 4, 5, 0, 6]), (33, 14, [1, 2, 3, 4, 5, 0, 6]), (33, 28, [1, 2, 3, 4, 5, 0, 6]), (33, 34, [0, 1, 2, 3, 4, 5, 6, 7, 8, 9, 11, 10, 12]), (33, 36, [1, 2, 3, 4, 5, 0, 6]), (59, 9, [0, 1, 2, 3, 5, 6, 4, 7]), (74, 12, [1, 2, 0, 3]), (74, 14, [1, 2, 0, 3]), (84, 3, [0, 1, 2, 3, 4, 6, 7, 8, 5, 9]), (84, 5, [0, 1, 2, 4, 5, 6, 3, 7]), (84, 7, [0, 1, 2, 4, 5, 6, 3, 7]), (84, 9, [0, 1, 2, 4, 5, 6, 3, 7]), (84, 12, [1, 2, 3, 0, 4]), (84, 17, [1, 2, 3, 0, 4]), (89, 3, [0, 1, 2, 3, 4, 6, 7, 8, 9, 10, 5, 11]), (89, 5, [0, 1, 3, 4, 5, 6, 7, 2, 8]), (89, 11, [0, 1, 2, 3, 4, 6, 7, 8, 9, 10, 5, 11]), (89, 13, [0, 1, 2, 3, 4, 6, 7, 8, 9, 10, 5, 11]), (89, 15, [0, 1, 2, 3, 4, 6, 7, 8, 9, 10, 5, 11]), (97, 7, [1, 2, 0, 3]), (97, 9, [1, 2, 0, 3]), (108, 1, [0, 1, 2, 4, 5, 6, 8, 9, 10, 12, 13, 14, 3, 7, 11, 15]), (116, 2, [0, 1, 2, 3, 4, 5, 6, 7, 8, 9, 10, 23, 11, 12, 13, 14, 15, 16, 25, 26, 27, 28, 29, 30, 17, 18, 19, 20, 21, 32, 22, 24, 31, 33])]
noncomputable def drawl : List (Nat × Nat × Bool × List (Option Nat)) := [(4, 3, false, [some 2, none, some 2, none, none, none, some 3, none, some 3, none, none, none, none, none, none, none]), (7, 3, false, [some 1, none, none, some 1, some 2, none, none, none, none, some 4]), (11, 6, false, [none, none, none, none, none, none, none, none, none]), (19, 7, false, [some 8, none, some 3]), (26, 4, false, [none, some 3, none, none, none]), (26, 18, false, [none, some 3, none, some 3, none, none, some 5]), (26, 47, false, [some 18, none, some 5]), (28, 7, false, [some 7, none, some 3]), (29, 9, true, [none, none, none, none, none, none, none, none, none, none, none, none, none, none, none, none, none, none, none, none, none, none, none, none, none, none, none]), (30, 11, false, [none, none, none, none, some 11, none]), (30, 13, false, [none, none, some 11, none, none, none, none, none, some 12]), (33, 6, false, [none, some 3, none, some 3, none, none, some 5]), (33, 14, false, [none, some 10, none, some 10, none, none, some 5]), (33, 28, false, [none, some 10, none, some 10, none, none, some 5]), (33, 34, false, [none, some 3, none, none, none, none, none, none, none, none, none, none, none]), (33, 36, false, [none, none, some 10, none, none, none, some 5]), (38, 4, false, [none, none, none, none, none, some 3, none, none]), (38, 5, false, [none, none, none, none, none, some 3, none, some 3, none]), (38, 7, false, [none, none, none, none, none, some 3, none, some 3, none, some 3, none, none]), (39, 1, false, [some 1, none, some 1, none, none, some 2]), (40, 14, true, [none, some 8, none, none, none, none, none, none, none, some 8, none, none, none, none, none, none, none, none, none, none]), (40, 22, true, [none, some 3, none, none, none, none, none, none, some 3, none, none, none, none, none, none, none, none, none]), (45, 9, true, [none, none, none, none, none, none, none, none, none, none, none, none, none, none, none, none, none, none, none, none, none, none, none]), (45, 13, true, [none, none, none, none, none, none, none, none, none, none, none, none, none, none, none, none, none, none, none, none, none, none, none, none, none]), (52, 5, false, [none, some 1, none, some 4, none, none, none]), (53, 8, false, [none, none, none, none, none, some 4, none, some 4, none, some 4, none, none]), (59, 9, false, [none, some 1, none, none, none, some 1, some 2, none]), (66, 4, false, [none, none, some 4, none, none, none, none, some 6]), (74, 12, false, [none, some 5, none, none]), (74, 14, false, [none, some 5, none, none]), (78, 1, false, [none, some 1, none, none, some 1, none, none, none]), (81, 9, true, [none, none, some 1, none, none, none, none, none, none, some 1, none, none, none, none, none, none, none]), (83, 5, false, [none, none, some 4, none, none, none, none, none, none]), (84, 3, false, [none, some 1, none, some 1, none, none, none, some 1, none, none]), (84, 5, false, [none, some 1, none, none, none, some 1, none, none]), (84, 7, false, [none, some 1, none, none, none, some 1, none, none]), (84, 9, false, [none, some 1, none, none, none, some 1, none, none]), (84, 12, false, [none, none, some 1, none, none]), (84, 17, false, [none, none, some 1, none, none]), (85, 9, false, [none, none, some 2, none, none, none, none, some 2, none, none, none, none, none, none, none, none]), (89, 3, true, [none, some 1, none, none, none, none, some 1, none, none, none, none, none]), (89, 5, true, [some 1, none, none, some 1, none, none, none, none, none]), (89, 11, true, [none, some 1, none, none, none, none, some 1, none, none, none, none, none]), (89, 13, true, [none, some 1, none, none, none, none, some 1, none, none, none, none, none]), (89, 15, true, [none, some 1, none, none, none, none, some 1, none, none, none, none, none]), (91, 5, false, [none, some 3, none, none, none, none, none, none, none, none, none, none, some 3, none, none, none, none, none, none, none]), (91, 11, false, [none, some 3, none, none, none, none, none, none, none, none, none, some 3, none, none, none, none, none, none, none, none]), (91, 18, false, [none, some 3, none, none, none, none, none, none, none, none, none, none, none, none, none, none, some 3, none, none, none, none, none, none, none, none, none, none, none]), (92, 5, false, [none, none, some 5, none, none, some 5, none, none, none]), (94, 5, false, [none, some 5, some 7, none, none, none, none, some 5]), (97, 7, false, [none, some 4, none, none]), (97, 9, false, [none, some 4, none, none]), (98, 7, false, [none, some 5, some 7, none, none, none, none, none, some 5]), (100, 6, false, [none, some 3, some 5, none, none, none, none, some 3]), (102, 5, false, [none, some 3, none, some 1, none, none, none, none, none, none, none, some 3]), (103, 5, false, [none, some 5, none, none, none, none, none, none, none, none, some 5]), (105, 1, false, [none, some 2, none, none, none, none, none, none, none, none, none, some 2, none, none, none, none, none, none, none]), (105, 6, false, [some 2, none, none, none, none, none, none, none, none]), (105, 9, false, [some 2, none, none, none, none, none, none]), (106, 1, false, [none, some 1, none, none, some 1, none, none, none]), (108, 1, false, [none, some 2, none, none, some 2, none, none, some 2, none, none, some 2, none, none, none, none, none]), (116, 2, false, [none, none, none, none, none, none, none, none, none, none, none, none, none, none, none, none, none, none, none, none, none, none, none, none, none, none, none, none, none, none, none, none, none, none]), (122, 4, false, [some 2, none, none, none, none, none, none, none, some 2, none, none, none, none, none, none, none]), (123, 6, false, [some 3, none, none, none, none, none, none, none, none, none]), (127, 1, false, [none, some 2, none, none, none, none, none, none, none, none]), (127, 6, false, [some 2, none, none, none, none, none, none, none, none])]
noncomputable def frzs : List (Nat × Nat × List Nat) := [(52, 7, [1])]
noncomputable def codes : List (Nat × Func) := [(3, Tryz.f3), (4, Tryz.f4), (5, Tryz.f5), (6, Tryz.f6), (7, Tryz.f7), (8, Tryz.f8), (9, Tryz.f9), (10, Tryz.f10), (11, Tryz.f11), (12, Tryz.f12), (13, Tryz.f13), (14, Tryz.f14), (15, Tryz.f15), (16, Tryz.f16), (17, Tryz.f17), (18, Tryz.f18), (19, Tryz.f19), (20, Tryz.f20), (21, Tryz.f21), (22, Tryz.f22), (23, Tryz.f23), (24, Tryz.f24), (25, Tryz.f25), (26, Tryz.f26), (27, Tryz.f27), (28, Tryz.f28), (29, Tryz.f29), (30, Tryz.f30), (31, Tryz.f31), (32, Tryz.f32), (33, Tryz.f33), (34, Tryz.f34), (35, Tryz.f35), (36, Tryz.f36), (37, Tryz.f37), (38, Tryz.f38), (39, Tryz.f39), (40, Tryz.f40), (41, Tryz.f41), (42, Tryz.f42), (43, Tryz.f43), (44, Tryz.f44), (45, Tryz.f45), (46, Tryz.f46), (47, Tryz.f47), (48, Tryz.f48), (49, Tryz.f49), (50, Tryz.f50), (51, Tryz.f51), (52, Tryz.f52), (53, Tryz.f53), (54, Tryz.f54), (55, Tryz.f55), (56, Tryz.f56), (57, Tryz.f57), (58, Tryz.f58), (59, Tryz.f59), (60, Tryz.f60), (61, Tryz.f61), (62, Tryz.f62), (63, Tryz.f63), (64, Tryz.f64), (65, Tryz.f65), (66, Tryz.f66), (67, Tryz.f67), (68, Tryz.f68), (69, Tryz.f69), (70, Tryz.f70), (71, Tryz.f71), (72, Tryz.f72), (73, Tryz.f73), (74, Tryz.f74), (75, Tryz.f75), (76, Tryz.f76), (77, Tryz.f77), (78, Tryz.f78), (79, Tryz.f79), (80, Tryz.f80), (81, Tryz.f81), (82, Tryz.f82), (83, Tryz.f83), (84, Tryz.f84), (85, Tryz.f85), (86, Tryz.f86), (87, Tryz.f87), (88, Tryz.f88), (89, Tryz.f89), (90, Tryz.f90), (91, Tryz.f91), (92, Tryz.f92), (93, Tryz.f93), (94, Tryz.f94), (95, Tryz.f95), (96, Tryz.f96), (97, Tryz.f97), (98, Tryz.f98), (99, Tryz.f99), (100, Tryz.f100), (101, Tryz.f101), (102, Tryz.f102), (103, Tryz.f103), (104, Tryz.f104), (105, Tryz.f105), (106, Tryz.f106), (107, Tryz.f107), (108, Tryz.f108), (109, Tryz.f109), (110, Tryz.f110), (111, Tryz.f111), (112, Tryz.f112), (113, Tryz.f113), (114, Tryz.f114), (115, Tryz.f115), (116, Tryz.f116), (117, Tryz.f117), (118, Tryz.f118), (119, Tryz.f119), (120, Tryz.f120), (121, Tryz.f121), (122, Tryz.f122), (123, Tryz.f123), (124, Tryz.f124), (125, Tryz.f125), (126, Tryz.f126), (127, Tryz.f127), (128, Tryz.f128), (129, Tryz.f129), (130, Tryz.f130), (131, Tryz.f131), (132, Tryz.f132), (133, Tryz.f133), (134, Tryz.f134), (135, Tryz.f135), (136, Tryz.f136), (137, Tryz.f137), (139, Tryz.f139), (140, Tryz.f140), (141, Tryz.f141), (142, Tryz.f142), (143, Tryz.f143), (144, Tryz.f144), (145, Tryz.f145), (146, Tryz.f146)]
noncomputable def exts : List (Nat × (List AV → Option AV)) := [(138, extContains)]
noncomputable def C : Cfg where
 ti t := tis.getD t {}
 mode f d := findMode f d modes
 keep f r := findKeep f r keeps
 cut f r := findCut f r cuts
 draws f r := findDraw f r drawl
 ranks f r := findKeep f r rankl
 frz f r := findKeep f r frzs
 glob _ := none
 ints := [0]
 ext f := findExt f exts
 code f := findCode f codes
noncomputable abbrev cw : CallFn := callw C
def Qcn : List UInt8 := [32, 97, 110, 100, 32, 97, 110, 100, 97, 108, 115, 111, 32, 97, 115, 32, 99, 97, 115, 101, 32, 100, 97, 116, 97, 116, 121, 112, 101, 32, 100, 105, 118, 32, 101, 108, 115, 101, 32, 101, 110, 100, 32, 101, 120, 99, 101, 112, 116, 105, 111, 110, 32, 102, 110, 32, 102, 117, 110, 32, 104, 97, 110, 100, 108, 101, 32, 105, 102, 32, 105, 110, 32, 108, 101, 116, 32, 109, 111, 100, 32, 111, 102, 32, 111, 114, 101, 108, 115, 101, 32, 112, 114, 105, 110, 116, 32, 114, 97, 105, 115, 101, 32, 114, 101, 97, 100, 32, 114, 101, 102, 32, 116, 104, 101, 110, 32, 118, 97, 108, 32, 116, 114, 117, 101, 32, 102, 97, 108, 115, 101, 32, 95, 32]
abbrev T_0 : Nat := 0
abbrev Q09 : Nat := 1
abbrev Q2 : Nat := 3
abbrev Qk : Nat := 4
abbrev QI : Nat := 5
abbrev Q1 : Nat := 9
abbrev Qs : Nat := 22
abbrev Qo : Nat := 25
abbrev Q3 : Nat := 27
abbrev Q4 : Nat := 29
abbrev Qu : Nat := 30
abbrev Qe : Nat := 31
abbrev Qn : Nat := 33
abbrev Qc : Nat := 34
abbrev Qv : Nat := 35
abbrev Qx : Nat := 36
abbrev Qi : Nat := 38
abbrev Qg : Nat := 40
abbrev Qt : Nat := 41
abbrev Qp : Nat := 43
abbrev Qf : Nat := 45
abbrev Q2H : Nat := 50
abbrev Z5 : Nat := 51
abbrev QM : Nat := 55
abbrev Qy : Nat := 56
abbrev Qw : Nat := 57
abbrev QG : Nat := 58
abbrev Q48 : Nat := 60
abbrev Qm : Nat := 62
abbrev Qj : Nat := 63
abbrev Q6 : Nat := 65
abbrev ZS : Nat := 67
abbrev Q8 : Nat := 69
abbrev Qr : Nat := 78
abbrev Zx : Nat := 84
abbrev QU : Nat := 97
abbrev Z4 : Nat := 105
abbrev Qd : Nat := 123
abbrev Q32 : Nat := 127
abbrev Q2m : Nat := 135
abbrev Q1m : Nat := 136
abbrev Q0K : Nat := 137
abbrev Q2n : Nat := 138
abbrev Q0q : Nat := 139
abbrev Q5q : Nat := 140
abbrev QN : Nat := 142
abbrev Ql : Nat := 144
abbrev Qz : Nat := 146
abbrev Qq : Nat := 151
abbrev Q0 : Nat := 182
abbrev Q2u : Nat := 3
abbrev Qk4 : Nat := 4
abbrev Qk7 : Nat := 5
abbrev Q8d : Nat := 6
abbrev Q3y : Nat := 7
abbrev Q08 : Nat := 8
abbrev Q3D : Nat := 9
abbrev Q2l : Nat := 10
abbrev Q2E : Nat := 11
abbrev Q6H : Nat := 12
abbrev Qmq : Nat := 13
abbrev Q5K : Nat := 14
abbrev Qm2 : Nat := 15
abbrev Q5H : Nat := 16
abbrev Q6F : Nat := 17
abbrev Q3Y : Nat := 18
abbrev Q7v : Nat := 19
abbrev Q3T : Nat := 20
abbrev Q0Q : Nat := 21
abbrev QK : Nat := 22
abbrev Q0R : Nat := 23
abbrev Q5f : Nat := 24
abbrev ZQ : Nat := 25
abbrev ZB : Nat := 26
abbrev QQ : Nat := 27
abbrev Q6q : Nat := 28
abbrev Q27 : Nat := 29
abbrev Q3g : Nat := 30
abbrev Q1W : Nat := 31
abbrev Q07 : Nat := 32
abbrev Zy : Nat := 33
abbrev Q3Z : Nat := 34
abbrev Q0o : Nat := 35
abbrev QX : Nat := 36
abbrev Q1k : Nat := 37
abbrev QD : Nat := 38
abbrev Qk8 : Nat := 39
abbrev Qmr : Nat := 40
abbrev Zc : Nat := 41
abbrev Q2Y : Nat := 42
abbrev Q26 : Nat := 43
abbrev Q3X : Nat := 44
abbrev ZC : Nat := 45
abbrev Q25 : Nat := 46
abbrev Q2G : Nat := 47
abbrev Q4Z : Nat := 48
abbrev Q4X : Nat := 49
abbrev Zj : Nat := 50
abbrev ZW : Nat := 51
abbrev Q1e : Nat := 52
abbrev QW : Nat := 53
abbrev Ze : Nat := 54
abbrev Q0b : Nat := 55
abbrev Q0S : Nat := 56
abbrev Q3x : Nat := 57
abbrev Q3U : Nat := 58
abbrev Q3f : Nat := 59
abbrev Q6E : Nat := 60
abbrev QbK : Nat := 61
abbrev QdH : Nat := 62
abbrev Q3B : Nat := 63
abbrev Q0i : Nat := 64
abbrev Zz : Nat := 65
abbrev Q5i : Nat := 66
abbrev Q0y : Nat := 67
abbrev Q1j : Nat := 68
abbrev Q1V : Nat := 69
abbrev Q28 : Nat := 70
abbrev Q2D : Nat := 71
abbrev Q2C : Nat := 72
abbrev ZX : Nat := 73
abbrev Q3C : Nat := 74
abbrev Q92 : Nat := 75
abbrev Q3a : Nat := 76
abbrev Q39 : Nat := 77
abbrev ZR : Nat := 78
abbrev Z7 : Nat := 79
abbrev Q06 : Nat := 80
abbrev Zg : Nat := 81
abbrev Zi : Nat := 82
abbrev Q3h : Nat := 83
abbrev Q5J : Nat := 84
abbrev Q05 : Nat := 85
abbrev Zh : Nat := 86
abbrev Q0n : Nat := 87
abbrev Q40 : Nat := 88
abbrev Q0U : Nat := 89
abbrev Q3G : Nat := 90
abbrev Za : Nat := 91
abbrev Zs : Nat := 92
abbrev Q0J : Nat := 93
abbrev Q50 : Nat := 94
abbrev Zv : Nat := 95
abbrev QE : Nat := 96
abbrev Q1f : Nat := 97
abbrev Q3i : Nat := 98
abbrev Q93 : Nat := 99
abbrev Q51 : Nat := 100
abbrev Q5h : Nat := 101
abbrev Zu : Nat := 102
abbrev Q6p : Nat := 103
abbrev Q2v : Nat := 104
abbrev Zw : Nat := 105
abbrev Q1g : Nat := 106
abbrev Q4Y : Nat := 107
abbrev Q8e : Nat := 108
abbrev Q8f : Nat := 109
abbrev Q8g : Nat := 110
abbrev Q91 : Nat := 111
abbrev Q19 : Nat := 112
abbrev Q4W : Nat := 113
abbrev Q2z : Nat := 114
abbrev Q3b : Nat := 115
abbrev Q00 : Nat := 116
abbrev Q1X : Nat := 117
abbrev Q45 : Nat := 118
abbrev Q46 : Nat := 119
abbrev Q2A : Nat := 120
abbrev Q1l : Nat := 121
abbrev Zl : Nat := 122
abbrev Zm : Nat := 123
abbrev Q0p : Nat := 124
abbrev Q0I : Nat := 125
abbrev Z9 : Nat := 126
abbrev QV : Nat := 127
abbrev Q0P : Nat := 128
abbrev Q1h : Nat := 129
abbrev Q5g : Nat := 130
abbrev Q3A : Nat := 131
abbrev Q3W : Nat := 132
abbrev Q1i : Nat := 133
abbrev Q3z : Nat := 134
abbrev Q5I : Nat := 135
abbrev Q44 : Nat := 136
abbrev Q43 : Nat := 137
abbrev Q2F : Nat := 138
abbrev Q2Z : Nat := 139
abbrev Q9x : Nat := 140
abbrev Q0T : Nat := 141
abbrev Q42 : Nat := 142
abbrev Q3V : Nat := 143
abbrev Q4V : Nat := 144
abbrev Q6G : Nat := 145
abbrev Q41 : Nat := 146
@[go_sem] theorem Q9z : (C.ti Q09).size = 1 := by kernel_rfl
@[go_sem] theorem QpC : (C.ti Q09).k = .func := by kernel_rfl
@[go_sem] theorem Qng : (C.ti Q09).isAgg = false := by kernel_rfl
@[go_sem] theorem Qmo : (C.ti Q09).isGood = true := by kernel_rfl
@[go_sem] theorem QdI : (C.ti Q09).bytes = 8 := by kernel_rfl
@[go_sem] theorem Qmp : (C.ti Q09).zero = [.nilf] := by kernel_rfl
@[go_sem] theorem Qis : (C.ti Q2).size = 1 := by kernel_rfl
@[go_sem] theorem Q30 : (C.ti Q2).k = .int .i64 := by kernel_rfl
@[go_sem] theorem Qjc : (C.ti Q2).isAgg = false := by kernel_rfl
@[go_sem] theorem Qir : (C.ti Q2).isGood = true := by kernel_rfl
@[go_sem] theorem Qit : (C.ti Q2).zero = [.int .i64 0] := by kernel_rfl
@[go_sem] theorem QoC : (C.ti Qk).size = 1 := by kernel_rfl
@[go_sem] theorem Qkb : (C.ti Qk).k = .bool := by kernel_rfl
@[go_sem] theorem Qpw : (C.ti Qk).isAgg = false := by kernel_rfl
@[go_sem] theorem QoB : (C.ti Qk).isGood = true := by kernel_rfl
@[go_sem] theorem QoD : (C.ti Qk).zero = [.bool false] := by kernel_rfl
@[go_sem] theorem Qnc : (C.ti QI).size = 1 := by kernel_rfl
@[go_sem] theorem QrP : (C.ti QI).k = .int .u8 := by kernel_rfl
@[go_sem] theorem QoF : (C.ti QI).isAgg = false := by kernel_rfl
@[go_sem] theorem Qnb : (C.ti QI).isGood = true := by kernel_rfl
@[go_sem] theorem Qnd : (C.ti QI).zero = [.int .u8 0] := by kernel_rfl
@[go_sem] theorem Zd : (C.ti Q1).size = 1 := by kernel_rfl
@[go_sem] theorem QF : (C.ti Q1).k = .str := by kernel_rfl
@[go_sem] theorem Qn7 : (C.ti Q1).isAgg = false := by kernel_rfl
@[go_sem] theorem Qmj : (C.ti Q1).isGood = true := by kernel_rfl
@[go_sem] theorem Q31 : (C.ti Q1).bytes = 16 := by kernel_rfl
@[go_sem] theorem Qmk : (C.ti Q1).zero = [.str []] := by kernel_rfl
@[go_sem] theorem QmR : (C.ti Qs).size = 1 := by kernel_rfl
@[go_sem] theorem Qez : (C.ti Qs).k = .slice 38 := by kernel_rfl
@[go_sem] theorem Qos : (C.ti Qs).isAgg = false := by kernel_rfl
@[go_sem] theorem QmQ : (C.ti Qs).isGood = true := by kernel_rfl
@[go_sem] theorem QmS : (C.ti Qs).zero = [.nils] := by kernel_rfl
@[go_sem] theorem Qmt : (C.ti Qo).size = 1 := by kernel_rfl
@[go_sem] theorem QrD : (C.ti Qo).k = .int .i64 := by kernel_rfl
@[go_sem] theorem Qoi : (C.ti Qo).isAgg = false := by kernel_rfl
@[go_sem] theorem Qms : (C.ti Qo).isGood = true := by kernel_rfl
@[go_sem] theorem Qmu : (C.ti Qo).zero = [.int .i64 0] := by kernel_rfl
@[go_sem] theorem Qpb : (C.ti Q3).size = 3 := by kernel_rfl
@[go_sem] theorem Qla : (C.ti Q3).k = .struct [(0, 25), (1, 3), (2, 9)] := by kernel_rfl
@[go_sem] theorem QrC : (C.ti Q3).isAgg = true := by kernel_rfl
@[go_sem] theorem Qpa : (C.ti Q3).isGood = true := by kernel_rfl
@[go_sem] theorem Qpc : (C.ti Q3).zero = [.int .i64 0, .int .i64 0, .str []] := by kernel_rfl
@[go_sem] theorem Qip : (C.ti Q3).flat = [.int .i64, .int .i64, .str] := by kernel_rfl
@[go_sem] theorem Qlg : (C.ti Q4).size = 1 := by kernel_rfl
@[go_sem] theorem Qhq : (C.ti Q4).k = .int .i64 := by kernel_rfl
@[go_sem] theorem Qm4 : (C.ti Q4).isAgg = false := by kernel_rfl
@[go_sem] theorem Qlf : (C.ti Q4).isGood = true := by kernel_rfl
@[go_sem] theorem Qlh : (C.ti Q4).zero = [.int .i64 0] := by kernel_rfl
@[go_sem] theorem QmU : (C.ti Qu).size = 1 := by kernel_rfl
@[go_sem] theorem Qj7 : (C.ti Qu).k = .slice 33 := by kernel_rfl
@[go_sem] theorem Qot : (C.ti Qu).isAgg = false := by kernel_rfl
@[go_sem] theorem QmT : (C.ti Qu).isGood = true := by kernel_rfl
@[go_sem] theorem QmV : (C.ti Qu).zero = [.nils] := by kernel_rfl
@[go_sem] theorem Qma : (C.ti Qe).size = 1 := by kernel_rfl
@[go_sem] theorem Qcp : (C.ti Qe).k = .slice 78 := by kernel_rfl
@[go_sem] theorem QmM : (C.ti Qe).isAgg = false := by kernel_rfl
@[go_sem] theorem Qm9 : (C.ti Qe).isGood = true := by kernel_rfl
@[go_sem] theorem Qmb : (C.ti Qe).zero = [.nils] := by kernel_rfl
@[go_sem] theorem Qpk : (C.ti Qn).size = 7 := by kernel_rfl
@[go_sem] theorem Qi1 : (C.ti Qn).k = .struct [(0, 29), (1, 3), (2, 9), (3, 3), (4, 30), (5, 31), (6, 22)] := by kernel_rfl
@[go_sem] theorem Qj3 : (C.ti Qn).isAgg = true := by kernel_rfl
@[go_sem] theorem Qpj : (C.ti Qn).isGood = true := by kernel_rfl
@[go_sem] theorem Qpl : (C.ti Qn).zero = [.int .i64 0, .int .i64 0, .str [], .int .i64 0, .nils, .nils, .nils] := by kernel_rfl
@[go_sem] theorem Qld : (C.ti Qc).size = 1 := by kernel_rfl
@[go_sem] theorem Qhp : (C.ti Qc).k = .int .i64 := by kernel_rfl
@[go_sem] theorem Qm3 : (C.ti Qc).isAgg = false := by kernel_rfl
@[go_sem] theorem Qlc : (C.ti Qc).isGood = true := by kernel_rfl
@[go_sem] theorem Qle : (C.ti Qc).zero = [.int .i64 0] := by kernel_rfl
@[go_sem] theorem QmO : (C.ti Qv).size = 1 := by kernel_rfl
@[go_sem] theorem Qj6 : (C.ti Qv).k = .slice 105 := by kernel_rfl
@[go_sem] theorem Qor : (C.ti Qv).isAgg = false := by kernel_rfl
@[go_sem] theorem QmN : (C.ti Qv).isGood = true := by kernel_rfl
@[go_sem] theorem QmP : (C.ti Qv).zero = [.nils] := by kernel_rfl
@[go_sem] theorem QmX : (C.ti Qx).size = 1 := by kernel_rfl
@[go_sem] theorem Qj8 : (C.ti Qx).k = .slice 97 := by kernel_rfl
@[go_sem] theorem Qou : (C.ti Qx).isAgg = false := by kernel_rfl
@[go_sem] theorem QmW : (C.ti Qx).isGood = true := by kernel_rfl
@[go_sem] theorem QmY : (C.ti Qx).zero = [.nils] := by kernel_rfl
@[go_sem] theorem Qph : (C.ti Qi).size = 7 := by kernel_rfl
@[go_sem] theorem Qi0 : (C.ti Qi).k = .struct [(0, 34), (1, 3), (2, 9), (3, 3), (4, 35), (5, 31), (6, 36)] := by kernel_rfl
@[go_sem] theorem Qey : (C.ti Qi).isAgg = true := by kernel_rfl
@[go_sem] theorem Qpg : (C.ti Qi).isGood = true := by kernel_rfl
@[go_sem] theorem Qpi : (C.ti Qi).zero = [.int .i64 0, .int .i64 0, .str [], .int .i64 0, .nils, .nils, .nils] := by kernel_rfl
@[go_sem] theorem Qlk : (C.ti Qg).size = 1 := by kernel_rfl
@[go_sem] theorem Qhr : (C.ti Qg).k = .int .i64 := by kernel_rfl
@[go_sem] theorem Qm8 : (C.ti Qg).isAgg = false := by kernel_rfl
@[go_sem] theorem Qlj : (C.ti Qg).isGood = true := by kernel_rfl
@[go_sem] theorem Qll : (C.ti Qg).zero = [.int .i64 0] := by kernel_rfl
@[go_sem] theorem Qn0 : (C.ti Qt).size = 1 := by kernel_rfl
@[go_sem] theorem Qj9 : (C.ti Qt).k = .slice 43 := by kernel_rfl
@[go_sem] theorem Qov : (C.ti Qt).isAgg = false := by kernel_rfl
@[go_sem] theorem QmZ : (C.ti Qt).isGood = true := by kernel_rfl
@[go_sem] theorem Qn1 : (C.ti Qt).zero = [.nils] := by kernel_rfl
@[go_sem] theorem Qps : (C.ti Qp).size = 5 := by kernel_rfl
@[go_sem] theorem Qi2 : (C.ti Qp).k = .struct [(0, 40), (1, 3), (2, 9), (3, 3), (4, 41)] := by kernel_rfl
@[go_sem] theorem Qj5 : (C.ti Qp).isAgg = true := by kernel_rfl
@[go_sem] theorem Qpr : (C.ti Qp).isGood = true := by kernel_rfl
@[go_sem] theorem Qpt : (C.ti Qp).zero = [.int .i64 0, .int .i64 0, .str [], .int .i64 0, .nils] := by kernel_rfl
@[go_sem] theorem Ql4 : (C.ti Qf).size = 1 := by kernel_rfl
@[go_sem] theorem Qa3 : (C.ti Qf).k = .slice 9 := by kernel_rfl
@[go_sem] theorem Qlp : (C.ti Qf).isAgg = false := by kernel_rfl
@[go_sem] theorem Ql3 : (C.ti Qf).isGood = true := by kernel_rfl
@[go_sem] theorem Ql5 : (C.ti Qf).zero = [.nils] := by kernel_rfl
@[go_sem] theorem Qln : (C.ti Q2H).size = 1 := by kernel_rfl
@[go_sem] theorem Qow : (C.ti Q2H).k = .slice 69 := by kernel_rfl
@[go_sem] theorem Qmc : (C.ti Q2H).isAgg = false := by kernel_rfl
@[go_sem] theorem Qlm : (C.ti Q2H).isGood = true := by kernel_rfl
@[go_sem] theorem Qlo : (C.ti Q2H).zero = [.nils] := by kernel_rfl
@[go_sem] theorem Qn4 : (C.ti Z5).size = 1 := by kernel_rfl
@[go_sem] theorem QrK : (C.ti Z5).k = .slice 69 := by kernel_rfl
@[go_sem] theorem QoA : (C.ti Z5).isAgg = false := by kernel_rfl
@[go_sem] theorem Qn3 : (C.ti Z5).isGood = true := by kernel_rfl
@[go_sem] theorem Qn5 : (C.ti Z5).zero = [.nils] := by kernel_rfl
@[go_sem] theorem Qm6 : (C.ti QM).size = 1 := by kernel_rfl
@[go_sem] theorem Qpq : (C.ti QM).k = .ptr := by kernel_rfl
@[go_sem] theorem QmK : (C.ti QM).isAgg = false := by kernel_rfl
@[go_sem] theorem Qm5 : (C.ti QM).isGood = true := by kernel_rfl
@[go_sem] theorem Qm7 : (C.ti QM).zero = [.nilp] := by kernel_rfl
@[go_sem] theorem Qhn : (C.ti Qy).size = 1 := by kernel_rfl
@[go_sem] theorem Qiu : (C.ti Qy).k = .map 9 3 := by kernel_rfl
@[go_sem] theorem Qht : (C.ti Qy).isAgg = false := by kernel_rfl
@[go_sem] theorem Qhm : (C.ti Qy).isGood = true := by kernel_rfl
@[go_sem] theorem Qho : (C.ti Qy).zero = [.nilm] := by kernel_rfl
@[go_sem] theorem QdK : (C.ti Qw).size = 1 := by kernel_rfl
@[go_sem] theorem QfR : (C.ti Qw).k = .func := by kernel_rfl
@[go_sem] theorem QeA : (C.ti Qw).isAgg = false := by kernel_rfl
@[go_sem] theorem QdJ : (C.ti Qw).isGood = true := by kernel_rfl
@[go_sem] theorem QdL : (C.ti Qw).zero = [.nilf] := by kernel_rfl
@[go_sem] theorem Qg0 : (C.ti QG).size = 1 := by kernel_rfl
@[go_sem] theorem Qi3 : (C.ti QG).k = .func := by kernel_rfl
@[go_sem] theorem Qhl : (C.ti QG).isAgg = false := by kernel_rfl
@[go_sem] theorem QfZ : (C.ti QG).isGood = true := by kernel_rfl
@[go_sem] theorem Qg1 : (C.ti QG).zero = [.nilf] := by kernel_rfl
@[go_sem] theorem QoH : (C.ti Q48).size = 8 := by kernel_rfl
@[go_sem] theorem Qsy : (C.ti Q48).k = .struct [(0, 56), (1, 27), (4, 57), (5, 58), (6, 4), (7, 4)] := by kernel_rfl
@[go_sem] theorem QpA : (C.ti Q48).isAgg = true := by kernel_rfl
@[go_sem] theorem QoG : (C.ti Q48).isGood = true := by kernel_rfl
@[go_sem] theorem QoI : (C.ti Q48).zero = [.nilm, .int .i64 0, .int .i64 0, .str [], .nilf, .nilf, .bool false, .bool false] := by kernel_rfl
@[go_sem] theorem Qmh : (C.ti Qm).size = 1 := by kernel_rfl
@[go_sem] theorem Qiq : (C.ti Qm).k = .int .i64 := by kernel_rfl
@[go_sem] theorem Qn6 : (C.ti Qm).isAgg = false := by kernel_rfl
@[go_sem] theorem Qmg : (C.ti Qm).isGood = true := by kernel_rfl
@[go_sem] theorem Qmi : (C.ti Qm).zero = [.int .i64 0] := by kernel_rfl
@[go_sem] theorem Qoy : (C.ti Qj).size = 1 := by kernel_rfl
@[go_sem] theorem Q95 : (C.ti Qj).k = .slice 65 := by kernel_rfl
@[go_sem] theorem Qpu : (C.ti Qj).isAgg = false := by kernel_rfl
@[go_sem] theorem Qox : (C.ti Qj).isGood = true := by kernel_rfl
@[go_sem] theorem Qoz : (C.ti Qj).zero = [.nils] := by kernel_rfl
@[go_sem] theorem ZY : (C.ti Q6).size = 4 := by kernel_rfl
@[go_sem] theorem Qjb : (C.ti Q6).k = .struct [(0, 62), (1, 3), (2, 9), (3, 63)] := by kernel_rfl
@[go_sem] theorem QfX : (C.ti Q6).isAgg = true := by kernel_rfl
@[go_sem] theorem QrL : (C.ti Q6).isGood = true := by kernel_rfl
@[go_sem] theorem Qcq : (C.ti Q6).bytes = 56 := by kernel_rfl
@[go_sem] theorem QrM : (C.ti Q6).zero = [.int .i64 0, .int .i64 0, .str [], .nils] := by kernel_rfl
@[go_sem] theorem Qme : (C.ti ZS).size = 5 := by kernel_rfl
@[go_sem] theorem Qpv : (C.ti ZS).k = .struct [(0, 3), (1, 65)] := by kernel_rfl
@[go_sem] theorem Qn2 : (C.ti ZS).isAgg = true := by kernel_rfl
@[go_sem] theorem Qmd : (C.ti ZS).isGood = true := by kernel_rfl
@[go_sem] theorem Qmf : (C.ti ZS).zero = [.int .i64 0, .int .i64 0, .int .i64 0, .str [], .nils] := by kernel_rfl
@[go_sem] theorem Q47 : (C.ti Q8).size = 10 := by kernel_rfl
@[go_sem] theorem QrJ : (C.ti Q8).k = .struct [(0, 9), (1, 9), (2, 3), (3, 3), (4, 4), (5, 67)] := by kernel_rfl
@[go_sem] theorem Qhs : (C.ti Q8).isAgg = true := by kernel_rfl
@[go_sem] theorem QmL : (C.ti Q8).isGood = true := by kernel_rfl
@[go_sem] theorem Q9y : (C.ti Q8).bytes = 120 := by kernel_rfl
@[go_sem] theorem QfW : (C.ti Q8).zero = [.str [], .str [], .int .i64 0, .int .i64 0, .bool false, .int .i64 0, .int .i64 0, .int .i64 0, .str [], .nils] := by kernel_rfl
@[go_sem] theorem Qog : (C.ti Qr).size = 12 := by kernel_rfl
@[go_sem] theorem Qk9 : (C.ti Qr).k = .struct [(0, 43), (5, 33)] := by kernel_rfl
@[go_sem] theorem Qco : (C.ti Qr).isAgg = true := by kernel_rfl
@[go_sem] theorem Qof : (C.ti Qr).isGood = true := by kernel_rfl
@[go_sem] theorem Qoh : (C.ti Qr).zero = [.int .i64 0, .int .i64 0, .str [], .int .i64 0, .nils, .int .i64 0, .int .i64 0, .str [], .int .i64 0, .nils, .nils, .nils] := by kernel_rfl
@[go_sem] theorem Qj0 : (C.ti Zx).size = 1 := by kernel_rfl
@[go_sem] theorem Qka : (C.ti Zx).k = .slice 123 := by kernel_rfl
@[go_sem] theorem Qja : (C.ti Zx).isAgg = false := by kernel_rfl
@[go_sem] theorem QiZ : (C.ti Zx).isGood = true := by kernel_rfl
@[go_sem] theorem Qj1 : (C.ti Zx).zero = [.nils] := by kernel_rfl
@[go_sem] theorem Qpn : (C.ti QU).size = 14 := by kernel_rfl
@[go_sem] theorem Qli : (C.ti QU).k = .struct [(0, 9), (1, 3), (2, 78)] := by kernel_rfl
@[go_sem] theorem Qj4 : (C.ti QU).isAgg = true := by kernel_rfl
@[go_sem] theorem Qpm : (C.ti QU).isGood = true := by kernel_rfl
@[go_sem] theorem Qpo : (C.ti QU).zero = [.str [], .int .i64 0, .int .i64 0, .int .i64 0, .str [], .int .i64 0, .nils, .int .i64 0, .int .i64 0, .str [], .int .i64 0, .nils, .nils, .nils] := by kernel_rfl
@[go_sem] theorem Qpe : (C.ti Z4).size = 7 := by kernel_rfl
@[go_sem] theorem Qlb : (C.ti Z4).k = .struct [(0, 9), (1, 3), (2, 4), (3, 65)] := by kernel_rfl
@[go_sem] theorem Qj2 : (C.ti Z4).isAgg = true := by kernel_rfl
@[go_sem] theorem Qpd : (C.ti Z4).isGood = true := by kernel_rfl
@[go_sem] theorem Qpf : (C.ti Z4).zero = [.str [], .int .i64 0, .bool false, .int .i64 0, .int .i64 0, .str [], .nils] := by kernel_rfl
@[go_sem] theorem Q5Q : (C.ti Qd).size = 47 := by kernel_rfl
@[go_sem] theorem Qlq : (C.ti Qd).k = .struct [(0, 3), (1, 4), (2, 3), (3, 38), (10, 33), (17, 43), (22, 65), (26, 97), (40, 105)] := by kernel_rfl
@[go_sem] theorem Qkc : (C.ti Qd).isAgg = true := by kernel_rfl
@[go_sem] theorem Qk5 : (C.ti Qd).isGood = true := by kernel_rfl
@[go_sem] theorem Qa4 : (C.ti Qd).bytes = 656 := by kernel_rfl
@[go_sem] theorem Qk6 : (C.ti Qd).zero = [.int .i64 0, .bool false, .int .i64 0, .int .i64 0, .int .i64 0, .str [], .int .i64 0, .nils, .nils, .nils, .int .i64 0, .int .i64 0, .str [], .int .i64 0, .nils, .nils, .nils, .int .i64 0, .int .i64 0, .str [], .int .i64 0, .nils, .int .i64 0, .int .i64 0, .str [], .nils, .str [], .int .i64 0, .int .i64 0, .int .i64 0, .str [], .int .i64 0, .nils, .int .i64 0, .int .i64 0, .str [], .int .i64 0, .nils, .nils, .nils, .str [], .int .i64 0, .bool false, .int .i64 0, .int .i64 0, .str [], .nils] := by kernel_rfl
@[go_sem] theorem Ql7 : (C.ti Q32).size = 1 := by kernel_rfl
@[go_sem] theorem Qnf : (C.ti Q32).k = .slice 1 := by kernel_rfl
@[go_sem] theorem Qlr : (C.ti Q32).isAgg = false := by kernel_rfl
@[go_sem] theorem Ql6 : (C.ti Q32).isGood = true := by kernel_rfl
@[go_sem] theorem Ql8 : (C.ti Q32).zero = [.nils] := by kernel_rfl
@[go_sem] theorem Qmz : (C.ti Q2m).size = 1 := by kernel_rfl
@[go_sem] theorem QrF : (C.ti Q2m).k = .ptr := by kernel_rfl
@[go_sem] theorem Qok : (C.ti Q2m).isAgg = false := by kernel_rfl
@[go_sem] theorem Qmy : (C.ti Q2m).isGood = true := by kernel_rfl
@[go_sem] theorem QmA : (C.ti Q2m).zero = [.nilp] := by kernel_rfl
@[go_sem] theorem QmF : (C.ti Q1m).size = 1 := by kernel_rfl
@[go_sem] theorem QrH : (C.ti Q1m).k = .ptr := by kernel_rfl
@[go_sem] theorem Qom : (C.ti Q1m).isAgg = false := by kernel_rfl
@[go_sem] theorem QmE : (C.ti Q1m).isGood = true := by kernel_rfl
@[go_sem] theorem QmG : (C.ti Q1m).zero = [.nilp] := by kernel_rfl
@[go_sem] theorem Qmw : (C.ti Q0K).size = 1 := by kernel_rfl
@[go_sem] theorem QrE : (C.ti Q0K).k = .ptr := by kernel_rfl
@[go_sem] theorem Qoj : (C.ti Q0K).isAgg = false := by kernel_rfl
@[go_sem] theorem Qmv : (C.ti Q0K).isGood = true := by kernel_rfl
@[go_sem] theorem Qmx : (C.ti Q0K).zero = [.nilp] := by kernel_rfl
@[go_sem] theorem QmC : (C.ti Q2n).size = 1 := by kernel_rfl
@[go_sem] theorem QrG : (C.ti Q2n).k = .ptr := by kernel_rfl
@[go_sem] theorem Qol : (C.ti Q2n).isAgg = false := by kernel_rfl
@[go_sem] theorem QmB : (C.ti Q2n).isGood = true := by kernel_rfl
@[go_sem] theorem QmD : (C.ti Q2n).zero = [.nilp] := by kernel_rfl
@[go_sem] theorem QmI : (C.ti Q0q).size = 1 := by kernel_rfl
@[go_sem] theorem QrI : (C.ti Q0q).k = .ptr := by kernel_rfl
@[go_sem] theorem Qon : (C.ti Q0q).isAgg = false := by kernel_rfl
@[go_sem] theorem QmH : (C.ti Q0q).isGood = true := by kernel_rfl
@[go_sem] theorem QmJ : (C.ti Q0q).zero = [.nilp] := by kernel_rfl
@[go_sem] theorem Qop : (C.ti Q5q).size = 1 := by kernel_rfl
@[go_sem] theorem Qsx : (C.ti Q5q).k = .ptr := by kernel_rfl
@[go_sem] theorem Qpp : (C.ti Q5q).isAgg = false := by kernel_rfl
@[go_sem] theorem Qoo : (C.ti Q5q).isGood = true := by kernel_rfl
@[go_sem] theorem Qoq : (C.ti Q5q).zero = [.nilp] := by kernel_rfl
@[go_sem] theorem Qn9 : (C.ti QN).size = 8 := by kernel_rfl
@[go_sem] theorem QrO : (C.ti QN).k = .struct [(0, 135), (1, 4), (2, 136), (3, 137), (4, 138), (5, 139), (6, 140), (7, 3)] := by kernel_rfl
@[go_sem] theorem QoE : (C.ti QN).isAgg = true := by kernel_rfl
@[go_sem] theorem Qn8 : (C.ti QN).isGood = true := by kernel_rfl
@[go_sem] theorem Qna : (C.ti QN).zero = [.nilp, .bool false, .nilp, .nilp, .nilp, .nilp, .nilp, .int .i64 0] := by kernel_rfl
@[go_sem] theorem QdF : (C.ti Ql).size = 1 := by kernel_rfl
@[go_sem] theorem Qfh : (C.ti Ql).k = .func := by kernel_rfl
@[go_sem] theorem QdM : (C.ti Ql).isAgg = false := by kernel_rfl
@[go_sem] theorem QdE : (C.ti Ql).isGood = true := by kernel_rfl
@[go_sem] theorem QdG : (C.ti Ql).zero = [.nilf] := by kernel_rfl
@[go_sem] theorem Qmm : (C.ti Qz).size = 1 := by kernel_rfl
@[go_sem] theorem QpB : (C.ti Qz).k = .struct [(0, 144)] := by kernel_rfl
@[go_sem] theorem Qne : (C.ti Qz).isAgg = true := by kernel_rfl
@[go_sem] theorem Qml : (C.ti Qz).isGood = true := by kernel_rfl
@[go_sem] theorem Qmn : (C.ti Qz).zero = [.nilf] := by kernel_rfl
@[go_sem] theorem Qa1 : (C.ti Qq).size = 1 := by kernel_rfl
@[go_sem] theorem QaV : (C.ti Qq).k = .func := by kernel_rfl
@[go_sem] theorem Qa5 : (C.ti Qq).isAgg = false := by kernel_rfl
@[go_sem] theorem Qa0 : (C.ti Qq).isGood = true := by kernel_rfl
@[go_sem] theorem Qa2 : (C.ti Qq).zero = [.nilf] := by kernel_rfl
@[go_sem] theorem Qpy : (C.ti Q0).size = 6 := by kernel_rfl
@[go_sem] theorem QtU : (C.ti Q0).k = .struct [(0, 4), (1, 4), (2, 4), (3, 4), (4, 3), (5, 3)] := by kernel_rfl
@[go_sem] theorem QrN : (C.ti Q0).isAgg = true := by kernel_rfl
@[go_sem] theorem Qpx : (C.ti Q0).isGood = true := by kernel_rfl
@[go_sem] theorem Qpz : (C.ti Q0).zero = [.bool false, .bool false, .bool false, .bool false, .int .i64 0, .int .i64 0] := by kernel_rfl
noncomputable def gC (T : Nat) (k : Nat) (c : List Slot) (K : Slot → Res) : Res := bind1 (ofSlots (C.ti T) (List.take (C.ti T).size (List.drop k c))) K
@[go_sem] theorem QuO (T : Nat) (k : Nat) (c : List Slot) (K : Slot → Res) : gC T k c K = bind1 (ofSlots (C.ti T) (List.take (C.ti T).size (List.drop k c))) K := id rfl
@[congr] theorem Qtd {T : Nat} {k : Nat} {c c' : List Slot} {K : Slot → Res} (h0 : c = c') : gC T k c K = gC T k c' K := by rw [h0]
noncomputable def gA (T : Nat) (c : List Slot) (K : Slot → Res) : Res := bind1 (ofSlots (C.ti T) (List.take (C.ti T).size c)) K
@[go_sem] theorem QuM (T : Nat) (c : List Slot) (K : Slot → Res) : gA T c K = bind1 (ofSlots (C.ti T) (List.take (C.ti T).size c)) K := id rfl
@[congr] theorem Qtb {T : Nat} {c c' : List Slot} {K : Slot → Res} (h0 : c = c') : gA T c K = gA T c' K := by rw [h0]
noncomputable def bx (T : Nat) (v : Slot) (K : List Slot → Res) : Res := bindL (boxCells (C.ti T) v) K
@[go_sem] theorem QuG (T : Nat) (v : Slot) (K : List Slot → Res) : bx T v K = bindL (boxCells (C.ti T) v) K := id rfl
@[congr] theorem QsU {T : Nat} {v v' : Slot} {K : List Slot → Res} (h0 : v = v') : bx T v K = bx T v' K := by rw [h0]
noncomputable def pZ (T : Nat) (c : List Slot) (K : List Slot → Res) : Res := bindL (putAt (List.map .val (C.ti T).zero) 0 c) K
@[go_sem] theorem Qv8 (T : Nat) (c : List Slot) (K : List Slot → Res) : pZ T c K = bindL (putAt (List.map .val (C.ti T).zero) 0 c) K := id rfl
@[congr] theorem QtO {T : Nat} {c c' : List Slot} {K : List Slot → Res} (h0 : c = c') : pZ T c K = pZ T c' K := by rw [h0]
noncomputable def bn (T : Nat) (op : BinOp) (x : Slot) (y : Slot) (K : Slot → Res) : Res := bind1 (binS (C.ti T) op x y) K
@[go_sem] theorem QfT (T : Nat) (op : BinOp) (x : Slot) (y : Slot) (K : Slot → Res) : bn T op x y K = bind1 (binS (C.ti T) op x y) K := id rfl
@[congr] theorem QsQ {T : Nat} {op : BinOp} {x x' : Slot} {y y' : Slot} {K : Slot → Res} (h0 : x = x') (h1 : y = y') : bn T op x y K = bn T op x' y' K := by rw [h0, h1]
noncomputable def ix (T : Nat) (x : Slot) (i : Slot) (K : Slot → Res) : Res := bind1 (ixS (C.ti T).size x i) K
@[go_sem] theorem Qv3 (T : Nat) (x : Slot) (i : Slot) (K : Slot → Res) : ix T x i K = bind1 (ixS (C.ti T).size x i) K := id rfl
@[congr] theorem Qtx {T : Nat} {x x' : Slot} {i i' : Slot} {K : Slot → Res} (h0 : x = x') (h1 : i = i') : ix T x i K = ix T x' i' K := by rw [h0, h1]
noncomputable def ld (T : Nat) (s : St) (a : Slot) (K : Slot → Res) : Res := bind1 (ldV (C.ti T) false s a) K
@[go_sem] theorem Qv4 (T : Nat) (s : St) (a : Slot) (K : Slot → Res) : ld T s a K = bind1 (ldV (C.ti T) false s a) K := id rfl
@[congr] theorem Qty {T : Nat} {s s' : St} {a a' : Slot} {K : Slot → Res} (h0 : s = s') (h1 : a = a') : ld T s a K = ld T s' a' K := by rw [h0, h1]
noncomputable def ln (T : Nat) (x : Slot) (K : Slot → Res) : Res := bind1 (lenS (C.ti T) x) K
@[go_sem] theorem QfV (T : Nat) (x : Slot) (K : Slot → Res) : ln T x K = bind1 (lenS (C.ti T) x) K := id rfl
@[congr] theorem QtB {T : Nat} {x x' : Slot} {K : Slot → Res} (h0 : x = x') : ln T x K = ln T x' K := by rw [h0]
noncomputable def ca (f : Nat) (l : List Slot) (s : St) (K : Slot → St → Res) : Res := back (cal cw true (tgtV (.val (.fn f [])) l) s) K
@[go_sem] theorem QuH (f : Nat) (l : List Slot) (s : St) (K : Slot → St → Res) : ca f l s K = back (cal cw true (tgtV (.val (.fn f [])) l) s) K := id rfl
@[congr] theorem QsV {f : Nat} {l l' : List Slot} {s s' : St} {K : Slot → St → Res} (h0 : l = l') (h1 : s = s') : ca f l s K = ca f l' s' K := by rw [h0, h1]
noncomputable def cn (f : Nat) (l : List Slot) (s : St) (K : Slot → St → Res) : Res := back (noPan (cal cw true (tgtV (.val (.fn f [])) l) s)) K
@[go_sem] theorem QuJ (f : Nat) (l : List Slot) (s : St) (K : Slot → St → Res) : cn f l s K = back (noPan (cal cw true (tgtV (.val (.fn f [])) l) s)) K := id rfl
@[congr] theorem Qt2 {f : Nat} {l l' : List Slot} {s s' : St} {K : Slot → St → Res} (h0 : l = l') (h1 : s = s') : cn f l s K = cn f l' s' K := by rw [h0, h1]
noncomputable def cg (w : Bool) (f : Nat) (l : List Slot) (s : St) (K : Slot → St → Res) : Res := back (cal cw w (tgtV (.val (.fn f [])) l) s) K
@[go_sem] theorem QuI (w : Bool) (f : Nat) (l : List Slot) (s : St) (K : Slot → St → Res) : cg w f l s K = back (cal cw w (tgtV (.val (.fn f [])) l) s) K := id rfl
@[congr] theorem Qt1 {f : Nat} {w w' : Bool} {l l' : List Slot} {s s' : St} {K : Slot → St → Res} (h0 : w = w') (h1 : l = l') (h2 : s = s') : cg w f l s K = cg w' f l' s' K := by rw [h0, h1, h2]
noncomputable def iT (v : Slot) (K : Bool → Res) : Res := bindB (Slot.isB v true) K
@[go_sem] theorem QuZ (v : Slot) (K : Bool → Res) : iT v K = bindB (Slot.isB v true) K := id rfl
@[congr] theorem Qtq  {v v' : Slot} {K : Bool → Res} (h0 : v = v') : iT v K = iT v' K := by rw [h0]
noncomputable def iF (v : Slot) (K : Bool → Res) : Res := bindB (Slot.isB v false) K
@[go_sem] theorem QuY (v : Slot) (K : Bool → Res) : iF v K = bindB (Slot.isB v false) K := id rfl
@[congr] theorem Qtp  {v v' : Slot} {K : Bool → Res} (h0 : v = v') : iF v K = iF v' K := by rw [h0]
noncomputable def gG (w : Bool) (b : Bool) (T : Nat) (k : Nat) (c : List Slot) (K : Slot → Res) : Res := bind1 (gd w (bif b then (ofSlots (C.ti T) (List.take (C.ti T).size (List.drop k c))) else none)) K
@[go_sem] theorem QuP (w : Bool) (b : Bool) (T : Nat) (k : Nat) (c : List Slot) (K : Slot → Res) : gG w b T k c K = bind1 (gd w (bif b then (ofSlots (C.ti T) (List.take (C.ti T).size (List.drop k c))) else none)) K := id rfl
@[congr] theorem Qte {b : Bool} {T : Nat} {k : Nat} {c : List Slot} {w w' : Bool} {K : Slot → Res} (h0 : w = w') : gG w b T k c K = gG w' b T k c K := by rw [h0]
noncomputable def gB (w : Bool) (T : Nat) (op : BinOp) (x : Slot) (y : Slot) (K : Slot → Res) : Res := bind1 (gd w (binS (C.ti T) op x y)) K
@[go_sem] theorem QuN (w : Bool) (T : Nat) (op : BinOp) (x : Slot) (y : Slot) (K : Slot → Res) : gB w T op x y K = bind1 (gd w (binS (C.ti T) op x y)) K := id rfl
@[congr] theorem Qtc {T : Nat} {op : BinOp} {x : Slot} {y : Slot} {w w' : Bool} {K : Slot → Res} (h0 : w = w') : gB w T op x y K = gB w' T op x y K := by rw [h0]
noncomputable def gN (w : Bool) (x : Slot) (K : Slot → Res) : Res := bind1 (gd w (unS .not x)) K
@[go_sem] theorem QuR (w : Bool) (x : Slot) (K : Slot → Res) : gN w x K = bind1 (gd w (unS .not x)) K := id rfl
@[congr] theorem Qtg {x : Slot} {w w' : Bool} {K : Slot → Res} (h0 : w = w') : gN w x K = gN w' x K := by rw [h0]
noncomputable def gL (w : Bool) (T : Nat) (x : Slot) (K : Slot → Res) : Res := bind1 (gd w (lenS (C.ti T) x)) K
@[go_sem] theorem QuQ (w : Bool) (T : Nat) (x : Slot) (K : Slot → Res) : gL w T x K = bind1 (gd w (lenS (C.ti T) x)) K := id rfl
@[congr] theorem Qtf {T : Nat} {x : Slot} {w w' : Bool} {K : Slot → Res} (h0 : w = w') : gL w T x K = gL w' T x K := by rw [h0]
noncomputable def nt (x : Slot) (K : Slot → Res) : Res := bind1 (unS .not x) K
@[go_sem] theorem Qv6 (x : Slot) (K : Slot → Res) : nt x K = bind1 (unS .not x) K := id rfl
@[congr] theorem QtF  {x x' : Slot} {K : Slot → Res} (h0 : x = x') : nt x K = nt x' K := by rw [h0]
noncomputable def pk (a : Slot) (b : Slot) (c : Slot) (K : Slot → Res) : Res := bind1 (pickS a b c) K
@[go_sem] theorem Qv9 (a : Slot) (b : Slot) (c : Slot) (K : Slot → Res) : pk a b c K = bind1 (pickS a b c) K := id rfl
@[congr] theorem QtP  {a a' : Slot} {b b' : Slot} {c c' : Slot} {K : Slot → Res} (h0 : a = a') (h1 : b = b') (h2 : c = c') : pk a b c K = pk a' b' c' K := by rw [h0, h1, h2]
noncomputable def ex (a : Slot) (i : Nat) (K : Slot → Res) : Res := bind1 (extractS a i) K
@[go_sem] theorem QuK (a : Slot) (i : Nat) (K : Slot → Res) : ex a i K = bind1 (extractS a i) K := id rfl
@[congr] theorem Qt5 {i : Nat} {a a' : Slot} {K : Slot → Res} (h0 : a = a') : ex a i K = ex a' i K := by rw [h0]
noncomputable def fa (i : Nat) (a : Slot) (K : Slot → Res) : Res := bind1 (faV i a) K
@[go_sem] theorem QuL (i : Nat) (a : Slot) (K : Slot → Res) : fa i a K = bind1 (faV i a) K := id rfl
@[congr] theorem Qt9 {i : Nat} {a a' : Slot} {K : Slot → Res} (h0 : a = a') : fa i a K = fa i a' K := by rw [h0]
noncomputable def pt (c : List Slot) (i : Nat) (d : List Slot) (K : List Slot → Res) : Res := bindL (putAt c i d) K
@[go_sem] theorem Qva (c : List Slot) (i : Nat) (d : List Slot) (K : List Slot → Res) : pt c i d K = bindL (putAt c i d) K := id rfl
@[congr] theorem QtQ {i : Nat} {c c' : List Slot} {d d' : List Slot} {K : List Slot → Res} (h0 : c = c') (h1 : d = d') : pt c i d K = pt c' i d' K := by rw [h0, h1]
noncomputable def bs (T : Nat) (l : List Slot) (K : Slot → Res) : Res := bind1 (bslF (C.ti T).size l) K
@[go_sem] theorem QuE (T : Nat) (l : List Slot) (K : Slot → Res) : bs T l K = bind1 (bslF (C.ti T).size l) K := id rfl
@[congr] theorem QsR {T : Nat} {l l' : List Slot} {K : Slot → Res} (h0 : l = l') : bs T l K = bs T l' K := by rw [h0]
noncomputable def ap (T : Nat) (s : St) (x : Slot) (y : Slot) (K : Slot → St → Res) : Res := bind2 (appendS T (C.ti T) s x y) K
@[go_sem] theorem QuC (T : Nat) (s : St) (x : Slot) (y : Slot) (K : Slot → St → Res) : ap T s x y K = bind2 (appendS T (C.ti T) s x y) K := id rfl
@[congr] theorem Qsz {T : Nat} {s s' : St} {x x' : Slot} {y y' : Slot} {K : Slot → St → Res} (h0 : s = s') (h1 : x = x') (h2 : y = y') : ap T s x y K = ap T s' x' y' K := by rw [h0, h1, h2]
noncomputable def sto (s : St) (a : Slot) (c : List Slot) (K : St → Res) : Res := bindS (stV s a c) K
@[go_sem] theorem Quz (s : St) (a : Slot) (c : List Slot) (K : St → Res) : sto s a c K = bindS (stV s a c) K := id rfl
@[congr] theorem Qsv  {s s' : St} {a a' : Slot} {c c' : List Slot} {K : St → Res} (h0 : s = s') (h1 : a = a') (h2 : c = c') : sto s a c K = sto s' a' c' K := by rw [h0, h1, h2]
noncomputable def upd2 (A : Nat) (B : Nat) (s : St) (a : Slot) (b : Slot) (c : Slot) (K : Slot → St → Res) : Res := bind2 (updateS (C.ti A) (C.ti B) s a b c) K
@[go_sem] theorem Qui (A : Nat) (B : Nat) (s : St) (a : Slot) (b : Slot) (c : Slot) (K : Slot → St → Res) : upd2 A B s a b c K = bind2 (updateS (C.ti A) (C.ti B) s a b c) K := id rfl
@[congr] theorem QrA {A : Nat} {B : Nat} {s s' : St} {a a' : Slot} {b b' : Slot} {c c' : Slot} {K : Slot → St → Res} (h0 : s = s') (h1 : a = a') (h2 : b = b') (h3 : c = c') : upd2 A B s a b c K = upd2 A B s' a' b' c' K := by rw [h0, h1, h2, h3]
noncomputable def lk (A : Nat) (B : Nat) (s : St) (a : Slot) (b : Slot) (q : Bool) (K : Slot → Res) : Res := bind1 (lookupS (C.ti A) (C.ti B) s a b q) K
@[go_sem] theorem Qv5 (A : Nat) (B : Nat) (s : St) (a : Slot) (b : Slot) (q : Bool) (K : Slot → Res) : lk A B s a b q K = bind1 (lookupS (C.ti A) (C.ti B) s a b q) K := id rfl
@[congr] theorem QtA {A : Nat} {B : Nat} {q : Bool} {s s' : St} {a a' : Slot} {b b' : Slot} {K : Slot → Res} (h0 : s = s') (h1 : a = a') (h2 : b = b') : lk A B s a b q K = lk A B s' a' b' q K := by rw [h0, h1, h2]
noncomputable def bdL : List (Nat × Nat × Slot) → List (Nat × Nat × Slot)
 | [] => []
 | p :: r => (p.1, (C.ti p.2.1).size, p.2.2) :: bdL r
@[go_sem] theorem QtZ : bdL [] = [] := id rfl
@[go_sem] theorem QsE (a b : Nat) (v : Slot) (r : List (Nat × Nat × Slot)) : bdL ((a, b, v) :: r) = (a, (C.ti b).size, v) :: bdL r := id rfl
noncomputable def bd (T : Nat) (l : List (Nat × Nat × Slot)) (K : Slot → Res) : Res := bind1 (buildS (C.ti T).zero (bdL l)) K
@[go_sem] theorem QuD (T : Nat) (l : List (Nat × Nat × Slot)) (K : Slot → Res) : bd T l K = bind1 (buildS (C.ti T).zero (bdL l)) K := id rfl
@[congr] theorem QsF {T : Nat} {l l' : List (Nat × Nat × Slot)} {K : Slot → Res} (h0 : l = l') : bd T l K = bd T l' K := by rw [h0]
noncomputable def rt (l : List (Option Slot)) (s : St) : Res := bind1 (tupS l) fun v => some (.ret v, s)
@[go_sem] theorem Qvb (l : List (Option Slot)) (s : St) : rt l s = bind1 (tupS l) fun v => some (.ret v, s) := id rfl
@[reducible] def iv (n : Int) : Slot := .val (.int .i64 n)
@[go_sem] theorem Qv2 (n : Int) : iv n = .val (.int .i64 n) := id rfl
@[reducible] def bv (b : Bool) : Slot := .val (.bool b)
@[go_sem] theorem QuF (b : Bool) : bv b = .val (.bool b) := id rfl
@[reducible] def sv (l : List UInt8) : Slot := .val (.str l)
@[go_sem] theorem Qvc (l : List UInt8) : sv l = .val (.str l) := id rfl
noncomputable def nx (x : Slot) (K : Slot → Res) : Res := bind1 (binS (C.ti Q2) .add x (.val (.int .i64 1))) K
@[go_sem] theorem Qv7 (x : Slot) (K : Slot → Res) : nx x K = bind1 (binS (C.ti Q2) .add x (.val (.int .i64 1))) K := id rfl
@[congr] theorem QtG  {x x' : Slot} {K : Slot → Res} (h0 : x = x') : nx x K = nx x' K := by rw [h0]
@[reducible] noncomputable def lpD (f : FuncId) (p : List Step) (fn : Func) (e : Env) (s : St) : Res := loopR C false f p (body fn) e s (ctxR C false f p (body fn) (outK C fn.results.toList))
@[reducible] noncomputable def pwD (f : FuncId) (p : List Step) (fn : Func) (e : Env) (s : St) : Res := pw (run C false f (codeAt p (body fn)) e s (ctxR C false f p (body fn) (outK C fn.results.toList)))
end Go.Proofs.YtinphnakebeloaaGreat