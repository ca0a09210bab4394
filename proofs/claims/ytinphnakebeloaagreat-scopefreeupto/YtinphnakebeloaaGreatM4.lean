/- A part of the proof: G1. -/
import Derived.Test.YtinphnakebeloaaGreatM3
import Derived.KernelRfl
import Derived.Test.YtinphnakebeloaaGreatProg
set_option linter.unusedVariables false
set_option linter.unusedSimpArgs false
namespace Go.Proofs.YtinphnakebeloaaGreat
open Go Go.Am
set_option linter.unusedVariables false
def tF : TI := { k := .func, size := 1, bytes := 8, zero := [.nilf] }
def tP : TI := { k := .ptr, size := 1, bytes := 8, zero := [.nilp] }
def tS (e : Nat) : TI := { k := .slice e, size := 1, bytes := 24, zero := [.nils] }
noncomputable def tis : List TI := [{}, tF, { k := .int .i64, size := 1, bytes := 8, zero := [.int .i64 0] }, { k := .int .i64, size := 1, bytes := 8, zero := [.int .i64 0] }, { k := .bool, size := 1, bytes := 1, zero := [.bool false] }, { k := .int .u8, size := 1, bytes := 1, zero := [.int .u8 0] }, { k := .int .u8, size := 1, bytes := 1, zero := [.int .u8 0] }, { k := .struct [(0, 2), (1, 3), (2, 4), (3, 6)], size := 4, bytes := 24, zero := [.int .i64 0, .int .i64 0, .bool false, .int .u8 0] }, { k := .struct [(0, 2), (1, 3), (2, 4), (3, 6)], size := 4, bytes := 24, zero := [.int .i64 0, .int .i64 0, .bool false, .int .u8 0] }, { k := .str, size := 1, bytes := 16, zero := [.str []] }, { k := .str, size := 1, bytes := 16, zero := [.str []] }, { k := .str, size := 1, bytes := 16, zero := [.str []] }, { k := .int .u64, size := 1, bytes := 8, zero := [.int .u64 0] }, { k := .struct [(0, 9), (1, 12)], size := 2, bytes := 24, zero := [.str [], .int .u64 0] }, { k := .struct [(0, 9), (1, 12)], size := 2, bytes := 24, zero := [.str [], .int .u64 0] }, tP, tP, tP, { k := .struct [(0, 17)], size := 1, bytes := 8, zero := [.nilp] }, { k := .struct [(0, 17)], size := 1, bytes := 8, zero := [.nilp] }, { k := .iface, size := 1, bytes := 16, zero := [.nili] }, { k := .int .i32, size := 1, bytes := 4, zero := [.int .i32 0] }, tS 38, tF, tF, { k := .int .i64, size := 1, bytes := 8, zero := [.int .i64 0] }, { k := .struct [(0, 25), (1, 3), (2, 9)], size := 3, bytes := 32, zero := [.int .i64 0, .int .i64 0, .str []] }, { k := .struct [(0, 25), (1, 3), (2, 9)], size := 3, bytes := 32, zero := [.int .i64 0, .int .i64 0, .str []], flat := [.int .i64, .int .i64, .str] }, tF, { k := .int .i64, size := 1, bytes := 8, zero := [.int .i64 0] }, tS 33, tS 78, { k := .struct [(0, 29), (1, 3), (2, 9), (3, 3), (4, 30), (5, 31), (6, 22)], size := 7, bytes := 112, zero := [.int .i64 0, .int .i64 0, .str [], .int .i64 0, .nils, .nils, .nils] }, { k := .struct [(0, 29), (1, 3), (2, 9), (3, 3), (4, 30), (5, 31), (6, 22)], size := 7, bytes := 112, zero := [.int .i64 0, .int .i64 0, .str [], .int .i64 0, .nils, .nils, .nils] }, { k := .int .i64, size := 1, bytes := 8, zero := [.int .i64 0] }, tS 105, tS 97, { k := .struct [(0, 34), (1, 3), (2, 9), (3, 3), (4, 35), (5, 31), (6, 36)], size := 7, bytes := 112, zero := [.int .i64 0, .int .i64 0, .str [], .int .i64 0, .nils, .nils, .nils] }, { k := .struct [(0, 34), (1, 3), (2, 9), (3, 3), (4, 35), (5, 31), (6, 36)], size := 7, bytes := 112, zero := [.int .i64 0, .int .i64 0, .str [], .int .i64 0, .nils, .nils, .nils] }, tF, { k := .int .i64, size := 1, bytes := 8, zero := [.int .i64 0] }, tS 43, { k := .struct [(0, 40), (1, 3), (2, 9), (3, 3), (4, 41)], size := 5, bytes := 64, zero := [.int .i64 0, .int .i64 0, .str [], .int .i64 0, .nils] }, { k := .struct [(0, 40), (1, 3), (2, 9), (3, 3), (4, 41)], size := 5, bytes := 64, zero := [.int .i64 0, .int .i64 0, .str [], .int .i64 0, .nils] }, tF, tS 9, tF, tF, tF, tF, tS 69, tS 69, {}, tF, tF, tP, { k := .map 9 3, size := 1, bytes := 8, zero := [.nilm] }, tF, tF, { k := .struct [(0, 56), (1, 27), (4, 57), (5, 58), (6, 4), (7, 4)], size := 8, bytes := 64, zero := [.nilm, .int .i64 0, .int .i64 0, .str [], .nilf, .nilf, .bool false, .bool false] }, { k := .struct [(0, 56), (1, 27), (4, 57), (5, 58), (6, 4), (7, 4)], size := 8, bytes := 64, zero := [.nilm, .int .i64 0, .int .i64 0, .str [], .nilf, .nilf, .bool false, .bool false] }, tF, { k := .int .i64, size := 1, bytes := 8, zero := [.int .i64 0] }, tS 65, { k := .struct [(0, 62), (1, 3), (2, 9), (3, 63)], size := 4, bytes := 56, zero := [.int .i64 0, .int .i64 0, .str [], .nils] }, { k := .struct [(0, 62), (1, 3), (2, 9), (3, 63)], size := 4, bytes := 56, zero := [.int .i64 0, .int .i64 0, .str [], .nils] }, { k := .struct [(0, 3), (1, 65)], size := 5, bytes := 64, zero := [.int .i64 0, .int .i64 0, .int .i64 0, .str [], .nils] }, { k := .struct [(0, 3), (1, 65)], size := 5, bytes := 64, zero := [.int .i64 0, .int .i64 0, .int .i64 0, .str [], .nils] }, { k := .struct [(0, 9), (1, 9), (2, 3), (3, 3), (4, 4), (5, 67)], size := 10, bytes := 120, zero := [.str [], .str [], .int .i64 0, .int .i64 0, .bool false, .int .i64 0, .int .i64 0, .int .i64 0, .str [], .nils] }, { k := .struct [(0, 9), (1, 9), (2, 3), (3, 3), (4, 4), (5, 67)], size := 10, bytes := 120, zero := [.str [], .str [], .int .i64 0, .int .i64 0, .bool false, .int .i64 0, .int .i64 0, .int .i64 0, .str [], .nils] }, {}, tF, tF, tF, tF, tF, tF, { k := .struct [(0, 43), (5, 33)], size := 12, bytes := 176, zero := [.int .i64 0, .int .i64 0, .str [], .int .i64 0, .nils, .int .i64 0, .int .i64 0, .str [], .int .i64 0, .nils, .nils, .nils] }, { k := .struct [(0, 43), (5, 33)], size := 12, bytes := 176, zero := [.int .i64 0, .int .i64 0, .str [], .int .i64 0, .nils, .int .i64 0, .int .i64 0, .str [], .int .i64 0, .nils, .nils, .nils] }, tF, tF, tF, tF, tF, tS 123, tF, tF, tF, tF, tF, tF, tF, tF, tF, tF, tF, { k := .struct [(0, 9), (1, 3), (2, 78)], size := 14, bytes := 200, zero := [.str [], .int .i64 0, .int .i64 0, .int .i64 0, .str [], .int .i64 0, .nils, .int .i64 0, .int .i64 0, .str [], .int .i64 0, .nils, .nils, .nils] }, { k := .struct [(0, 9), (1, 3), (2, 78)], size := 14, bytes := 200, zero := [.str [], .int .i64 0, .int .i64 0, .int .i64 0, .str [], .int .i64 0, .nils, .int .i64 0, .int .i64 0, .str [], .int .i64 0, .nils, .nils, .nils] }, tF, tF, tF, {}, {}, tF, { k := .struct [(0, 9), (1, 3), (2, 4), (3, 65)], size := 7, bytes := 88, zero := [.str [], .int .i64 0, .bool false, .int .i64 0, .int .i64 0, .str [], .nils] }, { k := .struct [(0, 9), (1, 3), (2, 4), (3, 65)], size := 7, bytes := 88, zero := [.str [], .int .i64 0, .bool false, .int .i64 0, .int .i64 0, .str [], .nils] }, {}, tF, tF, tF, tS 3, tF, {}, tF, tF, tF, tF, tF, tF, tF, tF, tF, { k := .struct [(0, 3), (1, 4), (2, 3), (3, 38), (10, 33), (17, 43), (22, 65), (26, 97), (40, 105)], size := 47, bytes := 656, zero := [.int .i64 0, .bool false, .int .i64 0, .int .i64 0, .int .i64 0, .str [], .int .i64 0, .nils, .nils, .nils, .int .i64 0, .int .i64 0, .str [], .int .i64 0, .nils, .nils, .nils, .int .i64 0, .int .i64 0, .str [], .int .i64 0, .nils, .int .i64 0, .int .i64 0, .str [], .nils, .str [], .int .i64 0, .int .i64 0, .int .i64 0, .str [], .int .i64 0, .nils, .int .i64 0, .int .i64 0, .str [], .int .i64 0, .nils, .nils, .nils, .str [], .int .i64 0, .bool false, .int .i64 0, .int .i64 0, .str [], .nils] }, { k := .struct [(0, 3), (1, 4), (2, 3), (3, 38), (10, 33), (17, 43), (22, 65), (26, 97), (40, 105)], size := 47, bytes := 656, zero := [.int .i64 0, .bool false, .int .i64 0, .int .i64 0, .int .i64 0, .str [], .int .i64 0, .nils, .nils, .nils, .int .i64 0, .int .i64 0, .str [], .int .i64 0, .nils, .nils, .nils, .int .i64 0, .int .i64 0, .str [], .int .i64 0, .nils, .int .i64 0, .int .i64 0, .str [], .nils, .str [], .int .i64 0, .int .i64 0, .int .i64 0, .str [], .int .i64 0, .nils, .int .i64 0, .int .i64 0, .str [], .int .i64 0, .nils, .nils, .nils, .str [], .int .i64 0, .bool false, .int .i64 0, .int .i64 0, .str [], .nils] }, tF, tF, tF, tS 1, tF, tF, tF, tF, tF, tF, tF, tP, tP, tP, tP, tP, tP, { k := .struct [(0, 135), (1, 4), (2, 136), (3, 137), (4, 138), (5, 139), (6, 140), (7, 3)], size := 8, bytes := 64, zero := [.nilp, .bool false, .nilp, .nilp, .nilp, .nilp, .nilp, .int .i64 0] }, { k := .struct [(0, 135), (1, 4), (2, 136), (3, 137), (4, 138), (5, 139), (6, 140), (7, 3)], size := 8, bytes := 64, zero := [.nilp, .bool false, .nilp, .nilp, .nilp, .nilp, .nilp, .int .i64 0] }, tF, tF, { k := .struct [(0, 144)], size := 1, bytes := 8, zero := [.nilf] }, { k := .struct [(0, 144)], size := 1, bytes := 8, zero := [.nilf] }, tF, tF, tF, tF, tF, tF, tF, tF, tF, tF, tF, tF, tF, tF, tF, tF, tF, tF, tF, tF, tF, tF, tF, tF, {}, tF, tF, {}, tF, tF, tF, tF, tF, tF, { k := .struct [(0, 4), (1, 4), (2, 4), (3, 4), (4, 3), (5, 3)], size := 6, bytes := 24, zero := [.bool false, .bool false, .bool false, .bool false, .int .i64 0, .int .i64 0] }, { k := .struct [(0, 4), (1, 4), (2, 4), (3, 4), (4, 3), (5, 3)], size := 6, bytes := 24, zero := [.bool false, .bool false, .bool false, .bool false, .int .i64 0, .int .i64 0] }, {}, tF, tF, tF, tF, tF, { k := .int .u64, size := 1, bytes := 8, zero := [.int .u64 0] }, { k := .int .u32, size := 1, bytes := 4, zero := [.int .u32 0] }, {}, tF, tF, { k := .struct [(0, 17), (1, 17), (2, 17), (3, 9)], size := 4, bytes := 40, zero := [.nilp, .nilp, .nilp, .str []] }, { k := .struct [(0, 17), (1, 17), (2, 17), (3, 9)], size := 4, bytes := 40, zero := [.nilp, .nilp, .nilp, .str []] }, { k := .array 0 16, size := 0, bytes := 0, zero := [] }, { k := .struct [(0, 196)], size := 0, bytes := 0, zero := [] }, { k := .struct [(0, 196)], size := 0, bytes := 0, zero := [] }, { k := .int .u8, size := 1, bytes := 1, zero := [.int .u8 0] }, { k := .int .u8, size := 1, bytes := 1, zero := [.int .u8 0] }, tF, tP, { k := .int .i32, size := 1, bytes := 4, zero := [.int .i32 0] }, { k := .int .i32, size := 1, bytes := 4, zero := [.int .i32 0] }, { k := .struct [(0, 12), (1, 12), (2, 190), (3, 199), (4, 5), (5, 5), (6, 200), (7, 201), (8, 202), (9, 203), (10, 204)], size := 11, bytes := 48, zero := [.int .u64 0, .int .u64 0, .int .u32 0, .int .u8 0, .int .u8 0, .int .u8 0, .int .u8 0, .nilf, .nilp, .int .i32 0, .int .i32 0] }, { k := .struct [(0, 12), (1, 12), (2, 190), (3, 199), (4, 5), (5, 5), (6, 200), (7, 201), (8, 202), (9, 203), (10, 204)], size := 11, bytes := 48, zero := [.int .u64 0, .int .u64 0, .int .u32 0, .int .u8 0, .int .u8 0, .int .u8 0, .int .u8 0, .nilf, .nilp, .int .i32 0, .int .i32 0] }, {}]
noncomputable def modes : List (Nat × Nat × AMode) := [(8, 6, .loc), (8, 7, .loc), (8, 28, .loc), (12, 3, .loc), (12, 11, .loc), (18, 1, .con), (34, 1, .con), (41, 3, .loc), (47, 4, .loc), (48, 1, .con), (54, 2, .con), (54, 3, .con), (60, 3, .con), (60, 4, .con), (60, 8, .loc), (61, 3, .con), (76, 1, .con), (83, 3, .loc), (88, 3, .con), (88, 5, .loc), (95, 7, .loc), (107, 1, .con)]
noncomputable def keeps : List (Nat × Nat × List Nat) := [(5, 5, [0, 15, 16, 17]), (8, 13, [2, 6, 7, 37, 38, 39]), (9, 10, [0, 2, 6, 7, 8]), (11, 5, [0, 1, 5]), (15, 7, [3, 4, 5]), (19, 4, [3, 4, 10, 11, 12]), (24, 3, [1, 4, 8, 9, 10]), (25, 5, [0, 3, 16, 17, 18]), (25, 15, [0, 7, 8, 44, 45, 46]), (26, 7, [3, 5, 6, 7, 8, 9, 10, 34, 35, 36]), (26, 26, [3, 5, 6, 7, 8, 9, 10, 13, 16, 17, 18, 90, 91, 92]), (28, 4, [0, 3, 4, 5]), (29, 8, [1, 2, 3, 4, 5, 6]), (30, 9, [0, 2, 4, 6, 9, 10]), (32, 6, [1, 3, 4]), (33, 10, [0, 3, 5, 8, 9]), (33, 19, [0, 3, 5, 8, 9, 10, 13, 14, 15]), (33, 33, [0, 3, 5, 8, 9, 10, 13, 14, 16, 17]), (38, 11, [0, 3, 4, 53, 54, 55]), (38, 16, [0, 3, 4, 67, 68, 69]), (38, 21, [0, 4, 78, 79, 80]), (38, 26, [88, 89, 90]), (40, 5, [1, 2, 3, 7]), (40, 13, [1, 2, 3, 7, 8, 10]), (40, 17, [1, 2, 3, 11]), (40, 21, [1, 2, 3, 12]), (41, 6, [1, 3, 4, 16, 17, 18]), (41, 9, [1, 3, 4, 16, 17, 18, 24, 25, 26]), (41, 16, [3, 4, 39, 40, 41]), (42, 3, [0, 1, 5]), (43, 7, [0, 4, 5]), (44, 4, [0, 3, 4]), (45, 4, [0, 3, 4]), (45, 8, [0, 3, 4, 5, 6]), (45, 12, [0, 3, 4, 5, 7]), (45, 16, [0, 3, 4, 5, 8]), (46, 4, [0, 3, 4]), (47, 7, [4]), (50, 4, [3, 11, 12, 13]), (50, 8, [3, 5, 6, 11, 12, 13, 21, 22, 23]), (50, 13, [3, 6, 11, 12, 13, 35, 36, 37]), (52, 4, [1, 2, 10, 11, 12]), (53, 11, [0, 2, 44, 45, 46]), (54, 3, [2, 3, 7, 8, 9]), (57, 4, [3, 9, 10, 11]), (58, 4, [3, 10, 11, 12]), (59, 6, [1, 2, 4, 11, 12]), (64, 11, [0, 2, 4, 6, 9]), (65, 9, [0, 2, 4, 6, 8]), (65, 16, [0, 2, 4, 6, 10]), (65, 22, [0, 2, 4, 6, 12]), (67, 6, [1, 3, 4]), (68, 4, [0, 3, 4]), (71, 3, [0, 1, 4, 6]), (72, 4, [0, 1, 5, 6]), (73, 4, [1, 2, 5, 6]), (78, 4, [3, 14, 15, 16]), (79, 3, [0, 1, 7, 8]), (80, 4, [1, 3, 4]), (80, 8, [1, 3, 5]), (80, 12, [1, 3, 6]), (81, 4, [1, 3, 4]), (81, 8, [1, 3, 5]), (83, 4, [3]), (85, 4, [2, 5, 6]), (85, 8, [2, 5, 7]), (85, 13, [2, 5, 8]), (86, 4, [1, 3, 4]), (87, 4, [1, 3, 4]), (88, 4, [3, 5]), (91, 3, [1, 2, 3, 14, 15]), (91, 9, [1, 2, 3, 8, 14, 15, 45, 46]), (91, 16, [1, 2, 3, 8, 14, 15, 80, 81]), (92, 4, [3, 6, 7, 8]), (93, 4, [3, 7, 8, 9]), (94, 4, [4, 5, 10, 11, 12]), (96, 2, [1, 4, 5, 6]), (97, 12, [3, 45, 46, 47]), (98, 6, [1, 4, 5, 23, 24, 25]), (100, 5, [2, 3, 9, 10, 11]), (102, 4, [1, 2, 3, 4]), (103, 4, [1, 4, 5, 6]), (105, 5, [1, 2, 29, 30]), (122, 3, [1, 2, 7, 8]), (123, 5, [1, 2, 3, 19, 20]), (124, 4, [3, 7, 8, 9]), (125, 4, [1, 3, 4]), (127, 5, [1, 2, 20, 21]), (133, 5, [0, 5]), (134, 3, [0, 1, 5]), (137, 3, [0, 3])]
noncomputable def cuts : List (Nat × Nat × List Nat) := [(26, 23, [3, 5, 6, 7, 8, 9, 10, 13]), (26, 38, [3, 5, 6, 7, 8, 9, 10, 13, 16, 17, 18, 20, 21, 22, 90, 91, 92]), (26, 44, [3, 5, 6, 7, 8, 9, 10, 13, 16, 17, 18, 20, 25, 90, 91, 92]), (26, 47, [5, 6, 18]), (32, 5, [1, 3]), (33, 8, [0, 3, 5]), (33, 30, [0, 3, 5, 8, 9, 10, 13, 14]), (33, 39, [0, 3, 5, 8, 9, 13, 14]), (38, 9, [0, 3]), (40, 4, [1, 2, 3]), (40, 11, [1, 2, 3, 7, 8, 9]), (41, 14, [1, 3, 4]), (43, 13, [0, 4, 5, 6, 7]), (53, 5, [0, 2, 4, 9, 10]), (53, 10, [0, 2, 4]), (64, 6, [0, 2, 4, 6]), (64, 10, [0, 2, 4, 6]), (65, 8, [0, 2, 4, 6]), (67, 5, [1, 3]), (74, 12, [5, 8, 9]), (89, 17, [1, 2, 3, 4]), (116, 14, [1, 3, 5, 7, 8]), (120, 16, [1, 3, 4, 5, 6]), (121, 18, [1, 3, 4, 5, 56, 61]), (121, 24, [3, 4, 5]), (129, 14, [5, 10]), (129, 20, [5, 18]), (132, 7, [4, 5]), (143, 5, [3])]
noncomputable def rankl : List (Nat × Nat × List Nat) := [(19, 7, [1, 0, 2]), (26, 18, [1, 2, 3, 4, 5, 0, 6]), (26, 47, [1, 0, 2]), (28, 7, [1, 0, 2]), (33, 6, [1, 2, 3, 4, 5, 0, 6]), (33, 14, [1, 2, 3, 4, 5, 0, 6]), (33, 28, [1, 2, 3, 4, 5, 0, 6]), (33, 34, [0, 1, 2, 3, 4, 5, 6, 7, 8, 9, 11, 10, 12]), (33, 36, [1, 2, 3, 4, 5, 0, 6]), (59, 9, [0, 1, 2, 3, 5, 6, 4, 7]), (74, 12, [1, 2, 0, 3]), (74, 14, [1, 2, 0, 3]), (84, 3, [0, 1, 2, 3, 4, 6, 7, 8, 5, 9]), (84, 5, [0, 1, 2, 4, 5, 6, 3, 7]), (84, 7, [0, 1, 2, 4, 5, 6, 3, 7]), (84, 9, [0, 1, 2, 4, 5, 6, 3, 7]), (84, 12, [1, 2, 3, 0, 4]), (84, 17, [1, 2, 3, 0, 4]), (89, 3, [0, 1, 2, 3, 4, 6, 7, 8, 9, 10, 5, 11]), (89, 5, [0, 1, 3, 4, 5, 6, 7, 2, 8]), (89, 11, [0, 1, 2, 3, 4, 6, 7, 8, 9, 10, 5, 11]), (89, 13, [0, 1, 2, 3, 4, 6, 7, 8, 9, 10, 5, 11]), (89, 15, [0, 1, 2, 3, 4, 6, 7, 8, 9, 10, 5, 11]), (97, 7, [1, 2, 0, 3]), (97, 9, [1, 2, 0, 3]), (108, 1, [0, 1, 2, 4, 5, 6, 8, 9, 10, 12, 13, 14, 3, 7, 11, 15]), (116, 2, [0, 1, 2, 3, 4, 5, 6, 7, 8, 9, 10, 23, 11, 12, 13, 14, 15, 16, 25, 26, 27, 28, 29, 30, 17, 18, 19, 20, 21, 32, 22, 24, 31, 33])]
noncomputable def drawl : List (Nat × Nat × Bool × List (Option Nat)) := [(4, 3, false, [some 2, none, some 2, none, none, none, some 3, none, some 3, none, none, none, none, none, none, none]), (7, 3, false, [some 1, none, none, some 1, some 2, none, none, none, none, some 4]), (11, 6, false, [none, none, none, none, none, none, none, none, none]), (19, 7, false, [some 8, none, some 3]), (26, 4, false, [none, some 3, none, none, none]), (26, 18, false, [none, some 3, none, some 3, none, none, some 5]), (26, 47, false, [some 18, none, some 5]), (28, 7, false, [some 7, none, some 3]), (29, 9, true, [none, none, none, none, none, none, none, none, none, none, none, none, none, none, none, none, none, none, none, none, none, none, none, none, none, none, none]), (30, 11, false, [none, none, none, none, some 11, none]), (30, 13, false, [none, none, some 11, none, none, none, none, none, some 12]), (33, 6, false, [none, some 3, none, some 3, none, none, some 5]), (33, 14, false, [none, some 10, none, some 10, none, none, some 5]), (33, 28, false, [none, some 10, none, some 10, none, none, some 5]), (33, 34, false, [none, some 3, none, none, none, none, none, none, none, none, none, none, none]), (33, 36, false, [none, none, some 10, none, none, none, some 5]), (38, 4, false, [none, none, none, none, none, some 3, none, none]), (38, 5, false, [none, none, none, none, none, some 3, none, some 3, none]), (38, 7, false, [none, none, none, none, none, some 3, none, some 3, none, some 3, none, none]), (39, 1, false, [some 1, none, some 1, none, none, some 2]), (40, 14, true, [none, some 8, none, none, none, none, none, none, none, some 8, none, none, none, none, none, none, none, none, none, none]), (40, 22, true, [none, some 3, none, none, none, none, none, none, some 3, none, none, none, none, none, none, none, none, none]), (45, 9, true, [none, none, none, none, none, none, none, none, none, none, none, none, none, none, none, none, none, none, none, none, none, none, none]), (45, 13, true, [none, none, none, none, none, none, none, none, none, none, none, none, none, none, none, none, none, none, none, none, none, none, none, none, none]), (52, 5, false, [none, some 1, none, some 4, none, none, none]), (53, 8, false, [none, none, none, none, none, some 4, none, some 4, none, some 4, none, none]), (59, 9, false, [none, some 1, none, none, none, some 1, some 2, none]), (66, 4, false, [none, none, some 4, none, none, none, none, some 6]), (74, 12, false, [none, some 5, none, none]), (74, 14, false, [none, some 5, none, none]), (78, 1, false, [none, some 1, none, none, some 1, none, none, none]), (81, 9, true, [none, none, some 1, none, none, none, none, none, none, some 1, none, none, none, none, none, none, none]), (83, 5, false, [none, none, some 4, none, none, none, none, none, none]), (84, 3, false, [none, some 1, none, some 1, none, none, none, some 1, none, none]), (84, 5, false, [none, some 1, none, none, none, some 1, none, none]), (84, 7, false, [none, some 1, none, none, none, some 1, none, none]), (84, 9, false, [none, some 1, none, none, none, some 1, none, none]), (84, 12, false, [none, none, some 1, none, none]), (84, 17, false, [none, none, some 1, none, none]), (85, 9, false, [none, none, some 2, none, none, none, none, some 2, none, none, none, none, none, none, none, none]), (89, 3, true, [none, some 1, none, none, none, none, some 1, none, none, none, none, none]), (89, 5, true, [some 1, none, none, some 1, none, none, none, none, none]), (89, 11, true, [none, some 1, none, none, none, none, some 1, none, none, none, none, none]), (89, 13, true, [none, some 1, none, none, none, none, some 1, none, none, none, none, none]), (89, 15, true, [none, some 1, none, none, none, none, some 1, none, none, none, none, none]), (91, 5, false, [none, some 3, none, none, none, none, none, none, none, none, none, none, some 3, none, none, none, none, none, none, none]), (91, 11, false, [none, some 3, none, none, none, none, none, none, none, none, none, some 3, none, none, none, none, none, none, none, none]), (91, 18, false, [none, some 3, none, none, none, none, none, none, none, none, none, none, none, none, none, none, some 3, none, none, none, none, none, none, none, none, none, none, none]), (92, 5, false, [none, none, some 5, none, none, some 5, none, none, none]), (94, 5, false, [none, some 5, some 7, none, none, none, none, some 5]), (97, 7, false, [none, some 4, none, none]), (97, 9, false, [none, some 4, none, none]), (98, 7, false, [none, some 5, some 7, none, none, none, none, none, some 5]), (100, 6, false, [none, some 3, some 5, none, none, none, none, some 3]), (102, 5, false, [none, some 3, none, some 1, none, none, none, none, none, none, none, some 3]), (103, 5, false, [none, some 5, none, none, none, none, none, none, none, none, some 5]), (105, 1, false, [none, some 2, none, none, none, none, none, none, none, none, none, some 2, none, none, none, none, none, none, none]), (105, 6, false, [some 2, none, none, none, none, none, none, none, none]), (105, 9, false, [some 2, none, none, none, none, none, none]), (106, 1, false, [none, some 1, none, none, some 1, none, none, none]), (108, 1, false, [none, some 2, none, none, some 2, none, none, some 2, none, none, some 2, none, none, none, none, none]), (116, 2, false, [none, none, none, none, none, none, none, none, none, none, none, none, none, none, none, none, none, none, none, none, none, none, none, none, none, none, none, none, none, none, none, none, none, none]), (122, 4, false, [some 2, none, none, none, none, none, none, none, some 2, none, none, none, none, none, none, none]), (123, 6, false, [some 3, none, none, none, none, none, none, none, none, none]), (127, 1, false, [none, some 2, none, none, none, none, none, none, none, none]), (127, 6, false, [some 2, none, none, none, none, none, none, none, none])]
noncomputable def frzs : List (Nat × Nat × List Nat) := [(52, 7, [1])]
noncomputable def codes : List (Nat × Func) := [(3, Tryz.f3), (4, Tryz.f4), (5, Tryz.f5), (6, Tryz.f6), (7, Tryz.f7), (8, Tryz.f8), (9, Tryz.f9), (10, Tryz.f10), (11, Tryz.f11), (12, Tryz.f12), (13, Tryz.f13), (14, Tryz.f14), (15, Tryz.f15), (16, Tryz.f16), (17, Tryz.f17), (18, Tryz.f18), (19, Tryz.f19), (20, Tryz.f20), (21, Tryz.f21), (22, Tryz.f22), (23, Tryz.f23), (24, Tryz.f24), (25, Tryz.f25), (26, Tryz.f26), (27, Tryz.f27), (28, Tryz.f28), (29, Tryz.f29), (30, Tryz.f30), (31, Tryz.f31), (32, Tryz.f32), (33, Tryz.f33), (34, Tryz.f34), (35, Tryz.f35), (36, Tryz.f36), (37, Tryz.f37), (38, Tryz.f38), (39, Tryz.f39), (40, Tryz.f40), (41, Tryz.f41), (42, Tryz.f42), (43, Tryz.f43), (44, Tryz.f44), (45, Tryz.f45), (46, Tryz.f46), (47, Tryz.f47), (48, Tryz.f48), (49, Tryz.f49), (50, Tryz.f50), (51, Tryz.f51), (52, Tryz.f52), (53, Tryz.f53), (54, Tryz.f54), (55, Tryz.f55), (56, Tryz.f56), (57, Tryz.f57), (58, Tryz.f58), (59, Tryz.f59), (60, Tryz.f60), (61, Tryz.f61), (62, Tryz.f62), (63, Tryz.f63), (64, Tryz.f64), (65, Tryz.f65), (66, Tryz.f66), (67, Tryz.f67), (68, Tryz.f68), (69, Tryz.f69), (70, Tryz.f70), (71, Tryz.f71), (72, Tryz.f72), (73, Tryz.f73), (74, Tryz.f74), (75, Tryz.f75), (76, Tryz.f76), (77, Tryz.f77), (78, Tryz.f78), (79, Tryz.f79), (80, Tryz.f80), (81, Tryz.f81), (82, Tryz.f82), (83, Tryz.f83), (84, Tryz.f84), (85, Tryz.f85), (86, Tryz.f86), (87, Tryz.f87), (88, Tryz.f88), (89, Tryz.f89), (90, Tryz.f90), (91, Tryz.f91), (92, Tryz.f92), (93, Tryz.f93), (94, Tryz.f94), (95, Tryz.f95), (96, Tryz.f96), (97, Tryz.f97), (98, Tryz.f98), (99, Tryz.f99), (100, Tryz.f100), (101, Tryz.f101), (102, Tryz.f102), (103, Tryz.f103), (104, Tryz.f104), (105, Tryz.f105), (106, Tryz.f106), (107, Tryz.f107), (108, Tryz.f108), (109, Tryz.f109), (110, Tryz.f110), (111, Tryz.f111), (112, Tryz.f112), (113, Tryz.f113), (114, Tryz.f114), (115, Tryz.f115), (116, Tryz.f116), (117, Tryz.f117), (118, Tryz.f118), (119, Tryz.f119), (120, Tryz.f120), (121, Tryz.f121), (122, Tryz.f122), (123, Tryz.f123), (124, Tryz.f124), (125, Tryz.f125), (126, Tryz.f126), (127, Tryz.f127), (128, Tryz.f128), (129, Tryz.f129), (130, Tryz.f130), (131, Tryz.f131), (132, Tryz.f132), (133, Tryz.f133), (134, Tryz.f134), (135, Tryz.f135), (136, Tryz.f136), (137, Tryz.f137), (139, Tryz.f139), (140, Tryz.f140), (141, Tryz.f141), (142, Tryz.f142), (143, Tryz.f143), (144, Tryz.f144), (145, Tryz.f145), (146, Tryz.f146)]
noncomputable def exts : List (Nat × (List AV → Option AV)) := [(138, extContains)]
noncomputable def C : Cfg where
 ti t := tis.getD t {}
 mode f d := findMode f d modes
 keep f r := findKeep f r keeps
 cut f r := findCut f r cuts
 draws f r := findDraw f r drawl
 ranks f r := findKeep f r rankl
 frz f r := findKeep f r frzs
 glob _ := none
 ints := [0]
 ext f := findExt f exts
 code f := findCode f codes
noncomputable abbrev cw : CallFn := callw C
def Qbm : List UInt8 := [32, 97, 110, 100, 32, 97, 110, 100, 97, 108, 115, 111, 32, 97, 115, 32, 99, 97, 115, 101, 32, 100, 97, 116, 97, 116, 121, 112, 101, 32, 100, 105, 118, 32, 101, 108, 115, 101, 32, 101, 110, 100, 32, 101, 120, 99, 101, 112, 116, 105, 111, 110, 32, 102, 110, 32, 102, 117, 110, 32, 104, 97, 110, 100, 108, 101, 32, 105, 102, 32, 105, 110, 32, 108, 101, 116, 32, 109, 111, 100, 32, 111, 102, 32, 111, 114, 101, 108, 115, 101, 32, 112, 114, 105, 110, 116, 32, 114, 97, 105, 115, 101, 32, 114, 101, 97, 100, 32, 114, 101, 102, 32, 116, 104, 101, 110, 32, 118, 97, 108, 32, 116, 114, 117, 101, 32, 102, 97, 108, 115, 101, 32, 95, 32]
abbrev T_0 : Nat := 0
abbrev Q01 : Nat := 1
abbrev Q1 : Nat := 3
abbrev Ql : Nat := 4
abbrev QH : Nat := 5
abbrev Q2 : Nat := 9
abbrev Qq : Nat := 22
abbrev Qx : Nat := 25
abbrev Q5 : Nat := 27
abbrev Q3 : Nat := 29
abbrev Qs : Nat := 30
abbrev Qb : Nat := 31
abbrev Qj : Nat := 33
abbrev Qd : Nat := 34
abbrev Qy : Nat := 35
abbrev Qu : Nat := 36
abbrev Qg : Nat := 38
abbrev Qf : Nat := 40
abbrev Qt : Nat := 41
abbrev Qo : Nat := 43
abbrev Qe : Nat := 45
abbrev Zr : Nat := 51
abbrev QL : Nat := 55
abbrev Qw : Nat := 56
abbrev Qv : Nat := 57
abbrev QF : Nat := 58
abbrev Q3H : Nat := 60
abbrev Qr : Nat := 62
abbrev Qm : Nat := 63
abbrev Q7 : Nat := 65
abbrev Q1H : Nat := 67
abbrev Qi : Nat := 69
abbrev Qp : Nat := 78
abbrev ZN : Nat := 84
abbrev QW : Nat := 97
abbrev Zl : Nat := 105
abbrev Qc : Nat := 123
abbrev Q2x : Nat := 127
abbrev Q24 : Nat := 135
abbrev Q1c : Nat := 136
abbrev Q0D : Nat := 137
abbrev Q25 : Nat := 138
abbrev Q0i : Nat := 139
abbrev Q4J : Nat := 140
abbrev QM : Nat := 142
abbrev Qk : Nat := 144
abbrev Qz : Nat := 146
abbrev Qn : Nat := 151
abbrev Q0 : Nat := 182
abbrev Qhj : Nat := 3
abbrev Q2F : Nat := 4
abbrev Qin : Nat := 5
abbrev Q4B : Nat := 6
abbrev Q33 : Nat := 7
abbrev Q0B : Nat := 8
abbrev Qkj : Nat := 9
abbrev Q0Y : Nat := 10
abbrev Q0r : Nat := 11
abbrev Q3w : Nat := 12
abbrev Q5O : Nat := 13
abbrev Q37 : Nat := 14
abbrev Q36 : Nat := 15
abbrev Q4X : Nat := 16
abbrev Q5M : Nat := 17
abbrev Q3x : Nat := 18
abbrev Q6E : Nat := 19
abbrev Q3q : Nat := 20
abbrev Q0K : Nat := 21
abbrev QJ : Nat := 22
abbrev Q0L : Nat := 23
abbrev Q4A : Nat := 24
abbrev ZL : Nat := 25
abbrev Zu : Nat := 26
abbrev Q3v : Nat := 27
abbrev Qny : Nat := 28
abbrev Qkf : Nat := 29
abbrev Qmz : Nat := 30
abbrev Q2u : Nat := 31
abbrev Q0A : Nat := 32
abbrev Qmx : Nat := 33
abbrev Q3y : Nat := 34
abbrev Q0g : Nat := 35
abbrev QV : Nat := 36
abbrev Q1a : Nat := 37
abbrev QC : Nat := 38
abbrev Q3b : Nat := 39
abbrev QR : Nat := 40
abbrev Z6 : Nat := 41
abbrev Q2t : Nat := 42
abbrev Q0z : Nat := 43
abbrev Q3u : Nat := 44
abbrev Zv : Nat := 45
abbrev Q1P : Nat := 46
abbrev Q2k : Nat := 47
abbrev Q4o : Nat := 48
abbrev Q4m : Nat := 49
abbrev Zc : Nat := 50
abbrev ZR : Nat := 51
abbrev Q14 : Nat := 52
abbrev QU : Nat := 53
abbrev Z8 : Nat := 54
abbrev Q03 : Nat := 55
abbrev Q0M : Nat := 56
abbrev Q32 : Nat := 57
abbrev Q3r : Nat := 58
abbrev Q2N : Nat := 59
abbrev Q5L : Nat := 60
abbrev QaK : Nat := 61
abbrev Qct : Nat := 62
abbrev Qkh : Nat := 63
abbrev QmC : Nat := 64
abbrev QmA : Nat := 65
abbrev QmB : Nat := 66
abbrev Zw : Nat := 67
abbrev Qjn : Nat := 68
abbrev Qio : Nat := 69
abbrev Qkg : Nat := 70
abbrev QkH : Nat := 71
abbrev QkG : Nat := 72
abbrev Q17 : Nat := 73
abbrev Qki : Nat := 74
abbrev Qnw : Nat := 75
abbrev Q2H : Nat := 76
abbrev Q2G : Nat := 77
abbrev ZM : Nat := 78
abbrev Z2 : Nat := 79
abbrev Zk : Nat := 80
abbrev QS : Nat := 81
abbrev Zb : Nat := 82
abbrev Q2O : Nat := 83
abbrev Q4Z : Nat := 84
abbrev Q00 : Nat := 85
abbrev Za : Nat := 86
abbrev Q0f : Nat := 87
abbrev Q3z : Nat := 88
abbrev Q0O : Nat := 89
abbrev Q3c : Nat := 90
abbrev Z4 : Nat := 91
abbrev Zn : Nat := 92
abbrev Q0C : Nat := 93
abbrev Q4p : Nat := 94
abbrev Zp : Nat := 95
abbrev QD : Nat := 96
abbrev Q15 : Nat := 97
abbrev Q2P : Nat := 98
abbrev Q7Y : Nat := 99
abbrev Q4q : Nat := 100
abbrev Qmy : Nat := 101
abbrev Qjm : Nat := 102
abbrev Qnx : Nat := 103
abbrev Q2b : Nat := 104
abbrev Zq : Nat := 105
abbrev Q16 : Nat := 106
abbrev Q4n : Nat := 107
abbrev Q7d : Nat := 108
abbrev Q7e : Nat := 109
abbrev Q7f : Nat := 110
abbrev Q7X : Nat := 111
abbrev Q0Z : Nat := 112
abbrev Q4l : Nat := 113
abbrev Q2f : Nat := 114
abbrev Q2I : Nat := 115
abbrev ZV : Nat := 116
abbrev Q1G : Nat := 117
abbrev Q3E : Nat := 118
abbrev Q3F : Nat := 119
abbrev Q2g : Nat := 120
abbrev Q1b : Nat := 121
abbrev Ze : Nat := 122
abbrev Zf : Nat := 123
abbrev Q0h : Nat := 124
abbrev Q0y : Nat := 125
abbrev Z3 : Nat := 126
abbrev QT : Nat := 127
abbrev Q0J : Nat := 128
abbrev Q18 : Nat := 129
abbrev Q4C : Nat := 130
abbrev Q35 : Nat := 131
abbrev Q3t : Nat := 132
abbrev Q19 : Nat := 133
abbrev Q34 : Nat := 134
abbrev Q4Y : Nat := 135
abbrev Q3D : Nat := 136
abbrev Q3C : Nat := 137
abbrev Q2j : Nat := 138
abbrev Q2v : Nat := 139
abbrev Q8t : Nat := 140
abbrev Q0N : Nat := 141
abbrev Q3B : Nat := 142
abbrev Q3s : Nat := 143
abbrev Q4k : Nat := 144
abbrev Q5N : Nat := 145
abbrev Q3A : Nat := 146
@[go_sem] theorem Q8v : (C.ti Q01).size = 1 := by kernel_rfl
@[go_sem] theorem Qo2 : (C.ti Q01).k = .func := by kernel_rfl
@[go_sem] theorem Qlx : (C.ti Q01).isAgg = false := by kernel_rfl
@[go_sem] theorem QkE : (C.ti Q01).isGood = true := by kernel_rfl
@[go_sem] theorem Qcu : (C.ti Q01).bytes = 8 := by kernel_rfl
@[go_sem] theorem QkF : (C.ti Q01).zero = [.nilf] := by kernel_rfl
@[go_sem] theorem QgN : (C.ti Q1).size = 1 := by kernel_rfl
@[go_sem] theorem Q2w : (C.ti Q1).k = .int .i64 := by kernel_rfl
@[go_sem] theorem Qhz : (C.ti Q1).isAgg = false := by kernel_rfl
@[go_sem] theorem QgM : (C.ti Q1).isGood = true := by kernel_rfl
@[go_sem] theorem QgO : (C.ti Q1).zero = [.int .i64 0] := by kernel_rfl
@[go_sem] theorem QmZ : (C.ti Ql).size = 1 := by kernel_rfl
@[go_sem] theorem Qir : (C.ti Ql).k = .bool := by kernel_rfl
@[go_sem] theorem QnW : (C.ti Ql).isAgg = false := by kernel_rfl
@[go_sem] theorem QmY : (C.ti Ql).isGood = true := by kernel_rfl
@[go_sem] theorem Qn0 : (C.ti Ql).zero = [.bool false] := by kernel_rfl
@[go_sem] theorem Qlt : (C.ti QH).size = 1 := by kernel_rfl
@[go_sem] theorem Qqe : (C.ti QH).k = .int .u8 := by kernel_rfl
@[go_sem] theorem Qn2 : (C.ti QH).isAgg = false := by kernel_rfl
@[go_sem] theorem Qls : (C.ti QH).isGood = true := by kernel_rfl
@[go_sem] theorem Qlu : (C.ti QH).zero = [.int .u8 0] := by kernel_rfl
@[go_sem] theorem Z7 : (C.ti Q2).size = 1 := by kernel_rfl
@[go_sem] theorem QE : (C.ti Q2).k = .str := by kernel_rfl
@[go_sem] theorem Qlo : (C.ti Q2).isAgg = false := by kernel_rfl
@[go_sem] theorem Qkz : (C.ti Q2).isGood = true := by kernel_rfl
@[go_sem] theorem Q1d : (C.ti Q2).bytes = 16 := by kernel_rfl
@[go_sem] theorem QkA : (C.ti Q2).zero = [.str []] := by kernel_rfl
@[go_sem] theorem Ql7 : (C.ti Qq).size = 1 := by kernel_rfl
@[go_sem] theorem Qht : (C.ti Qq).k = .slice 38 := by kernel_rfl
@[go_sem] theorem QmQ : (C.ti Qq).isAgg = false := by kernel_rfl
@[go_sem] theorem Ql6 : (C.ti Qq).isGood = true := by kernel_rfl
@[go_sem] theorem Ql8 : (C.ti Qq).zero = [.nils] := by kernel_rfl
@[go_sem] theorem QkJ : (C.ti Qx).size = 1 := by kernel_rfl
@[go_sem] theorem Qq2 : (C.ti Qx).k = .int .i64 := by kernel_rfl
@[go_sem] theorem QmG : (C.ti Qx).isAgg = false := by kernel_rfl
@[go_sem] theorem QkI : (C.ti Qx).isGood = true := by kernel_rfl
@[go_sem] theorem QkK : (C.ti Qx).zero = [.int .i64 0] := by kernel_rfl
@[go_sem] theorem QnB : (C.ti Q5).size = 3 := by kernel_rfl
@[go_sem] theorem Qjo : (C.ti Q5).k = .struct [(0, 25), (1, 3), (2, 9)] := by kernel_rfl
@[go_sem] theorem Qq1 : (C.ti Q5).isAgg = true := by kernel_rfl
@[go_sem] theorem QnA : (C.ti Q5).isGood = true := by kernel_rfl
@[go_sem] theorem QnC : (C.ti Q5).zero = [.int .i64 0, .int .i64 0, .str []] := by kernel_rfl
@[go_sem] theorem QgK : (C.ti Q5).flat = [.int .i64, .int .i64, .str] := by kernel_rfl
@[go_sem] theorem Qju : (C.ti Q3).size = 1 := by kernel_rfl
@[go_sem] theorem QfK : (C.ti Q3).k = .int .i64 := by kernel_rfl
@[go_sem] theorem Qkl : (C.ti Q3).isAgg = false := by kernel_rfl
@[go_sem] theorem Qjt : (C.ti Q3).isGood = true := by kernel_rfl
@[go_sem] theorem Qjv : (C.ti Q3).zero = [.int .i64 0] := by kernel_rfl
@[go_sem] theorem Qla : (C.ti Qs).size = 1 := by kernel_rfl
@[go_sem] theorem Qhu : (C.ti Qs).k = .slice 33 := by kernel_rfl
@[go_sem] theorem QmR : (C.ti Qs).isAgg = false := by kernel_rfl
@[go_sem] theorem Ql9 : (C.ti Qs).isGood = true := by kernel_rfl
@[go_sem] theorem Qlb : (C.ti Qs).zero = [.nils] := by kernel_rfl
@[go_sem] theorem Qkr : (C.ti Qb).size = 1 := by kernel_rfl
@[go_sem] theorem Qbo : (C.ti Qb).k = .slice 78 := by kernel_rfl
@[go_sem] theorem Ql2 : (C.ti Qb).isAgg = false := by kernel_rfl
@[go_sem] theorem Qkq : (C.ti Qb).isGood = true := by kernel_rfl
@[go_sem] theorem Qks : (C.ti Qb).zero = [.nils] := by kernel_rfl
@[go_sem] theorem QnK : (C.ti Qj).size = 7 := by kernel_rfl
@[go_sem] theorem Qgl : (C.ti Qj).k = .struct [(0, 29), (1, 3), (2, 9), (3, 3), (4, 30), (5, 31), (6, 22)] := by kernel_rfl
@[go_sem] theorem Qhp : (C.ti Qj).isAgg = true := by kernel_rfl
@[go_sem] theorem QnJ : (C.ti Qj).isGood = true := by kernel_rfl
@[go_sem] theorem QnL : (C.ti Qj).zero = [.int .i64 0, .int .i64 0, .str [], .int .i64 0, .nils, .nils, .nils] := by kernel_rfl
@[go_sem] theorem Qjr : (C.ti Qd).size = 1 := by kernel_rfl
@[go_sem] theorem QfJ : (C.ti Qd).k = .int .i64 := by kernel_rfl
@[go_sem] theorem Qkk : (C.ti Qd).isAgg = false := by kernel_rfl
@[go_sem] theorem Qjq : (C.ti Qd).isGood = true := by kernel_rfl
@[go_sem] theorem Qjs : (C.ti Qd).zero = [.int .i64 0] := by kernel_rfl
@[go_sem] theorem Ql4 : (C.ti Qy).size = 1 := by kernel_rfl
@[go_sem] theorem Qhs : (C.ti Qy).k = .slice 105 := by kernel_rfl
@[go_sem] theorem QmP : (C.ti Qy).isAgg = false := by kernel_rfl
@[go_sem] theorem Ql3 : (C.ti Qy).isGood = true := by kernel_rfl
@[go_sem] theorem Ql5 : (C.ti Qy).zero = [.nils] := by kernel_rfl
@[go_sem] theorem Qld : (C.ti Qu).size = 1 := by kernel_rfl
@[go_sem] theorem Qhv : (C.ti Qu).k = .slice 97 := by kernel_rfl
@[go_sem] theorem QmS : (C.ti Qu).isAgg = false := by kernel_rfl
@[go_sem] theorem Qlc : (C.ti Qu).isGood = true := by kernel_rfl
@[go_sem] theorem Qle : (C.ti Qu).zero = [.nils] := by kernel_rfl
@[go_sem] theorem QnH : (C.ti Qg).size = 7 := by kernel_rfl
@[go_sem] theorem Qgk : (C.ti Qg).k = .struct [(0, 34), (1, 3), (2, 9), (3, 3), (4, 35), (5, 31), (6, 36)] := by kernel_rfl
@[go_sem] theorem Qho : (C.ti Qg).isAgg = true := by kernel_rfl
@[go_sem] theorem QnG : (C.ti Qg).isGood = true := by kernel_rfl
@[go_sem] theorem QnI : (C.ti Qg).zero = [.int .i64 0, .int .i64 0, .str [], .int .i64 0, .nils, .nils, .nils] := by kernel_rfl
@[go_sem] theorem Qjy : (C.ti Qf).size = 1 := by kernel_rfl
@[go_sem] theorem QfL : (C.ti Qf).k = .int .i64 := by kernel_rfl
@[go_sem] theorem Qkp : (C.ti Qf).isAgg = false := by kernel_rfl
@[go_sem] theorem Qjx : (C.ti Qf).isGood = true := by kernel_rfl
@[go_sem] theorem Qjz : (C.ti Qf).zero = [.int .i64 0] := by kernel_rfl
@[go_sem] theorem Qlg : (C.ti Qt).size = 1 := by kernel_rfl
@[go_sem] theorem Qhw : (C.ti Qt).k = .slice 43 := by kernel_rfl
@[go_sem] theorem QmT : (C.ti Qt).isAgg = false := by kernel_rfl
@[go_sem] theorem Qlf : (C.ti Qt).isGood = true := by kernel_rfl
@[go_sem] theorem Qlh : (C.ti Qt).zero = [.nils] := by kernel_rfl
@[go_sem] theorem QnS : (C.ti Qo).size = 5 := by kernel_rfl
@[go_sem] theorem Qgm : (C.ti Qo).k = .struct [(0, 40), (1, 3), (2, 9), (3, 3), (4, 41)] := by kernel_rfl
@[go_sem] theorem Qhr : (C.ti Qo).isAgg = true := by kernel_rfl
@[go_sem] theorem QnR : (C.ti Qo).isGood = true := by kernel_rfl
@[go_sem] theorem QnT : (C.ti Qo).zero = [.int .i64 0, .int .i64 0, .str [], .int .i64 0, .nils] := by kernel_rfl
@[go_sem] theorem Qjh : (C.ti Qe).size = 1 := by kernel_rfl
@[go_sem] theorem Qli : (C.ti Qe).k = .slice 9 := by kernel_rfl
@[go_sem] theorem QjA : (C.ti Qe).isAgg = false := by kernel_rfl
@[go_sem] theorem Qjg : (C.ti Qe).isGood = true := by kernel_rfl
@[go_sem] theorem Qji : (C.ti Qe).zero = [.nils] := by kernel_rfl
@[go_sem] theorem Qll : (C.ti Zr).size = 1 := by kernel_rfl
@[go_sem] theorem Qq9 : (C.ti Zr).k = .slice 69 := by kernel_rfl
@[go_sem] theorem QmX : (C.ti Zr).isAgg = false := by kernel_rfl
@[go_sem] theorem Qlk : (C.ti Zr).isGood = true := by kernel_rfl
@[go_sem] theorem Qlm : (C.ti Zr).zero = [.nils] := by kernel_rfl
@[go_sem] theorem Qkn : (C.ti QL).size = 1 := by kernel_rfl
@[go_sem] theorem QnQ : (C.ti QL).k = .ptr := by kernel_rfl
@[go_sem] theorem Ql0 : (C.ti QL).isAgg = false := by kernel_rfl
@[go_sem] theorem Qkm : (C.ti QL).isGood = true := by kernel_rfl
@[go_sem] theorem Qko : (C.ti QL).zero = [.nilp] := by kernel_rfl
@[go_sem] theorem QfH : (C.ti Qw).size = 1 := by kernel_rfl
@[go_sem] theorem QgP : (C.ti Qw).k = .map 9 3 := by kernel_rfl
@[go_sem] theorem QfN : (C.ti Qw).isAgg = false := by kernel_rfl
@[go_sem] theorem QfG : (C.ti Qw).isGood = true := by kernel_rfl
@[go_sem] theorem QfI : (C.ti Qw).zero = [.nilm] := by kernel_rfl
@[go_sem] theorem Qcw : (C.ti Qv).size = 1 := by kernel_rfl
@[go_sem] theorem Qen : (C.ti Qv).k = .func := by kernel_rfl
@[go_sem] theorem Qdd : (C.ti Qv).isAgg = false := by kernel_rfl
@[go_sem] theorem Qcv : (C.ti Qv).isGood = true := by kernel_rfl
@[go_sem] theorem Qcx : (C.ti Qv).zero = [.nilf] := by kernel_rfl
@[go_sem] theorem Qex : (C.ti QF).size = 1 := by kernel_rfl
@[go_sem] theorem Qgn : (C.ti QF).k = .func := by kernel_rfl
@[go_sem] theorem QfF : (C.ti QF).isAgg = false := by kernel_rfl
@[go_sem] theorem Qew : (C.ti QF).isGood = true := by kernel_rfl
@[go_sem] theorem Qey : (C.ti QF).zero = [.nilf] := by kernel_rfl
@[go_sem] theorem Qn4 : (C.ti Q3H).size = 8 := by kernel_rfl
@[go_sem] theorem QqX : (C.ti Q3H).k = .struct [(0, 56), (1, 27), (4, 57), (5, 58), (6, 4), (7, 4)] := by kernel_rfl
@[go_sem] theorem Qo0 : (C.ti Q3H).isAgg = true := by kernel_rfl
@[go_sem] theorem Qn3 : (C.ti Q3H).isGood = true := by kernel_rfl
@[go_sem] theorem Qn5 : (C.ti Q3H).zero = [.nilm, .int .i64 0, .int .i64 0, .str [], .nilf, .nilf, .bool false, .bool false] := by kernel_rfl
@[go_sem] theorem Qkx : (C.ti Qr).size = 1 := by kernel_rfl
@[go_sem] theorem QgL : (C.ti Qr).k = .int .i64 := by kernel_rfl
@[go_sem] theorem Qln : (C.ti Qr).isAgg = false := by kernel_rfl
@[go_sem] theorem Qkw : (C.ti Qr).isGood = true := by kernel_rfl
@[go_sem] theorem Qky : (C.ti Qr).zero = [.int .i64 0] := by kernel_rfl
@[go_sem] theorem QmV : (C.ti Qm).size = 1 := by kernel_rfl
@[go_sem] theorem Q80 : (C.ti Qm).k = .slice 65 := by kernel_rfl
@[go_sem] theorem QnU : (C.ti Qm).isAgg = false := by kernel_rfl
@[go_sem] theorem QmU : (C.ti Qm).isGood = true := by kernel_rfl
@[go_sem] theorem QmW : (C.ti Qm).zero = [.nils] := by kernel_rfl
@[go_sem] theorem ZS : (C.ti Q7).size = 4 := by kernel_rfl
@[go_sem] theorem Qhy : (C.ti Q7).k = .struct [(0, 62), (1, 3), (2, 9), (3, 63)] := by kernel_rfl
@[go_sem] theorem Qeu : (C.ti Q7).isAgg = true := by kernel_rfl
@[go_sem] theorem Qqa : (C.ti Q7).isGood = true := by kernel_rfl
@[go_sem] theorem Qbp : (C.ti Q7).bytes = 56 := by kernel_rfl
@[go_sem] theorem Qqb : (C.ti Q7).zero = [.int .i64 0, .int .i64 0, .str [], .nils] := by kernel_rfl
@[go_sem] theorem Qku : (C.ti Q1H).size = 5 := by kernel_rfl
@[go_sem] theorem QnV : (C.ti Q1H).k = .struct [(0, 3), (1, 65)] := by kernel_rfl
@[go_sem] theorem Qlj : (C.ti Q1H).isAgg = true := by kernel_rfl
@[go_sem] theorem Qkt : (C.ti Q1H).isGood = true := by kernel_rfl
@[go_sem] theorem Qkv : (C.ti Q1H).zero = [.int .i64 0, .int .i64 0, .int .i64 0, .str [], .nils] := by kernel_rfl
@[go_sem] theorem Q3G : (C.ti Qi).size = 10 := by kernel_rfl
@[go_sem] theorem Qq8 : (C.ti Qi).k = .struct [(0, 9), (1, 9), (2, 3), (3, 3), (4, 4), (5, 67)] := by kernel_rfl
@[go_sem] theorem QfM : (C.ti Qi).isAgg = true := by kernel_rfl
@[go_sem] theorem Ql1 : (C.ti Qi).isGood = true := by kernel_rfl
@[go_sem] theorem Q8u : (C.ti Qi).bytes = 120 := by kernel_rfl
@[go_sem] theorem Qet : (C.ti Qi).zero = [.str [], .str [], .int .i64 0, .int .i64 0, .bool false, .int .i64 0, .int .i64 0, .int .i64 0, .str [], .nils] := by kernel_rfl
@[go_sem] theorem QmE : (C.ti Qp).size = 12 := by kernel_rfl
@[go_sem] theorem Qip : (C.ti Qp).k = .struct [(0, 43), (5, 33)] := by kernel_rfl
@[go_sem] theorem Qbn : (C.ti Qp).isAgg = true := by kernel_rfl
@[go_sem] theorem QmD : (C.ti Qp).isGood = true := by kernel_rfl
@[go_sem] theorem QmF : (C.ti Qp).zero = [.int .i64 0, .int .i64 0, .str [], .int .i64 0, .nils, .int .i64 0, .int .i64 0, .str [], .int .i64 0, .nils, .nils, .nils] := by kernel_rfl
@[go_sem] theorem Qhl : (C.ti ZN).size = 1 := by kernel_rfl
@[go_sem] theorem Qiq : (C.ti ZN).k = .slice 123 := by kernel_rfl
@[go_sem] theorem Qhx : (C.ti ZN).isAgg = false := by kernel_rfl
@[go_sem] theorem Qhk : (C.ti ZN).isGood = true := by kernel_rfl
@[go_sem] theorem Qhm : (C.ti ZN).zero = [.nils] := by kernel_rfl
@[go_sem] theorem QnN : (C.ti QW).size = 14 := by kernel_rfl
@[go_sem] theorem Qjw : (C.ti QW).k = .struct [(0, 9), (1, 3), (2, 78)] := by kernel_rfl
@[go_sem] theorem Qhq : (C.ti QW).isAgg = true := by kernel_rfl
@[go_sem] theorem QnM : (C.ti QW).isGood = true := by kernel_rfl
@[go_sem] theorem QnO : (C.ti QW).zero = [.str [], .int .i64 0, .int .i64 0, .int .i64 0, .str [], .int .i64 0, .nils, .int .i64 0, .int .i64 0, .str [], .int .i64 0, .nils, .nils, .nils] := by kernel_rfl
@[go_sem] theorem QnE : (C.ti Zl).size = 7 := by kernel_rfl
@[go_sem] theorem Qjp : (C.ti Zl).k = .struct [(0, 9), (1, 3), (2, 4), (3, 65)] := by kernel_rfl
@[go_sem] theorem Qhn : (C.ti Zl).isAgg = true := by kernel_rfl
@[go_sem] theorem QnD : (C.ti Zl).isGood = true := by kernel_rfl
@[go_sem] theorem QnF : (C.ti Zl).zero = [.str [], .int .i64 0, .bool false, .int .i64 0, .int .i64 0, .str [], .nils] := by kernel_rfl
@[go_sem] theorem Q55 : (C.ti Qc).size = 47 := by kernel_rfl
@[go_sem] theorem QjB : (C.ti Qc).k = .struct [(0, 3), (1, 4), (2, 3), (3, 38), (10, 33), (17, 43), (22, 65), (26, 97), (40, 105)] := by kernel_rfl
@[go_sem] theorem Qis : (C.ti Qc).isAgg = true := by kernel_rfl
@[go_sem] theorem Qil : (C.ti Qc).isGood = true := by kernel_rfl
@[go_sem] theorem Q92 : (C.ti Qc).bytes = 656 := by kernel_rfl
@[go_sem] theorem Qim : (C.ti Qc).zero = [.int .i64 0, .bool false, .int .i64 0, .int .i64 0, .int .i64 0, .str [], .int .i64 0, .nils, .nils, .nils, .int .i64 0, .int .i64 0, .str [], .int .i64 0, .nils, .nils, .nils, .int .i64 0, .int .i64 0, .str [], .int .i64 0, .nils, .int .i64 0, .int .i64 0, .str [], .nils, .str [], .int .i64 0, .int .i64 0, .int .i64 0, .str [], .int .i64 0, .nils, .int .i64 0, .int .i64 0, .str [], .int .i64 0, .nils, .nils, .nils, .str [], .int .i64 0, .bool false, .int .i64 0, .int .i64 0, .str [], .nils] := by kernel_rfl
@[go_sem] theorem Qjk : (C.ti Q2x).size = 1 := by kernel_rfl
@[go_sem] theorem Qlw : (C.ti Q2x).k = .slice 1 := by kernel_rfl
@[go_sem] theorem QjC : (C.ti Q2x).isAgg = false := by kernel_rfl
@[go_sem] theorem Qjj : (C.ti Q2x).isGood = true := by kernel_rfl
@[go_sem] theorem Qjl : (C.ti Q2x).zero = [.nils] := by kernel_rfl
@[go_sem] theorem QkP : (C.ti Q24).size = 1 := by kernel_rfl
@[go_sem] theorem Qq4 : (C.ti Q24).k = .ptr := by kernel_rfl
@[go_sem] theorem QmI : (C.ti Q24).isAgg = false := by kernel_rfl
@[go_sem] theorem QkO : (C.ti Q24).isGood = true := by kernel_rfl
@[go_sem] theorem QkQ : (C.ti Q24).zero = [.nilp] := by kernel_rfl
@[go_sem] theorem QkV : (C.ti Q1c).size = 1 := by kernel_rfl
@[go_sem] theorem Qq6 : (C.ti Q1c).k = .ptr := by kernel_rfl
@[go_sem] theorem QmK : (C.ti Q1c).isAgg = false := by kernel_rfl
@[go_sem] theorem QkU : (C.ti Q1c).isGood = true := by kernel_rfl
@[go_sem] theorem QkW : (C.ti Q1c).zero = [.nilp] := by kernel_rfl
@[go_sem] theorem QkM : (C.ti Q0D).size = 1 := by kernel_rfl
@[go_sem] theorem Qq3 : (C.ti Q0D).k = .ptr := by kernel_rfl
@[go_sem] theorem QmH : (C.ti Q0D).isAgg = false := by kernel_rfl
@[go_sem] theorem QkL : (C.ti Q0D).isGood = true := by kernel_rfl
@[go_sem] theorem QkN : (C.ti Q0D).zero = [.nilp] := by kernel_rfl
@[go_sem] theorem QkS : (C.ti Q25).size = 1 := by kernel_rfl
@[go_sem] theorem Qq5 : (C.ti Q25).k = .ptr := by kernel_rfl
@[go_sem] theorem QmJ : (C.ti Q25).isAgg = false := by kernel_rfl
@[go_sem] theorem QkR : (C.ti Q25).isGood = true := by kernel_rfl
@[go_sem] theorem QkT : (C.ti Q25).zero = [.nilp] := by kernel_rfl
@[go_sem] theorem QkY : (C.ti Q0i).size = 1 := by kernel_rfl
@[go_sem] theorem Qq7 : (C.ti Q0i).k = .ptr := by kernel_rfl
@[go_sem] theorem QmL : (C.ti Q0i).isAgg = false := by kernel_rfl
@[go_sem] theorem QkX : (C.ti Q0i).isGood = true := by kernel_rfl
@[go_sem] theorem QkZ : (C.ti Q0i).zero = [.nilp] := by kernel_rfl
@[go_sem] theorem QmN : (C.ti Q4J).size = 1 := by kernel_rfl
@[go_sem] theorem QqW : (C.ti Q4J).k = .ptr := by kernel_rfl
@[go_sem] theorem QnP : (C.ti Q4J).isAgg = false := by kernel_rfl
@[go_sem] theorem QmM : (C.ti Q4J).isGood = true := by kernel_rfl
@[go_sem] theorem QmO : (C.ti Q4J).zero = [.nilp] := by kernel_rfl
@[go_sem] theorem Qlq : (C.ti QM).size = 8 := by kernel_rfl
@[go_sem] theorem Qqd : (C.ti QM).k = .struct [(0, 135), (1, 4), (2, 136), (3, 137), (4, 138), (5, 139), (6, 140), (7, 3)] := by kernel_rfl
@[go_sem] theorem Qn1 : (C.ti QM).isAgg = true := by kernel_rfl
@[go_sem] theorem Qlp : (C.ti QM).isGood = true := by kernel_rfl
@[go_sem] theorem Qlr : (C.ti QM).zero = [.nilp, .bool false, .nilp, .nilp, .nilp, .nilp, .nilp, .int .i64 0] := by kernel_rfl
@[go_sem] theorem Qcr : (C.ti Qk).size = 1 := by kernel_rfl
@[go_sem] theorem QdQ : (C.ti Qk).k = .func := by kernel_rfl
@[go_sem] theorem Qcy : (C.ti Qk).isAgg = false := by kernel_rfl
@[go_sem] theorem Qcq : (C.ti Qk).isGood = true := by kernel_rfl
@[go_sem] theorem Qcs : (C.ti Qk).zero = [.nilf] := by kernel_rfl
@[go_sem] theorem QkC : (C.ti Qz).size = 1 := by kernel_rfl
@[go_sem] theorem Qo1 : (C.ti Qz).k = .struct [(0, 144)] := by kernel_rfl
@[go_sem] theorem Qlv : (C.ti Qz).isAgg = true := by kernel_rfl
@[go_sem] theorem QkB : (C.ti Qz).isGood = true := by kernel_rfl
@[go_sem] theorem QkD : (C.ti Qz).zero = [.nilf] := by kernel_rfl
@[go_sem] theorem Q90 : (C.ti Qn).size = 1 := by kernel_rfl
@[go_sem] theorem Q9Y : (C.ti Qn).k = .func := by kernel_rfl
@[go_sem] theorem Q93 : (C.ti Qn).isAgg = false := by kernel_rfl
@[go_sem] theorem Q8Z : (C.ti Qn).isGood = true := by kernel_rfl
@[go_sem] theorem Q91 : (C.ti Qn).zero = [.nilf] := by kernel_rfl
@[go_sem] theorem QnY : (C.ti Q0).size = 6 := by kernel_rfl
@[go_sem] theorem Qsj : (C.ti Q0).k = .struct [(0, 4), (1, 4), (2, 4), (3, 4), (4, 3), (5, 3)] := by kernel_rfl
@[go_sem] theorem Qqc : (C.ti Q0).isAgg = true := by kernel_rfl
@[go_sem] theorem QnX : (C.ti Q0).isGood = true := by kernel_rfl
@[go_sem] theorem QnZ : (C.ti Q0).zero = [.bool false, .bool false, .bool false, .bool false, .int .i64 0, .int .i64 0] := by kernel_rfl
noncomputable def gC (T : Nat) (k : Nat) (c : List Slot) (K : Slot → Res) : Res := bind1 (ofSlots (C.ti T) (List.take (C.ti T).size (List.drop k c))) K
@[go_sem] theorem Qtd (T : Nat) (k : Nat) (c : List Slot) (K : Slot → Res) : gC T k c K = bind1 (ofSlots (C.ti T) (List.take (C.ti T).size (List.drop k c))) K := id rfl
@[congr] theorem QrC {T : Nat} {k : Nat} {c c' : List Slot} {K : Slot → Res} (h0 : c = c') : gC T k c K = gC T k c' K := by rw [h0]
noncomputable def gA (T : Nat) (c : List Slot) (K : Slot → Res) : Res := bind1 (ofSlots (C.ti T) (List.take (C.ti T).size c)) K
@[go_sem] theorem Qtb (T : Nat) (c : List Slot) (K : Slot → Res) : gA T c K = bind1 (ofSlots (C.ti T) (List.take (C.ti T).size c)) K := id rfl
@[congr] theorem QrA {T : Nat} {c c' : List Slot} {K : Slot → Res} (h0 : c = c') : gA T c K = gA T c' K := by rw [h0]
noncomputable def bx (T : Nat) (v : Slot) (K : List Slot → Res) : Res := bindL (boxCells (C.ti T) v) K
@[go_sem] theorem Qt5 (T : Nat) (v : Slot) (K : List Slot → Res) : bx T v K = bindL (boxCells (C.ti T) v) K := id rfl
@[congr] theorem Qrj {T : Nat} {v v' : Slot} {K : List Slot → Res} (h0 : v = v') : bx T v K = bx T v' K := by rw [h0]
noncomputable def pZ (T : Nat) (c : List Slot) (K : List Slot → Res) : Res := bindL (putAt (List.map .val (C.ti T).zero) 0 c) K
@[go_sem] theorem Qtx (T : Nat) (c : List Slot) (K : List Slot → Res) : pZ T c K = bindL (putAt (List.map .val (C.ti T).zero) 0 c) K := id rfl
@[congr] theorem Qsd {T : Nat} {c c' : List Slot} {K : List Slot → Res} (h0 : c = c') : pZ T c K = pZ T c' K := by rw [h0]
noncomputable def bn (T : Nat) (op : BinOp) (x : Slot) (y : Slot) (K : Slot → Res) : Res := bind1 (binS (C.ti T) op x y) K
@[go_sem] theorem Qep (T : Nat) (op : BinOp) (x : Slot) (y : Slot) (K : Slot → Res) : bn T op x y K = bind1 (binS (C.ti T) op x y) K := id rfl
@[congr] theorem Qrf {T : Nat} {op : BinOp} {x x' : Slot} {y y' : Slot} {K : Slot → Res} (h0 : x = x') (h1 : y = y') : bn T op x y K = bn T op x' y' K := by rw [h0, h1]
noncomputable def ix (T : Nat) (x : Slot) (i : Slot) (K : Slot → Res) : Res := bind1 (ixS (C.ti T).size x i) K
@[go_sem] theorem Qts (T : Nat) (x : Slot) (i : Slot) (K : Slot → Res) : ix T x i K = bind1 (ixS (C.ti T).size x i) K := id rfl
@[congr] theorem QrW {T : Nat} {x x' : Slot} {i i' : Slot} {K : Slot → Res} (h0 : x = x') (h1 : i = i') : ix T x i K = ix T x' i' K := by rw [h0, h1]
noncomputable def ld (T : Nat) (s : St) (a : Slot) (K : Slot → Res) : Res := bind1 (ldV (C.ti T) false s a) K
@[go_sem] theorem Qtt (T : Nat) (s : St) (a : Slot) (K : Slot → Res) : ld T s a K = bind1 (ldV (C.ti T) false s a) K := id rfl
@[congr] theorem QrX {T : Nat} {s s' : St} {a a' : Slot} {K : Slot → Res} (h0 : s = s') (h1 : a = a') : ld T s a K = ld T s' a' K := by rw [h0, h1]
noncomputable def ln (T : Nat) (x : Slot) (K : Slot → Res) : Res := bind1 (lenS (C.ti T) x) K
@[go_sem] theorem Qer (T : Nat) (x : Slot) (K : Slot → Res) : ln T x K = bind1 (lenS (C.ti T) x) K := id rfl
@[congr] theorem Qs0 {T : Nat} {x x' : Slot} {K : Slot → Res} (h0 : x = x') : ln T x K = ln T x' K := by rw [h0]
noncomputable def ca (f : Nat) (l : List Slot) (s : St) (K : Slot → St → Res) : Res := back (cal cw true (tgtV (.val (.fn f [])) l) s) K
@[go_sem] theorem Qt6 (f : Nat) (l : List Slot) (s : St) (K : Slot → St → Res) : ca f l s K = back (cal cw true (tgtV (.val (.fn f [])) l) s) K := id rfl
@[congr] theorem Qrk {f : Nat} {l l' : List Slot} {s s' : St} {K : Slot → St → Res} (h0 : l = l') (h1 : s = s') : ca f l s K = ca f l' s' K := by rw [h0, h1]
noncomputable def cn (f : Nat) (l : List Slot) (s : St) (K : Slot → St → Res) : Res := back (noPan (cal cw true (tgtV (.val (.fn f [])) l) s)) K
@[go_sem] theorem Qt8 (f : Nat) (l : List Slot) (s : St) (K : Slot → St → Res) : cn f l s K = back (noPan (cal cw true (tgtV (.val (.fn f [])) l) s)) K := id rfl
@[congr] theorem Qrr {f : Nat} {l l' : List Slot} {s s' : St} {K : Slot → St → Res} (h0 : l = l') (h1 : s = s') : cn f l s K = cn f l' s' K := by rw [h0, h1]
noncomputable def cg (w : Bool) (f : Nat) (l : List Slot) (s : St) (K : Slot → St → Res) : Res := back (cal cw w (tgtV (.val (.fn f [])) l) s) K
@[go_sem] theorem Qt7 (w : Bool) (f : Nat) (l : List Slot) (s : St) (K : Slot → St → Res) : cg w f l s K = back (cal cw w (tgtV (.val (.fn f [])) l) s) K := id rfl
@[congr] theorem Qrq {f : Nat} {w w' : Bool} {l l' : List Slot} {s s' : St} {K : Slot → St → Res} (h0 : w = w') (h1 : l = l') (h2 : s = s') : cg w f l s K = cg w' f l' s' K := by rw [h0, h1, h2]
noncomputable def iT (v : Slot) (K : Bool → Res) : Res := bindB (Slot.isB v true) K
@[go_sem] theorem Qto (v : Slot) (K : Bool → Res) : iT v K = bindB (Slot.isB v true) K := id rfl
@[congr] theorem QrP  {v v' : Slot} {K : Bool → Res} (h0 : v = v') : iT v K = iT v' K := by rw [h0]
noncomputable def iF (v : Slot) (K : Bool → Res) : Res := bindB (Slot.isB v false) K
@[go_sem] theorem Qtn (v : Slot) (K : Bool → Res) : iF v K = bindB (Slot.isB v false) K := id rfl
@[congr] theorem QrO  {v v' : Slot} {K : Bool → Res} (h0 : v = v') : iF v K = iF v' K := by rw [h0]
noncomputable def gG (w : Bool) (b : Bool) (T : Nat) (k : Nat) (c : List Slot) (K : Slot → Res) : Res := bind1 (gd w (bif b then (ofSlots (C.ti T) (List.take (C.ti T).size (List.drop k c))) else none)) K
@[go_sem] theorem Qte (w : Bool) (b : Bool) (T : Nat) (k : Nat) (c : List Slot) (K : Slot → Res) : gG w b T k c K = bind1 (gd w (bif b then (ofSlots (C.ti T) (List.take (C.ti T).size (List.drop k c))) else none)) K := id rfl
@[congr] theorem QrD {b : Bool} {T : Nat} {k : Nat} {c : List Slot} {w w' : Bool} {K : Slot → Res} (h0 : w = w') : gG w b T k c K = gG w' b T k c K := by rw [h0]
noncomputable def gB (w : Bool) (T : Nat) (op : BinOp) (x : Slot) (y : Slot) (K : Slot → Res) : Res := bind1 (gd w (binS (C.ti T) op x y)) K
@[go_sem] theorem Qtc (w : Bool) (T : Nat) (op : BinOp) (x : Slot) (y : Slot) (K : Slot → Res) : gB w T op x y K = bind1 (gd w (binS (C.ti T) op x y)) K := id rfl
@[congr] theorem QrB {T : Nat} {op : BinOp} {x : Slot} {y : Slot} {w w' : Bool} {K : Slot → Res} (h0 : w = w') : gB w T op x y K = gB w' T op x y K := by rw [h0]
noncomputable def gN (w : Bool) (x : Slot) (K : Slot → Res) : Res := bind1 (gd w (unS .not x)) K
@[go_sem] theorem Qtg (w : Bool) (x : Slot) (K : Slot → Res) : gN w x K = bind1 (gd w (unS .not x)) K := id rfl
@[congr] theorem QrF {x : Slot} {w w' : Bool} {K : Slot → Res} (h0 : w = w') : gN w x K = gN w' x K := by rw [h0]
noncomputable def gL (w : Bool) (T : Nat) (x : Slot) (K : Slot → Res) : Res := bind1 (gd w (lenS (C.ti T) x)) K
@[go_sem] theorem Qtf (w : Bool) (T : Nat) (x : Slot) (K : Slot → Res) : gL w T x K = bind1 (gd w (lenS (C.ti T) x)) K := id rfl
@[congr] theorem QrE {T : Nat} {x : Slot} {w w' : Bool} {K : Slot → Res} (h0 : w = w') : gL w T x K = gL w' T x K := by rw [h0]
noncomputable def nt (x : Slot) (K : Slot → Res) : Res := bind1 (unS .not x) K
@[go_sem] theorem Qtv (x : Slot) (K : Slot → Res) : nt x K = bind1 (unS .not x) K := id rfl
@[congr] theorem Qs4  {x x' : Slot} {K : Slot → Res} (h0 : x = x') : nt x K = nt x' K := by rw [h0]
noncomputable def pk (a : Slot) (b : Slot) (c : Slot) (K : Slot → Res) : Res := bind1 (pickS a b c) K
@[go_sem] theorem Qty (a : Slot) (b : Slot) (c : Slot) (K : Slot → Res) : pk a b c K = bind1 (pickS a b c) K := id rfl
@[congr] theorem Qse  {a a' : Slot} {b b' : Slot} {c c' : Slot} {K : Slot → Res} (h0 : a = a') (h1 : b = b') (h2 : c = c') : pk a b c K = pk a' b' c' K := by rw [h0, h1, h2]
noncomputable def ex (a : Slot) (i : Nat) (K : Slot → Res) : Res := bind1 (extractS a i) K
@[go_sem] theorem Qt9 (a : Slot) (i : Nat) (K : Slot → Res) : ex a i K = bind1 (extractS a i) K := id rfl
@[congr] theorem Qru {i : Nat} {a a' : Slot} {K : Slot → Res} (h0 : a = a') : ex a i K = ex a' i K := by rw [h0]
noncomputable def fa (i : Nat) (a : Slot) (K : Slot → Res) : Res := bind1 (faV i a) K
@[go_sem] theorem Qta (i : Nat) (a : Slot) (K : Slot → Res) : fa i a K = bind1 (faV i a) K := id rfl
@[congr] theorem Qry {i : Nat} {a a' : Slot} {K : Slot → Res} (h0 : a = a') : fa i a K = fa i a' K := by rw [h0]
noncomputable def pt (c : List Slot) (i : Nat) (d : List Slot) (K : List Slot → Res) : Res := bindL (putAt c i d) K
@[go_sem] theorem Qtz (c : List Slot) (i : Nat) (d : List Slot) (K : List Slot → Res) : pt c i d K = bindL (putAt c i d) K := id rfl
@[congr] theorem Qsf {i : Nat} {c c' : List Slot} {d d' : List Slot} {K : List Slot → Res} (h0 : c = c') (h1 : d = d') : pt c i d K = pt c' i d' K := by rw [h0, h1]
noncomputable def bs (T : Nat) (l : List Slot) (K : Slot → Res) : Res := bind1 (bslF (C.ti T).size l) K
@[go_sem] theorem Qt3 (T : Nat) (l : List Slot) (K : Slot → Res) : bs T l K = bind1 (bslF (C.ti T).size l) K := id rfl
@[congr] theorem Qrg {T : Nat} {l l' : List Slot} {K : Slot → Res} (h0 : l = l') : bs T l K = bs T l' K := by rw [h0]
noncomputable def ap (T : Nat) (s : St) (x : Slot) (y : Slot) (K : Slot → St → Res) : Res := bind2 (appendS T (C.ti T) s x y) K
@[go_sem] theorem Qt1 (T : Nat) (s : St) (x : Slot) (y : Slot) (K : Slot → St → Res) : ap T s x y K = bind2 (appendS T (C.ti T) s x y) K := id rfl
@[congr] theorem QqY {T : Nat} {s s' : St} {x x' : Slot} {y y' : Slot} {K : Slot → St → Res} (h0 : s = s') (h1 : x = x') (h2 : y = y') : ap T s x y K = ap T s' x' y' K := by rw [h0, h1, h2]
noncomputable def sto (s : St) (a : Slot) (c : List Slot) (K : St → Res) : Res := bindS (stV s a c) K
@[go_sem] theorem QsY (s : St) (a : Slot) (c : List Slot) (K : St → Res) : sto s a c K = bindS (stV s a c) K := id rfl
@[congr] theorem QqU  {s s' : St} {a a' : Slot} {c c' : List Slot} {K : St → Res} (h0 : s = s') (h1 : a = a') (h2 : c = c') : sto s a c K = sto s' a' c' K := by rw [h0, h1, h2]
noncomputable def upd2 (A : Nat) (B : Nat) (s : St) (a : Slot) (b : Slot) (c : Slot) (K : Slot → St → Res) : Res := bind2 (updateS (C.ti A) (C.ti B) s a b c) K
@[go_sem] theorem QsH (A : Nat) (B : Nat) (s : St) (a : Slot) (b : Slot) (c : Slot) (K : Slot → St → Res) : upd2 A B s a b c K = bind2 (updateS (C.ti A) (C.ti B) s a b c) K := id rfl
@[congr] theorem QpZ {A : Nat} {B : Nat} {s s' : St} {a a' : Slot} {b b' : Slot} {c c' : Slot} {K : Slot → St → Res} (h0 : s = s') (h1 : a = a') (h2 : b = b') (h3 : c = c') : upd2 A B s a b c K = upd2 A B s' a' b' c' K := by rw [h0, h1, h2, h3]
noncomputable def lk (A : Nat) (B : Nat) (s : St) (a : Slot) (b : Slot) (q : Bool) (K : Slot → Res) : Res := bind1 (lookupS (C.ti A) (C.ti B) s a b q) K
@[go_sem] theorem Qtu (A : Nat) (B : Nat) (s : St) (a : Slot) (b : Slot) (q : Bool) (K : Slot → Res) : lk A B s a b q K = bind1 (lookupS (C.ti A) (C.ti B) s a b q) K := id rfl
@[congr] theorem QrZ {A : Nat} {B : Nat} {q : Bool} {s s' : St} {a a' : Slot} {b b' : Slot} {K : Slot → Res} (h0 : s = s') (h1 : a = a') (h2 : b = b') : lk A B s a b q K = lk A B s' a' b' q K := by rw [h0, h1, h2]
noncomputable def bdL : List (Nat × Nat × Slot) → List (Nat × Nat × Slot)
 | [] => []
 | p :: r => (p.1, (C.ti p.2.1).size, p.2.2) :: bdL r
@[go_sem] theorem Qso : bdL [] = [] := id rfl
@[go_sem] theorem Qr3 (a b : Nat) (v : Slot) (r : List (Nat × Nat × Slot)) : bdL ((a, b, v) :: r) = (a, (C.ti b).size, v) :: bdL r := id rfl
noncomputable def bd (T : Nat) (l : List (Nat × Nat × Slot)) (K : Slot → Res) : Res := bind1 (buildS (C.ti T).zero (bdL l)) K
@[go_sem] theorem Qt2 (T : Nat) (l : List (Nat × Nat × Slot)) (K : Slot → Res) : bd T l K = bind1 (buildS (C.ti T).zero (bdL l)) K := id rfl
@[congr] theorem Qr4 {T : Nat} {l l' : List (Nat × Nat × Slot)} {K : Slot → Res} (h0 : l = l') : bd T l K = bd T l' K := by rw [h0]
noncomputable def rt (l : List (Option Slot)) (s : St) : Res := bind1 (tupS l) fun v => some (.ret v, s)
@[go_sem] theorem QtA (l : List (Option Slot)) (s : St) : rt l s = bind1 (tupS l) fun v => some (.ret v, s) := id rfl
@[reducible] def iv (n : Int) : Slot := .val (.int .i64 n)
@[go_sem] theorem Qtr (n : Int) : iv n = .val (.int .i64 n) := id rfl
@[reducible] def bv (b : Bool) : Slot := .val (.bool b)
@[go_sem] theorem Qt4 (b : Bool) : bv b = .val (.bool b) := id rfl
@[reducible] def sv (l : List UInt8) : Slot := .val (.str l)
@[go_sem] theorem QtB (l : List UInt8) : sv l = .val (.str l) := id rfl
noncomputable def nx (x : Slot) (K : Slot → Res) : Res := bind1 (binS (C.ti Q1) .add x (.val (.int .i64 1))) K
@[go_sem] theorem Qtw (x : Slot) (K : Slot → Res) : nx x K = bind1 (binS (C.ti Q1) .add x (.val (.int .i64 1))) K := id rfl
@[congr] theorem Qs5  {x x' : Slot} {K : Slot → Res} (h0 : x = x') : nx x K = nx x' K := by rw [h0]
@[reducible] noncomputable def lpD (f : FuncId) (p : List Step) (fn : Func) (e : Env) (s : St) : Res := loopR C false f p (body fn) e s (ctxR C false f p (body fn) (outK C fn.results.toList))
@[reducible] noncomputable def pwD (f : FuncId) (p : List Step) (fn : Func) (e : Env) (s : St) : Res := pw (run C false f (codeAt p (body fn)) e s (ctxR C false f p (body fn) (outK C fn.results.toList)))
end Go.Proofs.YtinphnakebeloaaGreat