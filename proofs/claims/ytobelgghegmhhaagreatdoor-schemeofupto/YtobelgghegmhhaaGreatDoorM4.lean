/- A part of the proof: G1. -/
import Derived.Test.YtobelgghegmhhaaGreatDoorM3
import Derived.KernelRfl
import Derived.Test.YtobelgghegmhhaaGreatDoorProg
set_option linter.unusedVariables false
set_option linter.unusedSimpArgs false
namespace Go.Proofs.YtobelgghegmhhaaGreatDoor
open Go Go.Am
set_option linter.unusedVariables false
def tF : TI := { k := .func, size := 1, bytes := 8, zero := [.nilf] }
def tP : TI := { k := .ptr, size := 1, bytes := 8, zero := [.nilp] }
def tS (e : Nat) : TI := { k := .slice e, size := 1, bytes := 24, zero := [.nils] }
noncomputable def tis : List TI := [{}, tF, { k := .int .i64, size := 1, bytes := 8, zero := [.int .i64 0] }, { k := .int .i64, size := 1, bytes := 8, zero := [.int .i64 0] }, { k := .bool, size := 1, bytes := 1, zero := [.bool false] }, { k := .int .u8, size := 1, bytes := 1, zero := [.int .u8 0] }, { k := .int .u8, size := 1, bytes := 1, zero := [.int .u8 0] }, { k := .struct [(0, 2), (1, 3), (2, 4), (3, 6)], size := 4, bytes := 24, zero := [.int .i64 0, .int .i64 0, .bool false, .int .u8 0] }, { k := .struct [(0, 2), (1, 3), (2, 4), (3, 6)], size := 4, bytes := 24, zero := [.int .i64 0, .int .i64 0, .bool false, .int .u8 0] }, { k := .str, size := 1, bytes := 16, zero := [.str []] }, { k := .str, size := 1, bytes := 16, zero := [.str []] }, { k := .str, size := 1, bytes := 16, zero := [.str []] }, { k := .int .u64, size := 1, bytes := 8, zero := [.int .u64 0] }, { k := .struct [(0, 9), (1, 12)], size := 2, bytes := 24, zero := [.str [], .int .u64 0] }, { k := .struct [(0, 9), (1, 12)], size := 2, bytes := 24, zero := [.str [], .int .u64 0] }, tP, tP, tP, { k := .struct [(0, 17)], size := 1, bytes := 8, zero := [.nilp] }, { k := .struct [(0, 17)], size := 1, bytes := 8, zero := [.nilp] }, { k := .iface, size := 1, bytes := 16, zero := [.nili] }, { k := .int .i32, size := 1, bytes := 4, zero := [.int .i32 0] }, { k := .int .i64, size := 1, bytes := 8, zero := [.int .i64 0] }, tS 25, { k := .struct [(0, 22), (1, 3), (2, 9), (3, 23)], size := 4, bytes := 56, zero := [.int .i64 0, .int .i64 0, .str [], .nils] }, { k := .struct [(0, 22), (1, 3), (2, 9), (3, 23)], size := 4, bytes := 56, zero := [.int .i64 0, .int .i64 0, .str [], .nils] }, tS 3, { k := .struct [(0, 3), (1, 25)], size := 5, bytes := 64, zero := [.int .i64 0, .int .i64 0, .int .i64 0, .str [], .nils] }, { k := .struct [(0, 3), (1, 25)], size := 5, bytes := 64, zero := [.int .i64 0, .int .i64 0, .int .i64 0, .str [], .nils] }, tF, tF, tF, tF, tF, tF, tF, { k := .int .i64, size := 1, bytes := 8, zero := [.int .i64 0] }, {}, tF, tF, tF, tF, tF, tF, tF, { k := .map 3 3, size := 1, bytes := 8, zero := [.nilm] }, tS 4, tF, tF, tF, tF, tF, tF, tF, tF, tF, tF, tF, tF, tF, { k := .map 3 25, size := 1, bytes := 8, zero := [.nilm] }, { k := .struct [(0, 25), (4, 25)], size := 8, bytes := 112, zero := [.int .i64 0, .int .i64 0, .str [], .nils, .int .i64 0, .int .i64 0, .str [], .nils] }, { k := .struct [(0, 25), (4, 25)], size := 8, bytes := 112, zero := [.int .i64 0, .int .i64 0, .str [], .nils, .int .i64 0, .int .i64 0, .str [], .nils] }, tS 62, {}, tP, { k := .struct [(0, 28), (5, 28), (10, 46), (11, 23)], size := 12, bytes := 176, zero := [.int .i64 0, .int .i64 0, .int .i64 0, .str [], .nils, .int .i64 0, .int .i64 0, .int .i64 0, .str [], .nils, .nils, .nils] }, { k := .struct [(0, 28), (5, 28), (10, 46), (11, 23)], size := 12, bytes := 176, zero := [.int .i64 0, .int .i64 0, .int .i64 0, .str [], .nils, .int .i64 0, .int .i64 0, .int .i64 0, .str [], .nils, .nils, .nils] }, tF, {}, tF, tF, tF, tS 97, tF, { k := .int .i64, size := 1, bytes := 8, zero := [.int .i64 0] }, tS 95, tS 91, tS 93, { k := .struct [(0, 75), (1, 3), (2, 9), (3, 3), (4, 76), (5, 77), (6, 78)], size := 7, bytes := 112, zero := [.int .i64 0, .int .i64 0, .str [], .int .i64 0, .nils, .nils, .nils] }, { k := .struct [(0, 75), (1, 3), (2, 9), (3, 3), (4, 76), (5, 77), (6, 78)], size := 7, bytes := 112, zero := [.int .i64 0, .int .i64 0, .str [], .int .i64 0, .nils, .nils, .nils] }, { k := .int .i64, size := 1, bytes := 8, zero := [.int .i64 0] }, tS 85, tS 80, { k := .struct [(0, 81), (1, 3), (2, 9), (3, 3), (4, 82), (5, 77), (6, 83)], size := 7, bytes := 112, zero := [.int .i64 0, .int .i64 0, .str [], .int .i64 0, .nils, .nils, .nils] }, { k := .struct [(0, 81), (1, 3), (2, 9), (3, 3), (4, 82), (5, 77), (6, 83)], size := 7, bytes := 112, zero := [.int .i64 0, .int .i64 0, .str [], .int .i64 0, .nils, .nils, .nils] }, { k := .int .i64, size := 1, bytes := 8, zero := [.int .i64 0] }, tS 89, { k := .struct [(0, 86), (1, 3), (2, 9), (3, 3), (4, 87)], size := 5, bytes := 64, zero := [.int .i64 0, .int .i64 0, .str [], .int .i64 0, .nils] }, { k := .struct [(0, 86), (1, 3), (2, 9), (3, 3), (4, 87)], size := 5, bytes := 64, zero := [.int .i64 0, .int .i64 0, .str [], .int .i64 0, .nils] }, { k := .struct [(0, 89), (5, 85)], size := 12, bytes := 176, zero := [.int .i64 0, .int .i64 0, .str [], .int .i64 0, .nils, .int .i64 0, .int .i64 0, .str [], .int .i64 0, .nils, .nils, .nils] }, { k := .struct [(0, 89), (5, 85)], size := 12, bytes := 176, zero := [.int .i64 0, .int .i64 0, .str [], .int .i64 0, .nils, .int .i64 0, .int .i64 0, .str [], .int .i64 0, .nils, .nils, .nils] }, { k := .struct [(0, 9), (1, 3), (2, 91)], size := 14, bytes := 200, zero := [.str [], .int .i64 0, .int .i64 0, .int .i64 0, .str [], .int .i64 0, .nils, .int .i64 0, .int .i64 0, .str [], .int .i64 0, .nils, .nils, .nils] }, { k := .struct [(0, 9), (1, 3), (2, 91)], size := 14, bytes := 200, zero := [.str [], .int .i64 0, .int .i64 0, .int .i64 0, .str [], .int .i64 0, .nils, .int .i64 0, .int .i64 0, .str [], .int .i64 0, .nils, .nils, .nils] }, { k := .struct [(0, 9), (1, 3), (2, 4), (3, 25)], size := 7, bytes := 88, zero := [.str [], .int .i64 0, .bool false, .int .i64 0, .int .i64 0, .str [], .nils] }, { k := .struct [(0, 9), (1, 3), (2, 4), (3, 25)], size := 7, bytes := 88, zero := [.str [], .int .i64 0, .bool false, .int .i64 0, .int .i64 0, .str [], .nils] }, { k := .struct [(0, 3), (1, 4), (2, 3), (3, 80), (10, 85), (17, 89), (22, 25), (26, 93), (40, 95)], size := 47, bytes := 656, zero := [.int .i64 0, .bool false, .int .i64 0, .int .i64 0, .int .i64 0, .str [], .int .i64 0, .nils, .nils, .nils, .int .i64 0, .int .i64 0, .str [], .int .i64 0, .nils, .nils, .nils, .int .i64 0, .int .i64 0, .str [], .int .i64 0, .nils, .int .i64 0, .int .i64 0, .str [], .nils, .str [], .int .i64 0, .int .i64 0, .int .i64 0, .str [], .int .i64 0, .nils, .int .i64 0, .int .i64 0, .str [], .int .i64 0, .nils, .nils, .nils, .str [], .int .i64 0, .bool false, .int .i64 0, .int .i64 0, .str [], .nils] }, { k := .struct [(0, 3), (1, 4), (2, 3), (3, 80), (10, 85), (17, 89), (22, 25), (26, 93), (40, 95)], size := 47, bytes := 656, zero := [.int .i64 0, .bool false, .int .i64 0, .int .i64 0, .int .i64 0, .str [], .int .i64 0, .nils, .nils, .nils, .int .i64 0, .int .i64 0, .str [], .int .i64 0, .nils, .nils, .nils, .int .i64 0, .int .i64 0, .str [], .int .i64 0, .nils, .int .i64 0, .int .i64 0, .str [], .nils, .str [], .int .i64 0, .int .i64 0, .int .i64 0, .str [], .int .i64 0, .nils, .int .i64 0, .int .i64 0, .str [], .int .i64 0, .nils, .nils, .nils, .str [], .int .i64 0, .bool false, .int .i64 0, .int .i64 0, .str [], .nils] }, tF, tP, tF, tS 9, tF, tF, tF, tF, {}, tF, tF, {}, tS 117, { k := .struct [(0, 36), (1, 3), (2, 9)], size := 3, bytes := 32, zero := [.int .i64 0, .int .i64 0, .str []] }, { k := .struct [(0, 36), (1, 3), (2, 9)], size := 3, bytes := 32, zero := [.int .i64 0, .int .i64 0, .str []] }, {}, tF, { k := .int .i64, size := 1, bytes := 8, zero := [.int .i64 0] }, { k := .struct [(0, 115), (1, 3), (2, 9), (3, 3)], size := 4, bytes := 40, zero := [.int .i64 0, .int .i64 0, .str [], .int .i64 0] }, { k := .struct [(0, 115), (1, 3), (2, 9), (3, 3)], size := 4, bytes := 40, zero := [.int .i64 0, .int .i64 0, .str [], .int .i64 0] }, tP, tS 5, { k := .struct [(0, 118), (1, 119)], size := 2, bytes := 32, zero := [.nilp, .nils] }, { k := .struct [(0, 118), (1, 119)], size := 2, bytes := 32, zero := [.nilp, .nils] }, tF, tF, { k := .iface, size := 1, bytes := 16, zero := [.nili] }, { k := .iface, size := 1, bytes := 16, zero := [.nili] }, tF, {}, tF, tF, tF, tF, tF, tF, tF, tF, {}, tF, tF, tF, {}, tF, tF, tP, tS 101, { k := .int .u64, size := 1, bytes := 8, zero := [.int .u64 0] }, tF, tF, tF, tF, tF, tF, tF, tF, tF, tF, tF, tF, tF, tF, {}, tF, tF, tF, tF, tP, tP, tP, tP, tP, tP, { k := .struct [(0, 165), (1, 4), (2, 166), (3, 167), (4, 168), (5, 169), (6, 170), (7, 3)], size := 8, bytes := 64, zero := [.nilp, .bool false, .nilp, .nilp, .nilp, .nilp, .nilp, .int .i64 0] }, { k := .struct [(0, 165), (1, 4), (2, 166), (3, 167), (4, 168), (5, 169), (6, 170), (7, 3)], size := 8, bytes := 64, zero := [.nilp, .bool false, .nilp, .nilp, .nilp, .nilp, .nilp, .int .i64 0] }, tF, tF, { k := .struct [(0, 174)], size := 1, bytes := 8, zero := [.nilf] }, { k := .struct [(0, 174)], size := 1, bytes := 8, zero := [.nilf] }, tF, tF, { k := .array 24 9, size := 24, bytes := 384, zero := [.str [], .str [], .str [], .str [], .str [], .str [], .str [], .str [], .str [], .str [], .str [], .str [], .str [], .str [], .str [], .str [], .str [], .str [], .str [], .str [], .str [], .str [], .str [], .str []] }, { k := .array 19 9, size := 19, bytes := 304, zero := [.str [], .str [], .str [], .str [], .str [], .str [], .str [], .str [], .str [], .str [], .str [], .str [], .str [], .str [], .str [], .str [], .str [], .str [], .str []] }, { k := .array 24 5, size := 24, bytes := 24, zero := [.int .u8 0, .int .u8 0, .int .u8 0, .int .u8 0, .int .u8 0, .int .u8 0, .int .u8 0, .int .u8 0, .int .u8 0, .int .u8 0, .int .u8 0, .int .u8 0, .int .u8 0, .int .u8 0, .int .u8 0, .int .u8 0, .int .u8 0, .int .u8 0, .int .u8 0, .int .u8 0, .int .u8 0, .int .u8 0, .int .u8 0, .int .u8 0] }, tF, tF, {}, tF, tF, tF, tF, tF, tF, tF, tF, { k := .array 20 145, size := 20, bytes := 160, zero := [.int .u64 0, .int .u64 0, .int .u64 0, .int .u64 0, .int .u64 0, .int .u64 0, .int .u64 0, .int .u64 0, .int .u64 0, .int .u64 0, .int .u64 0, .int .u64 0, .int .u64 0, .int .u64 0, .int .u64 0, .int .u64 0, .int .u64 0, .int .u64 0, .int .u64 0, .int .u64 0] }, { k := .int .u32, size := 1, bytes := 4, zero := [.int .u32 0] }, { k := .array 65 5, size := 65, bytes := 65, zero := [.int .u8 0, .int .u8 0, .int .u8 0, .int .u8 0, .int .u8 0, .int .u8 0, .int .u8 0, .int .u8 0, .int .u8 0, .int .u8 0, .int .u8 0, .int .u8 0, .int .u8 0, .int .u8 0, .int .u8 0, .int .u8 0, .int .u8 0, .int .u8 0, .int .u8 0, .int .u8 0, .int .u8 0, .int .u8 0, .int .u8 0, .int .u8 0, .int .u8 0, .int .u8 0, .int .u8 0, .int .u8 0, .int .u8 0, .int .u8 0, .int .u8 0, .int .u8 0, .int .u8 0, .int .u8 0, .int .u8 0, .int .u8 0, .int .u8 0, .int .u8 0, .int .u8 0, .int .u8 0, .int .u8 0, .int .u8 0, .int .u8 0, .int .u8 0, .int .u8 0, .int .u8 0, .int .u8 0, .int .u8 0, .int .u8 0, .int .u8 0, .int .u8 0, .int .u8 0, .int .u8 0, .int .u8 0, .int .u8 0, .int .u8 0, .int .u8 0, .int .u8 0, .int .u8 0, .int .u8 0, .int .u8 0, .int .u8 0, .int .u8 0, .int .u8 0, .int .u8 0] }, tF, { k := .int .u64, size := 1, bytes := 8, zero := [.int .u64 0] }, tF, { k := .struct [(0, 4), (1, 4), (2, 4), (3, 4), (4, 3), (5, 3)], size := 6, bytes := 24, zero := [.bool false, .bool false, .bool false, .bool false, .int .i64 0, .int .i64 0] }, { k := .struct [(0, 4), (1, 4), (2, 4), (3, 4), (4, 3), (5, 3)], size := 6, bytes := 24, zero := [.bool false, .bool false, .bool false, .bool false, .int .i64 0, .int .i64 0] }, {}, tF, tF, tF, { k := .array 32 5, size := 32, bytes := 32, zero := [.int .u8 0, .int .u8 0, .int .u8 0, .int .u8 0, .int .u8 0, .int .u8 0, .int .u8 0, .int .u8 0, .int .u8 0, .int .u8 0, .int .u8 0, .int .u8 0, .int .u8 0, .int .u8 0, .int .u8 0, .int .u8 0, .int .u8 0, .int .u8 0, .int .u8 0, .int .u8 0, .int .u8 0, .int .u8 0, .int .u8 0, .int .u8 0, .int .u8 0, .int .u8 0, .int .u8 0, .int .u8 0, .int .u8 0, .int .u8 0, .int .u8 0, .int .u8 0] }, { k := .array 64 5, size := 64, bytes := 64, zero := [.int .u8 0, .int .u8 0, .int .u8 0, .int .u8 0, .int .u8 0, .int .u8 0, .int .u8 0, .int .u8 0, .int .u8 0, .int .u8 0, .int .u8 0, .int .u8 0, .int .u8 0, .int .u8 0, .int .u8 0, .int .u8 0, .int .u8 0, .int .u8 0, .int .u8 0, .int .u8 0, .int .u8 0, .int .u8 0, .int .u8 0, .int .u8 0, .int .u8 0, .int .u8 0, .int .u8 0, .int .u8 0, .int .u8 0, .int .u8 0, .int .u8 0, .int .u8 0, .int .u8 0, .int .u8 0, .int .u8 0, .int .u8 0, .int .u8 0, .int .u8 0, .int .u8 0, .int .u8 0, .int .u8 0, .int .u8 0, .int .u8 0, .int .u8 0, .int .u8 0, .int .u8 0, .int .u8 0, .int .u8 0, .int .u8 0, .int .u8 0, .int .u8 0, .int .u8 0, .int .u8 0, .int .u8 0, .int .u8 0, .int .u8 0, .int .u8 0, .int .u8 0, .int .u8 0, .int .u8 0, .int .u8 0, .int .u8 0, .int .u8 0, .int .u8 0] }, {}, tF, { k := .struct [(0, 17), (1, 17), (2, 17), (3, 9)], size := 4, bytes := 40, zero := [.nilp, .nilp, .nilp, .str []] }, { k := .struct [(0, 17), (1, 17), (2, 17), (3, 9)], size := 4, bytes := 40, zero := [.nilp, .nilp, .nilp, .str []] }, { k := .array 0 16, size := 0, bytes := 0, zero := [] }, { k := .struct [(0, 211)], size := 0, bytes := 0, zero := [] }, { k := .struct [(0, 211)], size := 0, bytes := 0, zero := [] }, { k := .int .u8, size := 1, bytes := 1, zero := [.int .u8 0] }, { k := .int .u8, size := 1, bytes := 1, zero := [.int .u8 0] }, tF, { k := .int .i32, size := 1, bytes := 4, zero := [.int .i32 0] }, { k := .int .i32, size := 1, bytes := 4, zero := [.int .i32 0] }, { k := .struct [(0, 12), (1, 12), (2, 194), (3, 214), (4, 5), (5, 5), (6, 215), (7, 216), (8, 143), (9, 217), (10, 218)], size := 11, bytes := 48, zero := [.int .u64 0, .int .u64 0, .int .u32 0, .int .u8 0, .int .u8 0, .int .u8 0, .int .u8 0, .nilf, .nilp, .int .i32 0, .int .i32 0] }, { k := .struct [(0, 12), (1, 12), (2, 194), (3, 214), (4, 5), (5, 5), (6, 215), (7, 216), (8, 143), (9, 217), (10, 218)], size := 11, bytes := 48, zero := [.int .u64 0, .int .u64 0, .int .u32 0, .int .u8 0, .int .u8 0, .int .u8 0, .int .u8 0, .nilf, .nilp, .int .i32 0, .int .i32 0] }, tF]
noncomputable def modes : List (Nat × Nat × AMode) := [(10, 5, .loc), (15, 1, .con), (20, 25, .loc), (20, 143, .loc), (28, 3, .loc), (28, 4, .loc), (31, 3, .con), (31, 5, .loc), (38, 3, .loc), (46, 3, .con), (57, 4, .loc), (57, 5, .loc), (64, 3, .con), (65, 3, .tl), (66, 2, .con), (97, 1, .con), (103, 2, .con), (108, 4, .loc), (109, 1, .con), (126, 3, .con), (126, 5, .loc)]
noncomputable def keeps : List (Nat × Nat × List Nat) := [(6, 9, [2, 7, 41, 42]), (8, 3, [1, 2, 7, 8]), (10, 7, [1, 2, 4, 5, 6, 16, 17, 18]), (10, 10, [1, 2, 4, 5, 6, 8, 16, 17, 18, 23, 24, 25]), (12, 7, [1, 2, 4, 5, 6, 17, 18]), (12, 14, [1, 2, 4, 5, 6, 8, 39, 40]), (18, 5, [1, 2, 4, 19, 20]), (20, 6, [2, 3, 5, 6]), (20, 21, [2, 3, 5, 6, 7, 124, 125]), (24, 4, [1, 3, 9, 10]), (35, 5, [3, 4, 5]), (36, 3, [0, 1, 7, 8]), (37, 4, [1, 2, 4, 12, 13]), (37, 12, [1, 2, 4, 6, 30, 31]), (40, 4, [4, 5, 10, 11, 12]), (43, 15, [1, 2, 6, 73, 74]), (47, 4, [3, 7, 8, 9]), (48, 6, [1, 2, 5, 25, 26]), (49, 9, [1, 2, 4, 5, 25, 26]), (50, 5, [2, 3, 5]), (52, 12, [0, 4, 5, 113, 114]), (53, 6, [1, 2, 3, 23, 24]), (58, 3, [0, 1, 7, 8]), (59, 6, [2, 4, 5, 23, 24, 25]), (61, 4, [3, 4]), (62, 4, [1, 2, 5, 6]), (63, 3, [0, 1, 5]), (65, 4, [0, 3, 6, 7, 8]), (67, 5, [2, 3, 9, 10, 11]), (72, 3, [0, 1, 7, 8]), (73, 6, [1, 4, 5, 23, 24, 25]), (75, 5, [1, 2, 15, 16, 17]), (80, 7, [0, 3, 4, 5, 6]), (89, 4, [0, 2, 7, 9, 10]), (95, 7, [0, 3, 4]), (102, 3, [0, 1, 5]), (104, 3, [0, 1, 7, 8]), (106, 4, [0, 3, 9, 10, 11]), (106, 12, [6, 25, 26, 27]), (108, 7, [4]), (111, 4, [3, 7, 8, 9]), (112, 5, [0, 5]), (113, 3, [0, 1, 5]), (116, 3, [1, 2, 6]), (118, 6, [0, 1, 6, 22, 23]), (122, 3, [0, 3]), (126, 4, [3, 5]), (129, 5, [1, 2, 20, 21]), (150, 3, [0, 3])]
noncomputable def cuts : List (Nat × Nat × List Nat) := [(37, 9, [1, 2, 4]), (43, 20, [1, 2, 6, 7, 73, 74]), (43, 23, [1, 2, 6, 7, 73, 74]), (52, 6, [0, 4, 5]), (64, 18, [2, 3, 5, 52, 87]), (64, 25, [2, 3, 6]), (66, 15, [1, 5, 6]), (76, 7, [5, 6]), (80, 23, [3, 4, 5]), (95, 5, [0, 3]), (99, 7, [4, 5]), (103, 21, [2, 4]), (127, 17, [1, 2, 3, 4]), (138, 14, [1, 3, 5, 7, 8]), (142, 16, [1, 3, 4, 5, 6]), (143, 18, [1, 3, 4, 5, 56, 61]), (143, 24, [3, 4, 5])]
noncomputable def rankl : List (Nat × Nat × List Nat) := [(57, 4, [0, 2, 1, 3]), (80, 7, [0, 1, 2, 3, 4, 5, 6, 7, 8, 9, 10, 11, 12, 13, 14, 15, 16, 17, 18, 21, 19, 20, 22]), (80, 23, [1, 0, 2]), (80, 24, [0, 2, 1, 3]), (127, 3, [0, 1, 2, 3, 4, 6, 7, 8, 9, 10, 5, 11]), (127, 5, [0, 1, 3, 4, 5, 6, 7, 2, 8]), (127, 11, [0, 1, 2, 3, 4, 6, 7, 8, 9, 10, 5, 11]), (127, 13, [0, 1, 2, 3, 4, 6, 7, 8, 9, 10, 5, 11]), (127, 15, [0, 1, 2, 3, 4, 6, 7, 8, 9, 10, 5, 11]), (138, 2, [0, 1, 2, 3, 4, 5, 6, 7, 8, 9, 10, 23, 11, 12, 13, 14, 15, 16, 25, 26, 27, 28, 29, 30, 17, 18, 19, 20, 21, 32, 22, 24, 31, 33])]
noncomputable def drawl : List (Nat × Nat × Bool × List (Option Nat)) := [(3, 4, false, [some 7, some 3, none, none, none, none, some 5, none, some 5, none, none, none, none, some 5, none, some 5, none, none, none, none, some 7, none, some 7, none, none, none, none, none, none, none]), (5, 3, false, [some 2, some 3, none, some 2, some 3, none, none, none, some 2, some 3, none, some 2, some 3, none, none, none, none, none, none, none]), (6, 4, false, [none, none, none, some 2, some 5, none, none, none, none]), (7, 3, false, [some 3, some 3, none, some 3, none, none, none, some 3, some 4, none, some 4, some 3, none, none, none]), (9, 5, false, [some 1, none, none, none, some 2, some 3, none, none, none, some 3, some 2, none, none, none, none, none, none, none, none, some 4, none, none, none, none, none, none]), (20, 22, false, [none, none, none, some 7, none, none, none, none, none, some 7, none, none, none, none, none, none, none]), (24, 5, false, [none, none, none, none, none, some 1, none]), (37, 5, false, [none, none, none, none, none, some 2, none]), (37, 13, false, [none, some 6, none, some 2, none, none, none, none, none, none, none, none, some 6]), (39, 3, true, [none, none, none, none, none, none, none, none, none, none, none, none, none, none, none, none, none, some 3]), (40, 5, false, [none, some 5, some 7, none, none, none, none, some 5]), (43, 9, true, [none, some 2, none, none, none, none, none, none, some 2, none, none, none, none, none, none]), (43, 11, false, [none, some 2, none, none, none, none, none, none, some 2, none, none]), (49, 10, false, [none, some 5, none, some 2, none, none, none, none, none, none, none, none, some 5]), (50, 6, false, [none, some 2, none, none, none, none, some 3, none, none, none, none, none]), (52, 1, false, [none, some 4, none, none, none, some 4, none, none, none, none, none, none, none]), (52, 2, false, [none, none, none, none, none, some 4, none, none, none]), (52, 3, false, [none, none, none, none, none, some 4, none, none]), (52, 4, false, [none, none, none, none, none, some 4, some 5, none, none]), (52, 5, false, [none, none, none, none, none, some 4, none, none, some 5, none, none]), (52, 7, false, [none, some 5, none, none, none, some 5, none, none, none, none, none, none, none, none, none, some 5, none, none, none, none, none, none, none, some 4, none, none, none, none, none, none, none, none, none]), (52, 13, false, [none, none, some 4, none, none, none, none, some 5, none, none, none, none, none]), (57, 4, false, [some 6, none, some 2, none]), (59, 7, false, [none, some 5, none, some 7, none, none, none, none, some 5]), (64, 12, false, [none, some 8, none, none, none, none, none, none, none, none, none, none, none, none, none, none, none, none, none, none, none, some 2, none, none, none, none, none, none, none]), (65, 5, true, [none, none, none, none, none, none, none, none, none, none, none, none, none, none, none, none, none, none, none, none]), (66, 3, true, [none, none, none, none, none, none, none, none, none, none, none, none, none]), (66, 7, true, [none, none, none, none, none, none, none, none, none, none, none, none, none, none, none, none]), (66, 13, true, [none, none, none, none, none, none, none, none, none, none, none, none]), (67, 6, false, [none, some 3, some 5, none, none, none, none, some 3]), (73, 7, false, [none, some 5, some 7, none, none, none, none, none, some 5]), (80, 7, false, [none, none, none, none, none, none, none, none, none, none, none, none, none, none, none, none, none, none, none, none, none, some 8, none]), (80, 23, false, [some 5, none, some 3]), (80, 24, false, [none, some 5, none, some 3]), (122, 4, false, [none, none, none, none, none]), (127, 3, true, [none, some 1, none, none, none, none, some 1, none, none, none, none, none]), (127, 5, true, [some 1, none, none, some 1, none, none, none, none, none]), (127, 11, true, [none, some 1, none, none, none, none, some 1, none, none, none, none, none]), (127, 13, true, [none, some 1, none, none, none, none, some 1, none, none, none, none, none]), (127, 15, true, [none, some 1, none, none, none, none, some 1, none, none, none, none, none]), (129, 1, false, [none, some 2, none, none, none, none, none, none, none, none]), (129, 6, false, [some 2, none, none, none, none, none, none, none, none]), (138, 2, false, [none, none, none, none, none, none, none, none, none, none, none, none, none, none, none, none, none, none, none, none, none, none, none, none, none, none, none, none, none, none, none, none, none, none])]
noncomputable def frzs : List (Nat × Nat × List Nat) := []
noncomputable def codes : List (Nat × Func) := [(3, Tryz.f3), (4, Tryz.f4), (5, Tryz.f5), (6, Tryz.f6), (7, Tryz.f7), (8, Tryz.f8), (9, Tryz.f9), (10, Tryz.f10), (11, Tryz.f11), (12, Tryz.f12), (13, Tryz.f13), (14, Tryz.f14), (15, Tryz.f15), (16, Tryz.f16), (17, Tryz.f17), (18, Tryz.f18), (19, Tryz.f19), (20, Tryz.f20), (22, Tryz.f22), (23, Tryz.f23), (24, Tryz.f24), (25, Tryz.f25), (26, Tryz.f26), (27, Tryz.f27), (28, Tryz.f28), (29, Tryz.f29), (30, Tryz.f30), (31, Tryz.f31), (32, Tryz.f32), (33, Tryz.f33), (34, Tryz.f34), (35, Tryz.f35), (36, Tryz.f36), (37, Tryz.f37), (38, Tryz.f38), (39, Tryz.f39), (40, Tryz.f40), (41, Tryz.f41), (42, Tryz.f42), (43, Tryz.f43), (44, Tryz.f44), (45, Tryz.f45), (46, Tryz.f46), (47, Tryz.f47), (48, Tryz.f48), (49, Tryz.f49), (50, Tryz.f50), (51, Tryz.f51), (52, Tryz.f52), (53, Tryz.f53), (54, Tryz.f54), (55, Tryz.f55), (56, Tryz.f56), (57, Tryz.f57), (58, Tryz.f58), (59, Tryz.f59), (60, Tryz.f60), (61, Tryz.f61), (62, Tryz.f62), (63, Tryz.f63), (64, Tryz.f64), (65, Tryz.f65), (66, Tryz.f66), (67, Tryz.f67), (68, Tryz.f68), (69, Tryz.f69), (70, Tryz.f70), (71, Tryz.f71), (72, Tryz.f72), (73, Tryz.f73), (74, Tryz.f74), (75, Tryz.f75), (76, Tryz.f76), (77, Tryz.f77), (78, Tryz.f78), (79, Tryz.f79), (80, Tryz.f80), (81, Tryz.f81), (82, Tryz.f82), (83, Tryz.f83), (84, Tryz.f84), (85, Tryz.f85), (87, Tryz.f87), (88, Tryz.f88), (89, Tryz.f89), (90, Tryz.f90), (91, Tryz.f91), (92, Tryz.f92), (93, Tryz.f93), (95, Tryz.f95), (96, Tryz.f96), (97, Tryz.f97), (98, Tryz.f98), (99, Tryz.f99), (101, Tryz.f101), (102, Tryz.f102), (103, Tryz.f103), (104, Tryz.f104), (106, Tryz.f106), (108, Tryz.f108), (109, Tryz.f109), (110, Tryz.f110), (111, Tryz.f111), (112, Tryz.f112), (113, Tryz.f113), (114, Tryz.f114), (116, Tryz.f116), (117, Tryz.f117), (118, Tryz.f118), (119, Tryz.f119), (120, Tryz.f120), (121, Tryz.f121), (122, Tryz.f122), (126, Tryz.f126), (127, Tryz.f127), (128, Tryz.f128), (129, Tryz.f129), (130, Tryz.f130), (131, Tryz.f131), (137, Tryz.f137), (138, Tryz.f138), (139, Tryz.f139), (140, Tryz.f140), (141, Tryz.f141), (142, Tryz.f142), (143, Tryz.f143), (149, Tryz.f149), (150, Tryz.f150), (152, Tryz.f152), (153, Tryz.f153), (154, Tryz.f154), (155, Tryz.f155), (158, Tryz.f158)]
noncomputable def exts : List (Nat × (List AV → St → Option (Slot × St))) := [(86, extBString 5), (94, pureX extItoa), (100, pureX extIndexByte), (105, extCopyCheck 121), (124, extGrow 9 (tis.getD 9 {})), (151, pureX extContains)]
def glob0 : List AV := [.str [97, 110, 100], .str [97, 110, 100, 97, 108, 115, 111], .str [97, 115], .str [99, 97, 115, 101], .str [100, 97, 116, 97, 116, 121, 112, 101], .str [100, 105, 118], .str [101, 108, 115, 101], .str [101, 110, 100], .str [101, 120, 99, 101, 112, 116, 105, 111, 110], .str [102, 110], .str [102, 117, 110], .str [104, 97, 110, 100, 108, 101], .str [105, 102], .str [105, 110], .str [108, 101, 116], .str [109, 111, 100], .str [111, 102], .str [111, 114, 101, 108, 115, 101], .str [112, 114, 105, 110, 116], .str [114, 97, 105, 115, 101], .str [114, 101, 97, 100], .str [114, 101, 102], .str [116, 104, 101, 110], .str [118, 97, 108]]
def glob1 : List AV := [.str [33], .str [40], .str [41], .str [42], .str [43], .str [44], .str [45], .str [45, 62], .str [58], .str [58, 61], .str [59], .str [60], .str [60, 61], .str [60, 62], .str [61], .str [61, 62], .str [95], .str [124], .str [126]]
noncomputable def C : Cfg where
 ti t := tis.getD t {}
 mode f d := findMode f d modes
 keep f r := findKeep f r keeps
 cut f r := findCut f r cuts
 draws f r := findDraw f r drawl
 ranks f r := findKeep f r rankl
 frz f r := findKeep f r frzs
 glob g := bif Nat.beq g 0 then some glob0 else bif Nat.beq g 1 then some glob1 else none
 ints := [2]
 ext f := findExt f exts
 code f := findCode f codes
 tabs := [(3, (Go.Lib.pow10Tab.map fun z => Value.int .u64 z).toArray)]
noncomputable abbrev cw : CallFn := callw C
def Q9h : List UInt8 := [32, 97, 110, 100, 32, 97, 110, 100, 97, 108, 115, 111, 32, 97, 115, 32, 99, 97, 115, 101, 32, 100, 97, 116, 97, 116, 121, 112, 101, 32, 100, 105, 118, 32, 101, 108, 115, 101, 32, 101, 110, 100, 32, 101, 120, 99, 101, 112, 116, 105, 111, 110, 32, 102, 110, 32, 102, 117, 110, 32, 104, 97, 110, 100, 108, 101, 32, 105, 102, 32, 105, 110, 32, 108, 101, 116, 32, 109, 111, 100, 32, 111, 102, 32, 111, 114, 101, 108, 115, 101, 32, 112, 114, 105, 110, 116, 32, 114, 97, 105, 115, 101, 32, 114, 101, 97, 100, 32, 114, 101, 102, 32, 116, 104, 101, 110, 32, 118, 97, 108, 32, 116, 114, 117, 101, 32, 102, 97, 108, 115, 101, 32, 95, 32]
abbrev T_0 : Nat := 0
abbrev Q1 : Nat := 3
abbrev Qj : Nat := 4
abbrev Q9 : Nat := 5
abbrev Q2 : Nat := 9
abbrev Q0v : Nat := 21
abbrev Q8 : Nat := 22
abbrev Q6 : Nat := 23
abbrev Q3 : Nat := 25
abbrev QM : Nat := 26
abbrev Q7 : Nat := 28
abbrev QD : Nat := 36
abbrev QN : Nat := 40
abbrev Qn : Nat := 44
abbrev Qk : Nat := 45
abbrev Q2W : Nat := 46
abbrev Qt : Nat := 62
abbrev Q0k : Nat := 63
abbrev Qi : Nat := 72
abbrev Z8 : Nat := 73
abbrev QF : Nat := 75
abbrev Q0t : Nat := 76
abbrev Z4 : Nat := 77
abbrev Q2V : Nat := 78
abbrev Q4 : Nat := 81
abbrev Zv : Nat := 82
abbrev Q0u : Nat := 83
abbrev Q5R : Nat := 85
abbrev QJ : Nat := 86
abbrev Ze : Nat := 87
abbrev ZI : Nat := 89
abbrev Q5Q : Nat := 95
abbrev Ql : Nat := 97
abbrev Q1D : Nat := 99
abbrev Qs : Nat := 101
abbrev Q1E : Nat := 110
abbrev Qb : Nat := 112
abbrev Zp : Nat := 115
abbrev Qg : Nat := 117
abbrev Qz : Nat := 119
abbrev QW : Nat := 121
abbrev Q0j : Nat := 144
abbrev QL : Nat := 145
abbrev Q1B : Nat := 165
abbrev Q13 : Nat := 166
abbrev Q0s : Nat := 167
abbrev Q1C : Nat := 168
abbrev Q14 : Nat := 169
abbrev Q4d : Nat := 170
abbrev QY : Nat := 172
abbrev Qx : Nat := 174
abbrev Q1n : Nat := 176
abbrev Q0 : Nat := 200
abbrev Q27 : Nat := 3
abbrev QgZ : Nat := 4
abbrev Qh0 : Nat := 5
abbrev QfY : Nat := 6
abbrev QgU : Nat := 7
abbrev Q37 : Nat := 8
abbrev Q1V : Nat := 9
abbrev Q10 : Nat := 10
abbrev Q3s : Nat := 11
abbrev Q2r : Nat := 12
abbrev Z6 : Nat := 13
abbrev Q20 : Nat := 14
abbrev ZW : Nat := 15
abbrev Q2s : Nat := 16
abbrev Q3v : Nat := 17
abbrev Qll : Nat := 18
abbrev Q2p : Nat := 19
abbrev ZV : Nat := 20
abbrev Qlm : Nat := 21
abbrev QkP : Nat := 22
abbrev Qln : Nat := 23
abbrev Qlk : Nat := 24
abbrev Q02 : Nat := 25
abbrev Q1X : Nat := 26
abbrev Q0J : Nat := 27
abbrev Q2D : Nat := 28
abbrev Q6D : Nat := 29
abbrev ZA : Nat := 30
abbrev Q0L : Nat := 31
abbrev Q21 : Nat := 32
abbrev ZE : Nat := 33
abbrev Q1Y : Nat := 34
abbrev Q2q : Nat := 35
abbrev Q1M : Nat := 36
abbrev Zl : Nat := 37
abbrev Q39 : Nat := 38
abbrev Q1h : Nat := 39
abbrev Q7G : Nat := 40
abbrev Q0M : Nat := 41
abbrev Q3w : Nat := 42
abbrev ZS : Nat := 43
abbrev Qm : Nat := 44
abbrev Zt : Nat := 45
abbrev Q8D : Nat := 46
abbrev Q2g : Nat := 47
abbrev Qlo : Nat := 48
abbrev Qnj : Nat := 49
abbrev Q0p : Nat := 50
abbrev Q2f : Nat := 51
abbrev QjP : Nat := 52
abbrev Q0U : Nat := 53
abbrev Q2E : Nat := 54
abbrev Q6E : Nat := 55
abbrev ZR : Nat := 56
abbrev Q5N : Nat := 57
abbrev Zi : Nat := 58
abbrev Zn : Nat := 59
abbrev Q4a : Nat := 60
abbrev Q1z : Nat := 61
abbrev Za : Nat := 62
abbrev Q1Z : Nat := 63
abbrev Q11 : Nat := 64
abbrev Q3a : Nat := 65
abbrev ZH : Nat := 66
abbrev Q2U : Nat := 67
abbrev QZ : Nat := 68
abbrev Q3P : Nat := 69
abbrev Q38 : Nat := 70
abbrev Q0K : Nat := 71
abbrev QI : Nat := 72
abbrev Q12 : Nat := 73
abbrev Q5O : Nat := 74
abbrev QK : Nat := 75
abbrev Q3Q : Nat := 76
abbrev Q8E : Nat := 77
abbrev Q4c : Nat := 78
abbrev Q4b : Nat := 79
abbrev Q2l : Nat := 80
abbrev ZX : Nat := 81
abbrev Qe : Nat := 82
abbrev Q0i : Nat := 83
abbrev Zo : Nat := 84
abbrev QR : Nat := 85
abbrev ZT : Nat := 86
abbrev Q2t : Nat := 87
abbrev Q03 : Nat := 88
abbrev Q0q : Nat := 89
abbrev Q1k : Nat := 90
abbrev Q4B : Nat := 91
abbrev Q1l : Nat := 92
abbrev Qw : Nat := 93
abbrev Q2S : Nat := 94
abbrev Q1j : Nat := 95
abbrev Q3u : Nat := 96
abbrev Q2u : Nat := 97
abbrev Q55 : Nat := 98
abbrev Q2o : Nat := 99
abbrev Q1f : Nat := 100
abbrev Q1e : Nat := 101
abbrev Q2n : Nat := 102
abbrev Q4A : Nat := 103
abbrev QQ : Nat := 104
abbrev QV : Nat := 105
abbrev QE : Nat := 106
abbrev Q2y : Nat := 108
abbrev Q2T : Nat := 109
abbrev Q1I : Nat := 110
abbrev ZQ : Nat := 111
abbrev Q1y : Nat := 112
abbrev Q1W : Nat := 113
abbrev Q3t : Nat := 114
abbrev Q0h : Nat := 116
abbrev Q0g : Nat := 117
abbrev Q2m : Nat := 118
abbrev Q1L : Nat := 119
abbrev ZJ : Nat := 120
abbrev Q54 : Nat := 121
abbrev Q3O : Nat := 122
abbrev Zm : Nat := 124
abbrev Q2v : Nat := 126
abbrev Q05 : Nat := 127
abbrev Q28 : Nat := 128
abbrev Z7 : Nat := 129
abbrev Q2R : Nat := 130
abbrev Q49 : Nat := 131
abbrev Q1J : Nat := 137
abbrev Zu : Nat := 138
abbrev Q0N : Nat := 139
abbrev Q2B : Nat := 140
abbrev Q2C : Nat := 141
abbrev Q1i : Nat := 142
abbrev Q0r : Nat := 143
abbrev Q2A : Nat := 149
abbrev Q2z : Nat := 150
abbrev Q1m : Nat := 151
abbrev Q1A : Nat := 152
abbrev Q6h : Nat := 153
abbrev Q04 : Nat := 154
abbrev Q2x : Nat := 155
abbrev Q2w : Nat := 158
@[go_sem] theorem Q1F : (C.ti Q1).size = 1 := by kernel_rfl
@[go_sem] theorem Q15 : (C.ti Q1).k = .int .i64 := by kernel_rfl
@[go_sem] theorem Q6F : (C.ti Q1).isAgg = false := by kernel_rfl
@[go_sem] theorem Q9j : (C.ti Q1).isGood = true := by kernel_rfl
@[go_sem] theorem Q7Y : (C.ti Q1).bytes = 8 := by kernel_rfl
@[go_sem] theorem Q9k : (C.ti Q1).zero = [.int .i64 0] := by kernel_rfl
@[go_sem] theorem QnL : (C.ti Qj).size = 1 := by kernel_rfl
@[go_sem] theorem QrF : (C.ti Qj).k = .bool := by kernel_rfl
@[go_sem] theorem QoC : (C.ti Qj).isAgg = false := by kernel_rfl
@[go_sem] theorem QnK : (C.ti Qj).isGood = true := by kernel_rfl
@[go_sem] theorem QnM : (C.ti Qj).zero = [.bool false] := by kernel_rfl
@[go_sem] theorem Qmk : (C.ti Q9).size = 1 := by kernel_rfl
@[go_sem] theorem Qh6 : (C.ti Q9).k = .int .u8 := by kernel_rfl
@[go_sem] theorem QnR : (C.ti Q9).isAgg = false := by kernel_rfl
@[go_sem] theorem Qmj : (C.ti Q9).isGood = true := by kernel_rfl
@[go_sem] theorem Qml : (C.ti Q9).zero = [.int .u8 0] := by kernel_rfl
@[go_sem] theorem Q6i : (C.ti Q2).size = 1 := by kernel_rfl
@[go_sem] theorem Qh : (C.ti Q2).k = .str := by kernel_rfl
@[go_sem] theorem Qme : (C.ti Q2).isAgg = false := by kernel_rfl
@[go_sem] theorem Qlc : (C.ti Q2).isGood = true := by kernel_rfl
@[go_sem] theorem Qld : (C.ti Q2).zero = [.str []] := by kernel_rfl
@[go_sem] theorem Qmc : (C.ti Q0v).size = 1 := by kernel_rfl
@[go_sem] theorem QqT : (C.ti Q0v).k = .int .i32 := by kernel_rfl
@[go_sem] theorem QnN : (C.ti Q0v).isAgg = false := by kernel_rfl
@[go_sem] theorem Qmb : (C.ti Q0v).isGood = true := by kernel_rfl
@[go_sem] theorem Qmd : (C.ti Q0v).zero = [.int .i32 0] := by kernel_rfl
@[go_sem] theorem Qla : (C.ti Q8).size = 1 := by kernel_rfl
@[go_sem] theorem Qg0 : (C.ti Q8).k = .int .i64 := by kernel_rfl
@[go_sem] theorem Qma : (C.ti Q8).isAgg = false := by kernel_rfl
@[go_sem] theorem Ql9 : (C.ti Q8).isGood = true := by kernel_rfl
@[go_sem] theorem Qlb : (C.ti Q8).zero = [.int .i64 0] := by kernel_rfl
@[go_sem] theorem QnF : (C.ti Q6).size = 1 := by kernel_rfl
@[go_sem] theorem Qiu : (C.ti Q6).k = .slice 25 := by kernel_rfl
@[go_sem] theorem Qox : (C.ti Q6).isAgg = false := by kernel_rfl
@[go_sem] theorem QnE : (C.ti Q6).isGood = true := by kernel_rfl
@[go_sem] theorem QnG : (C.ti Q6).zero = [.nils] := by kernel_rfl
@[go_sem] theorem Q4C : (C.ti Q3).size = 4 := by kernel_rfl
@[go_sem] theorem Qh4 : (C.ti Q3).k = .struct [(0, 22), (1, 3), (2, 9), (3, 23)] := by kernel_rfl
@[go_sem] theorem Qd2 : (C.ti Q3).isAgg = true := by kernel_rfl
@[go_sem] theorem Qh3 : (C.ti Q3).isGood = true := by kernel_rfl
@[go_sem] theorem Qg1 : (C.ti Q3).bytes = 56 := by kernel_rfl
@[go_sem] theorem Qh5 : (C.ti Q3).zero = [.int .i64 0, .int .i64 0, .str [], .nils] := by kernel_rfl
@[go_sem] theorem Qm5 : (C.ti QM).size = 1 := by kernel_rfl
@[go_sem] theorem Qh1 : (C.ti QM).k = .slice 3 := by kernel_rfl
@[go_sem] theorem QnH : (C.ti QM).isAgg = false := by kernel_rfl
@[go_sem] theorem Qm4 : (C.ti QM).isGood = true := by kernel_rfl
@[go_sem] theorem Qm6 : (C.ti QM).zero = [.nils] := by kernel_rfl
@[go_sem] theorem Ql6 : (C.ti Q7).size = 5 := by kernel_rfl
@[go_sem] theorem Qoz : (C.ti Q7).k = .struct [(0, 3), (1, 25)] := by kernel_rfl
@[go_sem] theorem Qm9 : (C.ti Q7).isAgg = true := by kernel_rfl
@[go_sem] theorem Ql5 : (C.ti Q7).isGood = true := by kernel_rfl
@[go_sem] theorem Ql7 : (C.ti Q7).zero = [.int .i64 0, .int .i64 0, .int .i64 0, .str [], .nils] := by kernel_rfl
@[go_sem] theorem Qlq : (C.ti QD).size = 1 := by kernel_rfl
@[go_sem] theorem QqC : (C.ti QD).k = .int .i64 := by kernel_rfl
@[go_sem] theorem Qnm : (C.ti QD).isAgg = false := by kernel_rfl
@[go_sem] theorem Qlp : (C.ti QD).isGood = true := by kernel_rfl
@[go_sem] theorem Qlr : (C.ti QD).zero = [.int .i64 0] := by kernel_rfl
@[go_sem] theorem Qd6 : (C.ti QN).size = 1 := by kernel_rfl
@[go_sem] theorem Qfr : (C.ti QN).k = .func := by kernel_rfl
@[go_sem] theorem QeF : (C.ti QN).isAgg = false := by kernel_rfl
@[go_sem] theorem Qd5 : (C.ti QN).isGood = true := by kernel_rfl
@[go_sem] theorem Qd7 : (C.ti QN).zero = [.nilf] := by kernel_rfl
@[go_sem] theorem QcW : (C.ti Qn).size = 1 := by kernel_rfl
@[go_sem] theorem QeH : (C.ti Qn).k = .func := by kernel_rfl
@[go_sem] theorem Qd4 : (C.ti Qn).isAgg = false := by kernel_rfl
@[go_sem] theorem QcV : (C.ti Qn).isGood = true := by kernel_rfl
@[go_sem] theorem QcX : (C.ti Qn).zero = [.nilf] := by kernel_rfl
@[go_sem] theorem Qg4 : (C.ti Qk).size = 1 := by kernel_rfl
@[go_sem] theorem Qiq : (C.ti Qk).k = .map 3 3 := by kernel_rfl
@[go_sem] theorem QgY : (C.ti Qk).isAgg = false := by kernel_rfl
@[go_sem] theorem Qg3 : (C.ti Qk).isGood = true := by kernel_rfl
@[go_sem] theorem Qg5 : (C.ti Qk).zero = [.nilm] := by kernel_rfl
@[go_sem] theorem QkZ : (C.ti Q2W).size = 1 := by kernel_rfl
@[go_sem] theorem Qoy : (C.ti Q2W).k = .slice 4 := by kernel_rfl
@[go_sem] theorem Qm3 : (C.ti Q2W).isAgg = false := by kernel_rfl
@[go_sem] theorem QkY : (C.ti Q2W).isGood = true := by kernel_rfl
@[go_sem] theorem Ql0 : (C.ti Q2W).zero = [.nils] := by kernel_rfl
@[go_sem] theorem Q16 : (C.ti Qt).size = 8 := by kernel_rfl
@[go_sem] theorem QrG : (C.ti Qt).k = .struct [(0, 25), (4, 25)] := by kernel_rfl
@[go_sem] theorem Qg2 : (C.ti Qt).isAgg = true := by kernel_rfl
@[go_sem] theorem QnO : (C.ti Qt).isGood = true := by kernel_rfl
@[go_sem] theorem Q6G : (C.ti Qt).bytes = 112 := by kernel_rfl
@[go_sem] theorem QnP : (C.ti Qt).zero = [.int .i64 0, .int .i64 0, .str [], .nils, .int .i64 0, .int .i64 0, .str [], .nils] := by kernel_rfl
@[go_sem] theorem Ql2 : (C.ti Q0k).size = 1 := by kernel_rfl
@[go_sem] theorem QfZ : (C.ti Q0k).k = .slice 62 := by kernel_rfl
@[go_sem] theorem Qm7 : (C.ti Q0k).isAgg = false := by kernel_rfl
@[go_sem] theorem Ql1 : (C.ti Q0k).isGood = true := by kernel_rfl
@[go_sem] theorem Ql3 : (C.ti Q0k).zero = [.nils] := by kernel_rfl
@[go_sem] theorem Qbd : (C.ti Qi).size = 1 := by kernel_rfl
@[go_sem] theorem Qd3 : (C.ti Qi).k = .func := by kernel_rfl
@[go_sem] theorem Qci : (C.ti Qi).isAgg = false := by kernel_rfl
@[go_sem] theorem Qbc : (C.ti Qi).isGood = true := by kernel_rfl
@[go_sem] theorem Qbe : (C.ti Qi).zero = [.nilf] := by kernel_rfl
@[go_sem] theorem QgW : (C.ti Z8).size = 1 := by kernel_rfl
@[go_sem] theorem Qiv : (C.ti Z8).k = .slice 97 := by kernel_rfl
@[go_sem] theorem Qh2 : (C.ti Z8).isAgg = false := by kernel_rfl
@[go_sem] theorem QgV : (C.ti Z8).isGood = true := by kernel_rfl
@[go_sem] theorem QgX : (C.ti Z8).zero = [.nils] := by kernel_rfl
@[go_sem] theorem QjT : (C.ti QF).size = 1 := by kernel_rfl
@[go_sem] theorem Qnl : (C.ti QF).k = .int .i64 := by kernel_rfl
@[go_sem] theorem QkR : (C.ti QF).isAgg = false := by kernel_rfl
@[go_sem] theorem QjS : (C.ti QF).isGood = true := by kernel_rfl
@[go_sem] theorem QjU : (C.ti QF).zero = [.int .i64 0] := by kernel_rfl
@[go_sem] theorem QlM : (C.ti Q0t).size = 1 := by kernel_rfl
@[go_sem] theorem QqL : (C.ti Q0t).k = .slice 95 := by kernel_rfl
@[go_sem] theorem Qny : (C.ti Q0t).isAgg = false := by kernel_rfl
@[go_sem] theorem QlL : (C.ti Q0t).isGood = true := by kernel_rfl
@[go_sem] theorem QlN : (C.ti Q0t).zero = [.nils] := by kernel_rfl
@[go_sem] theorem QkW : (C.ti Z4).size = 1 := by kernel_rfl
@[go_sem] theorem Qow : (C.ti Z4).k = .slice 91 := by kernel_rfl
@[go_sem] theorem QlK : (C.ti Z4).isAgg = false := by kernel_rfl
@[go_sem] theorem QkV : (C.ti Z4).isGood = true := by kernel_rfl
@[go_sem] theorem QkX : (C.ti Z4).zero = [.nils] := by kernel_rfl
@[go_sem] theorem QlV : (C.ti Q2V).size = 1 := by kernel_rfl
@[go_sem] theorem QqO : (C.ti Q2V).k = .slice 93 := by kernel_rfl
@[go_sem] theorem QnB : (C.ti Q2V).isAgg = false := by kernel_rfl
@[go_sem] theorem QlU : (C.ti Q2V).isGood = true := by kernel_rfl
@[go_sem] theorem QlW : (C.ti Q2V).zero = [.nils] := by kernel_rfl
@[go_sem] theorem QjW : (C.ti Q4).size = 1 := by kernel_rfl
@[go_sem] theorem Qnn : (C.ti Q4).k = .int .i64 := by kernel_rfl
@[go_sem] theorem QkS : (C.ti Q4).isAgg = false := by kernel_rfl
@[go_sem] theorem QjV : (C.ti Q4).isGood = true := by kernel_rfl
@[go_sem] theorem QjX : (C.ti Q4).zero = [.int .i64 0] := by kernel_rfl
@[go_sem] theorem QlS : (C.ti Zv).size = 1 := by kernel_rfl
@[go_sem] theorem QqN : (C.ti Zv).k = .slice 85 := by kernel_rfl
@[go_sem] theorem QnA : (C.ti Zv).isAgg = false := by kernel_rfl
@[go_sem] theorem QlR : (C.ti Zv).isGood = true := by kernel_rfl
@[go_sem] theorem QlT : (C.ti Zv).zero = [.nils] := by kernel_rfl
@[go_sem] theorem QlP : (C.ti Q0u).size = 1 := by kernel_rfl
@[go_sem] theorem QqM : (C.ti Q0u).k = .slice 80 := by kernel_rfl
@[go_sem] theorem Qnz : (C.ti Q0u).isAgg = false := by kernel_rfl
@[go_sem] theorem QlO : (C.ti Q0u).isGood = true := by kernel_rfl
@[go_sem] theorem QlQ : (C.ti Q0u).zero = [.nils] := by kernel_rfl
@[go_sem] theorem Qoq : (C.ti Q5R).size = 7 := by kernel_rfl
@[go_sem] theorem Qt0 : (C.ti Q5R).k = .struct [(0, 81), (1, 3), (2, 9), (3, 3), (4, 82), (5, 77), (6, 83)] := by kernel_rfl
@[go_sem] theorem QqD : (C.ti Q5R).isAgg = true := by kernel_rfl
@[go_sem] theorem Qop : (C.ti Q5R).isGood = true := by kernel_rfl
@[go_sem] theorem Qor : (C.ti Q5R).zero = [.int .i64 0, .int .i64 0, .str [], .int .i64 0, .nils, .nils, .nils] := by kernel_rfl
@[go_sem] theorem QjZ : (C.ti QJ).size = 1 := by kernel_rfl
@[go_sem] theorem Qnx : (C.ti QJ).k = .int .i64 := by kernel_rfl
@[go_sem] theorem QkT : (C.ti QJ).isAgg = false := by kernel_rfl
@[go_sem] theorem QjY : (C.ti QJ).isGood = true := by kernel_rfl
@[go_sem] theorem Qk0 : (C.ti QJ).zero = [.int .i64 0] := by kernel_rfl
@[go_sem] theorem QlY : (C.ti Ze).size = 1 := by kernel_rfl
@[go_sem] theorem QqP : (C.ti Ze).k = .slice 89 := by kernel_rfl
@[go_sem] theorem QnC : (C.ti Ze).isAgg = false := by kernel_rfl
@[go_sem] theorem QlX : (C.ti Ze).isGood = true := by kernel_rfl
@[go_sem] theorem QlZ : (C.ti Ze).zero = [.nils] := by kernel_rfl
@[go_sem] theorem Qou : (C.ti ZI).size = 5 := by kernel_rfl
@[go_sem] theorem Qt1 : (C.ti ZI).k = .struct [(0, 86), (1, 3), (2, 9), (3, 3), (4, 87)] := by kernel_rfl
@[go_sem] theorem QqK : (C.ti ZI).isAgg = true := by kernel_rfl
@[go_sem] theorem Qot : (C.ti ZI).isGood = true := by kernel_rfl
@[go_sem] theorem Qov : (C.ti ZI).zero = [.int .i64 0, .int .i64 0, .str [], .int .i64 0, .nils] := by kernel_rfl
@[go_sem] theorem Qon : (C.ti Q5Q).size = 7 := by kernel_rfl
@[go_sem] theorem QsZ : (C.ti Q5Q).k = .struct [(0, 9), (1, 3), (2, 4), (3, 25)] := by kernel_rfl
@[go_sem] theorem QqB : (C.ti Q5Q).isAgg = true := by kernel_rfl
@[go_sem] theorem Qom : (C.ti Q5Q).isGood = true := by kernel_rfl
@[go_sem] theorem Qoo : (C.ti Q5Q).zero = [.str [], .int .i64 0, .bool false, .int .i64 0, .int .i64 0, .str [], .nils] := by kernel_rfl
@[go_sem] theorem Q3D : (C.ti Ql).size = 47 := by kernel_rfl
@[go_sem] theorem Qk7 : (C.ti Ql).k = .struct [(0, 3), (1, 4), (2, 3), (3, 80), (10, 85), (17, 89), (22, 25), (26, 93), (40, 95)] := by kernel_rfl
@[go_sem] theorem Qiw : (C.ti Ql).isAgg = true := by kernel_rfl
@[go_sem] theorem Qio : (C.ti Ql).isGood = true := by kernel_rfl
@[go_sem] theorem Q6H : (C.ti Ql).bytes = 656 := by kernel_rfl
@[go_sem] theorem Qip : (C.ti Ql).zero = [.int .i64 0, .bool false, .int .i64 0, .int .i64 0, .int .i64 0, .str [], .int .i64 0, .nils, .nils, .nils, .int .i64 0, .int .i64 0, .str [], .int .i64 0, .nils, .nils, .nils, .int .i64 0, .int .i64 0, .str [], .int .i64 0, .nils, .int .i64 0, .int .i64 0, .str [], .nils, .str [], .int .i64 0, .int .i64 0, .int .i64 0, .str [], .int .i64 0, .nils, .int .i64 0, .int .i64 0, .str [], .int .i64 0, .nils, .nils, .nils, .str [], .int .i64 0, .bool false, .int .i64 0, .int .i64 0, .str [], .nils] := by kernel_rfl
@[go_sem] theorem QlI : (C.ti Q1D).size = 1 := by kernel_rfl
@[go_sem] theorem QqJ : (C.ti Q1D).k = .ptr := by kernel_rfl
@[go_sem] theorem Qnw : (C.ti Q1D).isAgg = false := by kernel_rfl
@[go_sem] theorem QlH : (C.ti Q1D).isGood = true := by kernel_rfl
@[go_sem] theorem QlJ : (C.ti Q1D).zero = [.nilp] := by kernel_rfl
@[go_sem] theorem QjN : (C.ti Qs).size = 1 := by kernel_rfl
@[go_sem] theorem Qm8 : (C.ti Qs).k = .slice 9 := by kernel_rfl
@[go_sem] theorem Qk1 : (C.ti Qs).isAgg = false := by kernel_rfl
@[go_sem] theorem QjM : (C.ti Qs).isGood = true := by kernel_rfl
@[go_sem] theorem QjO : (C.ti Qs).zero = [.nils] := by kernel_rfl
@[go_sem] theorem Qm1 : (C.ti Q1E).size = 1 := by kernel_rfl
@[go_sem] theorem QqQ : (C.ti Q1E).k = .slice 117 := by kernel_rfl
@[go_sem] theorem QnD : (C.ti Q1E).isAgg = false := by kernel_rfl
@[go_sem] theorem Qm0 : (C.ti Q1E).isGood = true := by kernel_rfl
@[go_sem] theorem Qm2 : (C.ti Q1E).zero = [.nils] := by kernel_rfl
@[go_sem] theorem Qok : (C.ti Qb).size = 3 := by kernel_rfl
@[go_sem] theorem QsY : (C.ti Qb).k = .struct [(0, 36), (1, 3), (2, 9)] := by kernel_rfl
@[go_sem] theorem QqA : (C.ti Qb).isAgg = true := by kernel_rfl
@[go_sem] theorem Qoj : (C.ti Qb).isGood = true := by kernel_rfl
@[go_sem] theorem Qol : (C.ti Qb).zero = [.int .i64 0, .int .i64 0, .str []] := by kernel_rfl
@[go_sem] theorem Qk5 : (C.ti Zp).size = 1 := by kernel_rfl
@[go_sem] theorem QnJ : (C.ti Zp).k = .int .i64 := by kernel_rfl
@[go_sem] theorem Ql8 : (C.ti Zp).isAgg = false := by kernel_rfl
@[go_sem] theorem Qk4 : (C.ti Zp).isGood = true := by kernel_rfl
@[go_sem] theorem Qk6 : (C.ti Zp).zero = [.int .i64 0] := by kernel_rfl
@[go_sem] theorem Q9i : (C.ti Qg).size = 4 := by kernel_rfl
@[go_sem] theorem Qt2 : (C.ti Qg).k = .struct [(0, 115), (1, 3), (2, 9), (3, 3)] := by kernel_rfl
@[go_sem] theorem QqR : (C.ti Qg).isAgg = true := by kernel_rfl
@[go_sem] theorem QoA : (C.ti Qg).isGood = true := by kernel_rfl
@[go_sem] theorem QeG : (C.ti Qg).bytes = 40 := by kernel_rfl
@[go_sem] theorem QoB : (C.ti Qg).zero = [.int .i64 0, .int .i64 0, .str [], .int .i64 0] := by kernel_rfl
@[go_sem] theorem Q5i : (C.ti Qz).size = 1 := by kernel_rfl
@[go_sem] theorem QnI : (C.ti Qz).k = .slice 5 := by kernel_rfl
@[go_sem] theorem Ql4 : (C.ti Qz).isAgg = false := by kernel_rfl
@[go_sem] theorem Qk2 : (C.ti Qz).isGood = true := by kernel_rfl
@[go_sem] theorem Qk3 : (C.ti Qz).zero = [.nils] := by kernel_rfl
@[go_sem] theorem QjR : (C.ti QW).size = 2 := by kernel_rfl
@[go_sem] theorem Qnk : (C.ti QW).k = .struct [(0, 118), (1, 119)] := by kernel_rfl
@[go_sem] theorem QkQ : (C.ti QW).isAgg = true := by kernel_rfl
@[go_sem] theorem QjQ : (C.ti QW).isGood = true := by kernel_rfl
@[go_sem] theorem Qaz : (C.ti QW).zero = [.nilp, .nils] := by kernel_rfl
@[go_sem] theorem Qis : (C.ti Q0j).size = 1 := by kernel_rfl
@[go_sem] theorem QkU : (C.ti Q0j).k = .slice 101 := by kernel_rfl
@[go_sem] theorem QjL : (C.ti Q0j).isAgg = false := by kernel_rfl
@[go_sem] theorem Qir : (C.ti Q0j).isGood = true := by kernel_rfl
@[go_sem] theorem Qit : (C.ti Q0j).zero = [.nils] := by kernel_rfl
@[go_sem] theorem Qlf : (C.ti QL).size = 1 := by kernel_rfl
@[go_sem] theorem QoG : (C.ti QL).k = .int .u64 := by kernel_rfl
@[go_sem] theorem Qmi : (C.ti QL).isAgg = false := by kernel_rfl
@[go_sem] theorem Qle : (C.ti QL).isGood = true := by kernel_rfl
@[go_sem] theorem Qlg : (C.ti QL).zero = [.int .u64 0] := by kernel_rfl
@[go_sem] theorem Qlw : (C.ti Q1B).size = 1 := by kernel_rfl
@[go_sem] theorem QqF : (C.ti Q1B).k = .ptr := by kernel_rfl
@[go_sem] theorem Qnp : (C.ti Q1B).isAgg = false := by kernel_rfl
@[go_sem] theorem Qlv : (C.ti Q1B).isGood = true := by kernel_rfl
@[go_sem] theorem Qlx : (C.ti Q1B).zero = [.nilp] := by kernel_rfl
@[go_sem] theorem QlC : (C.ti Q13).size = 1 := by kernel_rfl
@[go_sem] theorem QqH : (C.ti Q13).k = .ptr := by kernel_rfl
@[go_sem] theorem Qnr : (C.ti Q13).isAgg = false := by kernel_rfl
@[go_sem] theorem QlB : (C.ti Q13).isGood = true := by kernel_rfl
@[go_sem] theorem QlD : (C.ti Q13).zero = [.nilp] := by kernel_rfl
@[go_sem] theorem Qlt : (C.ti Q0s).size = 1 := by kernel_rfl
@[go_sem] theorem QqE : (C.ti Q0s).k = .ptr := by kernel_rfl
@[go_sem] theorem Qno : (C.ti Q0s).isAgg = false := by kernel_rfl
@[go_sem] theorem Qls : (C.ti Q0s).isGood = true := by kernel_rfl
@[go_sem] theorem Qlu : (C.ti Q0s).zero = [.nilp] := by kernel_rfl
@[go_sem] theorem Qlz : (C.ti Q1C).size = 1 := by kernel_rfl
@[go_sem] theorem QqG : (C.ti Q1C).k = .ptr := by kernel_rfl
@[go_sem] theorem Qnq : (C.ti Q1C).isAgg = false := by kernel_rfl
@[go_sem] theorem Qly : (C.ti Q1C).isGood = true := by kernel_rfl
@[go_sem] theorem QlA : (C.ti Q1C).zero = [.nilp] := by kernel_rfl
@[go_sem] theorem QlF : (C.ti Q14).size = 1 := by kernel_rfl
@[go_sem] theorem QqI : (C.ti Q14).k = .ptr := by kernel_rfl
@[go_sem] theorem Qns : (C.ti Q14).isAgg = false := by kernel_rfl
@[go_sem] theorem QlE : (C.ti Q14).isGood = true := by kernel_rfl
@[go_sem] theorem QlG : (C.ti Q14).zero = [.nilp] := by kernel_rfl
@[go_sem] theorem Qnu : (C.ti Q4d).size = 1 := by kernel_rfl
@[go_sem] theorem QrE : (C.ti Q4d).k = .ptr := by kernel_rfl
@[go_sem] theorem Qos : (C.ti Q4d).isAgg = false := by kernel_rfl
@[go_sem] theorem Qnt : (C.ti Q4d).isGood = true := by kernel_rfl
@[go_sem] theorem Qnv : (C.ti Q4d).zero = [.nilp] := by kernel_rfl
@[go_sem] theorem Qmg : (C.ti QY).size = 8 := by kernel_rfl
@[go_sem] theorem QqU : (C.ti QY).k = .struct [(0, 165), (1, 4), (2, 166), (3, 167), (4, 168), (5, 169), (6, 170), (7, 3)] := by kernel_rfl
@[go_sem] theorem QnQ : (C.ti QY).isAgg = true := by kernel_rfl
@[go_sem] theorem Qmf : (C.ti QY).isGood = true := by kernel_rfl
@[go_sem] theorem Qmh : (C.ti QY).zero = [.nilp, .bool false, .nilp, .nilp, .nilp, .nilp, .nilp, .int .i64 0] := by kernel_rfl
@[go_sem] theorem Qax : (C.ti Qx).size = 1 := by kernel_rfl
@[go_sem] theorem Qcj : (C.ti Qx).k = .func := by kernel_rfl
@[go_sem] theorem QaA : (C.ti Qx).isAgg = false := by kernel_rfl
@[go_sem] theorem Qaw : (C.ti Qx).isGood = true := by kernel_rfl
@[go_sem] theorem Qay : (C.ti Qx).zero = [.nilf] := by kernel_rfl
@[go_sem] theorem Qli : (C.ti Q1n).size = 1 := by kernel_rfl
@[go_sem] theorem QoH : (C.ti Q1n).k = .struct [(0, 174)] := by kernel_rfl
@[go_sem] theorem Qmm : (C.ti Q1n).isAgg = true := by kernel_rfl
@[go_sem] theorem Qlh : (C.ti Q1n).isGood = true := by kernel_rfl
@[go_sem] theorem Qlj : (C.ti Q1n).zero = [.nilf] := by kernel_rfl
@[go_sem] theorem QoE : (C.ti Q0).size = 6 := by kernel_rfl
@[go_sem] theorem Qt3 : (C.ti Q0).k = .struct [(0, 4), (1, 4), (2, 4), (3, 4), (4, 3), (5, 3)] := by kernel_rfl
@[go_sem] theorem QqS : (C.ti Q0).isAgg = true := by kernel_rfl
@[go_sem] theorem QoD : (C.ti Q0).isGood = true := by kernel_rfl
@[go_sem] theorem QoF : (C.ti Q0).zero = [.bool false, .bool false, .bool false, .bool false, .int .i64 0, .int .i64 0] := by kernel_rfl
noncomputable def gC (T : Nat) (k : Nat) (c : List Slot) (K : Slot → Res) : Res := bind1 (ofSlots (C.ti T) (List.take (C.ti T).size (List.drop k c))) K
@[go_sem] theorem QtX (T : Nat) (k : Nat) (c : List Slot) (K : Slot → Res) : gC T k c K = bind1 (ofSlots (C.ti T) (List.take (C.ti T).size (List.drop k c))) K := id rfl
@[congr] theorem Qsi {T : Nat} {k : Nat} {c c' : List Slot} {K : Slot → Res} (h0 : c = c') : gC T k c K = gC T k c' K := by rw [h0]
noncomputable def gA (T : Nat) (c : List Slot) (K : Slot → Res) : Res := bind1 (ofSlots (C.ti T) (List.take (C.ti T).size c)) K
@[go_sem] theorem QtV (T : Nat) (c : List Slot) (K : Slot → Res) : gA T c K = bind1 (ofSlots (C.ti T) (List.take (C.ti T).size c)) K := id rfl
@[congr] theorem Qsg {T : Nat} {c c' : List Slot} {K : Slot → Res} (h0 : c = c') : gA T c K = gA T c' K := by rw [h0]
noncomputable def bx (T : Nat) (v : Slot) (K : List Slot → Res) : Res := bindL (boxCells (C.ti T) v) K
@[go_sem] theorem QtP (T : Nat) (v : Slot) (K : List Slot → Res) : bx T v K = bindL (boxCells (C.ti T) v) K := id rfl
@[congr] theorem Qs0 {T : Nat} {v v' : Slot} {K : List Slot → Res} (h0 : v = v') : bx T v K = bx T v' K := by rw [h0]
noncomputable def pZ (T : Nat) (c : List Slot) (K : List Slot → Res) : Res := bindL (putAt (List.map .val (C.ti T).zero) 0 c) K
@[go_sem] theorem Quh (T : Nat) (c : List Slot) (K : List Slot → Res) : pZ T c K = bindL (putAt (List.map .val (C.ti T).zero) 0 c) K := id rfl
@[congr] theorem QsS {T : Nat} {c c' : List Slot} {K : List Slot → Res} (h0 : c = c') : pZ T c K = pZ T c' K := by rw [h0]
noncomputable def bn (T : Nat) (op : BinOp) (x : Slot) (y : Slot) (K : Slot → Res) : Res := bind1 (binS (C.ti T) op x y) K
@[go_sem] theorem QcZ (T : Nat) (op : BinOp) (x : Slot) (y : Slot) (K : Slot → Res) : bn T op x y K = bind1 (binS (C.ti T) op x y) K := id rfl
@[congr] theorem QrY {T : Nat} {op : BinOp} {x x' : Slot} {y y' : Slot} {K : Slot → Res} (h0 : x = x') (h1 : y = y') : bn T op x y K = bn T op x' y' K := by rw [h0, h1]
noncomputable def ix (T : Nat) (x : Slot) (i : Slot) (K : Slot → Res) : Res := bind1 (ixS (C.ti T).size x i) K
@[go_sem] theorem Quc (T : Nat) (x : Slot) (i : Slot) (K : Slot → Res) : ix T x i K = bind1 (ixS (C.ti T).size x i) K := id rfl
@[congr] theorem QsB {T : Nat} {x x' : Slot} {i i' : Slot} {K : Slot → Res} (h0 : x = x') (h1 : i = i') : ix T x i K = ix T x' i' K := by rw [h0, h1]
noncomputable def ld (T : Nat) (s : St) (a : Slot) (K : Slot → Res) : Res := bind1 (ldV (C.ti T) false s a) K
@[go_sem] theorem Qud (T : Nat) (s : St) (a : Slot) (K : Slot → Res) : ld T s a K = bind1 (ldV (C.ti T) false s a) K := id rfl
@[congr] theorem QsC {T : Nat} {s s' : St} {a a' : Slot} {K : Slot → Res} (h0 : s = s') (h1 : a = a') : ld T s a K = ld T s' a' K := by rw [h0, h1]
noncomputable def ln (T : Nat) (x : Slot) (K : Slot → Res) : Res := bind1 (lenS (C.ti T) x) K
@[go_sem] theorem Qd1 (T : Nat) (x : Slot) (K : Slot → Res) : ln T x K = bind1 (lenS (C.ti T) x) K := id rfl
@[congr] theorem QsF {T : Nat} {x x' : Slot} {K : Slot → Res} (h0 : x = x') : ln T x K = ln T x' K := by rw [h0]
noncomputable def ca (f : Nat) (l : List Slot) (s : St) (K : Slot → St → Res) : Res := back (cal cw true (tgtV (.val (.fn f [])) l) s) K
@[go_sem] theorem QtQ (f : Nat) (l : List Slot) (s : St) (K : Slot → St → Res) : ca f l s K = back (cal cw true (tgtV (.val (.fn f [])) l) s) K := id rfl
@[congr] theorem Qs1 {f : Nat} {l l' : List Slot} {s s' : St} {K : Slot → St → Res} (h0 : l = l') (h1 : s = s') : ca f l s K = ca f l' s' K := by rw [h0, h1]
noncomputable def cn (f : Nat) (l : List Slot) (s : St) (K : Slot → St → Res) : Res := back (noPan (cal cw true (tgtV (.val (.fn f [])) l) s)) K
@[go_sem] theorem QtS (f : Nat) (l : List Slot) (s : St) (K : Slot → St → Res) : cn f l s K = back (noPan (cal cw true (tgtV (.val (.fn f [])) l) s)) K := id rfl
@[congr] theorem Qs7 {f : Nat} {l l' : List Slot} {s s' : St} {K : Slot → St → Res} (h0 : l = l') (h1 : s = s') : cn f l s K = cn f l' s' K := by rw [h0, h1]
noncomputable def cg (w : Bool) (f : Nat) (l : List Slot) (s : St) (K : Slot → St → Res) : Res := back (cal cw w (tgtV (.val (.fn f [])) l) s) K
@[go_sem] theorem QtR (w : Bool) (f : Nat) (l : List Slot) (s : St) (K : Slot → St → Res) : cg w f l s K = back (cal cw w (tgtV (.val (.fn f [])) l) s) K := id rfl
@[congr] theorem Qs6 {f : Nat} {w w' : Bool} {l l' : List Slot} {s s' : St} {K : Slot → St → Res} (h0 : w = w') (h1 : l = l') (h2 : s = s') : cg w f l s K = cg w' f l' s' K := by rw [h0, h1, h2]
noncomputable def iT (v : Slot) (K : Bool → Res) : Res := bindB (Slot.isB v true) K
@[go_sem] theorem Qu8 (v : Slot) (K : Bool → Res) : iT v K = bindB (Slot.isB v true) K := id rfl
@[congr] theorem Qsv  {v v' : Slot} {K : Bool → Res} (h0 : v = v') : iT v K = iT v' K := by rw [h0]
noncomputable def iF (v : Slot) (K : Bool → Res) : Res := bindB (Slot.isB v false) K
@[go_sem] theorem Qu7 (v : Slot) (K : Bool → Res) : iF v K = bindB (Slot.isB v false) K := id rfl
@[congr] theorem Qsu  {v v' : Slot} {K : Bool → Res} (h0 : v = v') : iF v K = iF v' K := by rw [h0]
noncomputable def gG (w : Bool) (b : Bool) (T : Nat) (k : Nat) (c : List Slot) (K : Slot → Res) : Res := bind1 (gd w (bif b then (ofSlots (C.ti T) (List.take (C.ti T).size (List.drop k c))) else none)) K
@[go_sem] theorem QtY (w : Bool) (b : Bool) (T : Nat) (k : Nat) (c : List Slot) (K : Slot → Res) : gG w b T k c K = bind1 (gd w (bif b then (ofSlots (C.ti T) (List.take (C.ti T).size (List.drop k c))) else none)) K := id rfl
@[congr] theorem Qsj {b : Bool} {T : Nat} {k : Nat} {c : List Slot} {w w' : Bool} {K : Slot → Res} (h0 : w = w') : gG w b T k c K = gG w' b T k c K := by rw [h0]
noncomputable def gB (w : Bool) (T : Nat) (op : BinOp) (x : Slot) (y : Slot) (K : Slot → Res) : Res := bind1 (gd w (binS (C.ti T) op x y)) K
@[go_sem] theorem QtW (w : Bool) (T : Nat) (op : BinOp) (x : Slot) (y : Slot) (K : Slot → Res) : gB w T op x y K = bind1 (gd w (binS (C.ti T) op x y)) K := id rfl
@[congr] theorem Qsh {T : Nat} {op : BinOp} {x : Slot} {y : Slot} {w w' : Bool} {K : Slot → Res} (h0 : w = w') : gB w T op x y K = gB w' T op x y K := by rw [h0]
noncomputable def gN (w : Bool) (x : Slot) (K : Slot → Res) : Res := bind1 (gd w (unS .not x)) K
@[go_sem] theorem Qu0 (w : Bool) (x : Slot) (K : Slot → Res) : gN w x K = bind1 (gd w (unS .not x)) K := id rfl
@[congr] theorem Qsl {x : Slot} {w w' : Bool} {K : Slot → Res} (h0 : w = w') : gN w x K = gN w' x K := by rw [h0]
noncomputable def gL (w : Bool) (T : Nat) (x : Slot) (K : Slot → Res) : Res := bind1 (gd w (lenS (C.ti T) x)) K
@[go_sem] theorem QtZ (w : Bool) (T : Nat) (x : Slot) (K : Slot → Res) : gL w T x K = bind1 (gd w (lenS (C.ti T) x)) K := id rfl
@[congr] theorem Qsk {T : Nat} {x : Slot} {w w' : Bool} {K : Slot → Res} (h0 : w = w') : gL w T x K = gL w' T x K := by rw [h0]
noncomputable def nt (x : Slot) (K : Slot → Res) : Res := bind1 (unS .not x) K
@[go_sem] theorem Quf (x : Slot) (K : Slot → Res) : nt x K = bind1 (unS .not x) K := id rfl
@[congr] theorem QsJ  {x x' : Slot} {K : Slot → Res} (h0 : x = x') : nt x K = nt x' K := by rw [h0]
noncomputable def pk (a : Slot) (b : Slot) (c : Slot) (K : Slot → Res) : Res := bind1 (pickS a b c) K
@[go_sem] theorem Qui (a : Slot) (b : Slot) (c : Slot) (K : Slot → Res) : pk a b c K = bind1 (pickS a b c) K := id rfl
@[congr] theorem QsT  {a a' : Slot} {b b' : Slot} {c c' : Slot} {K : Slot → Res} (h0 : a = a') (h1 : b = b') (h2 : c = c') : pk a b c K = pk a' b' c' K := by rw [h0, h1, h2]
noncomputable def ex (a : Slot) (i : Nat) (K : Slot → Res) : Res := bind1 (extractS a i) K
@[go_sem] theorem QtT (a : Slot) (i : Nat) (K : Slot → Res) : ex a i K = bind1 (extractS a i) K := id rfl
@[congr] theorem Qsa {i : Nat} {a a' : Slot} {K : Slot → Res} (h0 : a = a') : ex a i K = ex a' i K := by rw [h0]
noncomputable def fa (i : Nat) (a : Slot) (K : Slot → Res) : Res := bind1 (faV i a) K
@[go_sem] theorem QtU (i : Nat) (a : Slot) (K : Slot → Res) : fa i a K = bind1 (faV i a) K := id rfl
@[congr] theorem Qse {i : Nat} {a a' : Slot} {K : Slot → Res} (h0 : a = a') : fa i a K = fa i a' K := by rw [h0]
noncomputable def pt (c : List Slot) (i : Nat) (d : List Slot) (K : List Slot → Res) : Res := bindL (putAt c i d) K
@[go_sem] theorem Quj (c : List Slot) (i : Nat) (d : List Slot) (K : List Slot → Res) : pt c i d K = bindL (putAt c i d) K := id rfl
@[congr] theorem QsU {i : Nat} {c c' : List Slot} {d d' : List Slot} {K : List Slot → Res} (h0 : c = c') (h1 : d = d') : pt c i d K = pt c' i d' K := by rw [h0, h1]
noncomputable def bs (T : Nat) (l : List Slot) (K : Slot → Res) : Res := bind1 (bslF (C.ti T).size l) K
@[go_sem] theorem QtN (T : Nat) (l : List Slot) (K : Slot → Res) : bs T l K = bind1 (bslF (C.ti T).size l) K := id rfl
@[congr] theorem QrZ {T : Nat} {l l' : List Slot} {K : Slot → Res} (h0 : l = l') : bs T l K = bs T l' K := by rw [h0]
noncomputable def ap (T : Nat) (s : St) (x : Slot) (y : Slot) (K : Slot → St → Res) : Res := bind2 (appendS T (C.ti T) s x y) K
@[go_sem] theorem QtL (T : Nat) (s : St) (x : Slot) (y : Slot) (K : Slot → St → Res) : ap T s x y K = bind2 (appendS T (C.ti T) s x y) K := id rfl
@[congr] theorem QrH {T : Nat} {s s' : St} {x x' : Slot} {y y' : Slot} {K : Slot → St → Res} (h0 : s = s') (h1 : x = x') (h2 : y = y') : ap T s x y K = ap T s' x' y' K := by rw [h0, h1, h2]
noncomputable def sto (s : St) (a : Slot) (c : List Slot) (K : St → Res) : Res := bindS (stV s a c) K
@[go_sem] theorem QtI (s : St) (a : Slot) (c : List Slot) (K : St → Res) : sto s a c K = bindS (stV s a c) K := id rfl
@[congr] theorem QrC  {s s' : St} {a a' : Slot} {c c' : List Slot} {K : St → Res} (h0 : s = s') (h1 : a = a') (h2 : c = c') : sto s a c K = sto s' a' c' K := by rw [h0, h1, h2]
noncomputable def upd2 (A : Nat) (B : Nat) (s : St) (a : Slot) (b : Slot) (c : Slot) (K : Slot → St → Res) : Res := bind2 (updateS (C.ti A) (C.ti B) s a b c) K
@[go_sem] theorem Qtr (A : Nat) (B : Nat) (s : St) (a : Slot) (b : Slot) (c : Slot) (K : Slot → St → Res) : upd2 A B s a b c K = bind2 (updateS (C.ti A) (C.ti B) s a b c) K := id rfl
@[congr] theorem Qqy {A : Nat} {B : Nat} {s s' : St} {a a' : Slot} {b b' : Slot} {c c' : Slot} {K : Slot → St → Res} (h0 : s = s') (h1 : a = a') (h2 : b = b') (h3 : c = c') : upd2 A B s a b c K = upd2 A B s' a' b' c' K := by rw [h0, h1, h2, h3]
noncomputable def lk (A : Nat) (B : Nat) (s : St) (a : Slot) (b : Slot) (q : Bool) (K : Slot → Res) : Res := bind1 (lookupS (C.ti A) (C.ti B) s a b q) K
@[go_sem] theorem Que (A : Nat) (B : Nat) (s : St) (a : Slot) (b : Slot) (q : Bool) (K : Slot → Res) : lk A B s a b q K = bind1 (lookupS (C.ti A) (C.ti B) s a b q) K := id rfl
@[congr] theorem QsE {A : Nat} {B : Nat} {q : Bool} {s s' : St} {a a' : Slot} {b b' : Slot} {K : Slot → Res} (h0 : s = s') (h1 : a = a') (h2 : b = b') : lk A B s a b q K = lk A B s' a' b' q K := by rw [h0, h1, h2]
noncomputable def bdL : List (Nat × Nat × Slot) → List (Nat × Nat × Slot)
 | [] => []
 | p :: r => (p.1, (C.ti p.2.1).size, p.2.2) :: bdL r
@[go_sem] theorem Qt8 : bdL [] = [] := id rfl
@[go_sem] theorem QrM (a b : Nat) (v : Slot) (r : List (Nat × Nat × Slot)) : bdL ((a, b, v) :: r) = (a, (C.ti b).size, v) :: bdL r := id rfl
noncomputable def bd (T : Nat) (l : List (Nat × Nat × Slot)) (K : Slot → Res) : Res := bind1 (buildS (C.ti T).zero (bdL l)) K
@[go_sem] theorem QtM (T : Nat) (l : List (Nat × Nat × Slot)) (K : Slot → Res) : bd T l K = bind1 (buildS (C.ti T).zero (bdL l)) K := id rfl
@[congr] theorem QrN {T : Nat} {l l' : List (Nat × Nat × Slot)} {K : Slot → Res} (h0 : l = l') : bd T l K = bd T l' K := by rw [h0]
noncomputable def rt (l : List (Option Slot)) (s : St) : Res := bind1 (tupS l) fun v => some (.ret v, s)
@[go_sem] theorem Quk (l : List (Option Slot)) (s : St) : rt l s = bind1 (tupS l) fun v => some (.ret v, s) := id rfl
@[reducible] def iv (n : Int) : Slot := .val (.int .i64 n)
@[go_sem] theorem Qub (n : Int) : iv n = .val (.int .i64 n) := id rfl
@[reducible] def bv (b : Bool) : Slot := .val (.bool b)
@[go_sem] theorem QtO (b : Bool) : bv b = .val (.bool b) := id rfl
@[reducible] def sv (l : List UInt8) : Slot := .val (.str l)
@[go_sem] theorem Qul (l : List UInt8) : sv l = .val (.str l) := id rfl
noncomputable def nx (x : Slot) (K : Slot → Res) : Res := bind1 (binS (C.ti Q1) .add x (.val (.int .i64 1))) K
@[go_sem] theorem Qug (x : Slot) (K : Slot → Res) : nx x K = bind1 (binS (C.ti Q1) .add x (.val (.int .i64 1))) K := id rfl
@[congr] theorem QsK  {x x' : Slot} {K : Slot → Res} (h0 : x = x') : nx x K = nx x' K := by rw [h0]
@[reducible] noncomputable def lpD (f : FuncId) (p : List Step) (fn : Func) (e : Env) (s : St) : Res := loopR C false f p (body fn) e s (ctxR C false f p (body fn) (outK C fn.results.toList))
@[reducible] noncomputable def pwD (f : FuncId) (p : List Step) (fn : Func) (e : Env) (s : St) : Res := pw (run C false f (codeAt p (body fn)) e s (ctxR C false f p (body fn) (outK C fn.results.toList)))
end Go.Proofs.YtobelgghegmhhaaGreatDoor