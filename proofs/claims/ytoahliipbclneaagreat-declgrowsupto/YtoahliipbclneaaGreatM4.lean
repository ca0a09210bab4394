/- A part of the proof: G1. -/
import Derived.Test.YtoahliipbclneaaGreatM3
import Derived.KernelRfl
import Derived.Test.YtoahliipbclneaaGreatProg
set_option linter.unusedVariables false
set_option linter.unusedSimpArgs false
namespace Go.Proofs.YtoahliipbclneaaGreat
open Go Go.Am
set_option linter.unusedVariables false
def tF : TI := { k := .func, size := 1, bytes := 8, zero := [.nilf] }
def tP : TI := { k := .ptr, size := 1, bytes := 8, zero := [.nilp] }
def tS (e : Nat) : TI := { k := .slice e, size := 1, bytes := 24, zero := [.nils] }
noncomputable def tis : List TI := [{}, tF, { k := .int .i64, size := 1, bytes := 8, zero := [.int .i64 0] }, { k := .int .i64, size := 1, bytes := 8, zero := [.int .i64 0] }, { k := .bool, size := 1, bytes := 1, zero := [.bool false] }, { k := .int .u8, size := 1, bytes := 1, zero := [.int .u8 0] }, { k := .int .u8, size := 1, bytes := 1, zero := [.int .u8 0] }, { k := .struct [(0, 2), (1, 3), (2, 4), (3, 6)], size := 4, bytes := 24, zero := [.int .i64 0, .int .i64 0, .bool false, .int .u8 0] }, { k := .struct [(0, 2), (1, 3), (2, 4), (3, 6)], size := 4, bytes := 24, zero := [.int .i64 0, .int .i64 0, .bool false, .int .u8 0] }, { k := .str, size := 1, bytes := 16, zero := [.str []] }, { k := .str, size := 1, bytes := 16, zero := [.str []] }, { k := .str, size := 1, bytes := 16, zero := [.str []] }, { k := .int .u64, size := 1, bytes := 8, zero := [.int .u64 0] }, { k := .struct [(0, 9), (1, 12)], size := 2, bytes := 24, zero := [.str [], .int .u64 0] }, { k := .struct [(0, 9), (1, 12)], size := 2, bytes := 24, zero := [.str [], .int .u64 0] }, tP, tP, tP, { k := .struct [(0, 17)], size := 1, bytes := 8, zero := [.nilp] }, { k := .struct [(0, 17)], size := 1, bytes := 8, zero := [.nilp] }, { k := .iface, size := 1, bytes := 16, zero := [.nili] }, { k := .int .i32, size := 1, bytes := 4, zero := [.int .i32 0] }, tS 50, tS 50, { k := .int .i64, size := 1, bytes := 8, zero := [.int .i64 0] }, tS 54, tS 84, tS 86, { k := .struct [(0, 24), (1, 3), (2, 9), (3, 3), (4, 25), (5, 26), (6, 27)], size := 7, bytes := 112, zero := [.int .i64 0, .int .i64 0, .str [], .int .i64 0, .nils, .nils, .nils] }, { k := .struct [(0, 24), (1, 3), (2, 9), (3, 3), (4, 25), (5, 26), (6, 27)], size := 7, bytes := 112, zero := [.int .i64 0, .int .i64 0, .str [], .int .i64 0, .nils, .nils, .nils] }, tF, tS 29, tF, tF, { k := .int .i64, size := 1, bytes := 8, zero := [.int .i64 0] }, { k := .struct [(0, 34), (1, 3), (2, 9)], size := 3, bytes := 32, zero := [.int .i64 0, .int .i64 0, .str []] }, { k := .struct [(0, 34), (1, 3), (2, 9)], size := 3, bytes := 32, zero := [.int .i64 0, .int .i64 0, .str []], flat := [.int .i64, .int .i64, .str] }, {}, tF, tF, tF, tF, tF, { k := .int .i64, size := 1, bytes := 8, zero := [.int .i64 0] }, tS 46, { k := .struct [(0, 43), (1, 3), (2, 9), (3, 44)], size := 4, bytes := 56, zero := [.int .i64 0, .int .i64 0, .str [], .nils] }, { k := .struct [(0, 43), (1, 3), (2, 9), (3, 44)], size := 4, bytes := 56, zero := [.int .i64 0, .int .i64 0, .str [], .nils] }, { k := .struct [(0, 3), (1, 46)], size := 5, bytes := 64, zero := [.int .i64 0, .int .i64 0, .int .i64 0, .str [], .nils] }, { k := .struct [(0, 3), (1, 46)], size := 5, bytes := 64, zero := [.int .i64 0, .int .i64 0, .int .i64 0, .str [], .nils] }, { k := .struct [(0, 9), (1, 9), (2, 3), (3, 3), (4, 4), (5, 48)], size := 10, bytes := 120, zero := [.str [], .str [], .int .i64 0, .int .i64 0, .bool false, .int .i64 0, .int .i64 0, .int .i64 0, .str [], .nils] }, { k := .struct [(0, 9), (1, 9), (2, 3), (3, 3), (4, 4), (5, 48)], size := 10, bytes := 120, zero := [.str [], .str [], .int .i64 0, .int .i64 0, .bool false, .int .i64 0, .int .i64 0, .int .i64 0, .str [], .nils] }, {}, tF, { k := .struct [(0, 9), (1, 3), (2, 4), (3, 46)], size := 7, bytes := 88, zero := [.str [], .int .i64 0, .bool false, .int .i64 0, .int .i64 0, .str [], .nils] }, { k := .struct [(0, 9), (1, 3), (2, 4), (3, 46)], size := 7, bytes := 88, zero := [.str [], .int .i64 0, .bool false, .int .i64 0, .int .i64 0, .str [], .nils] }, tF, tF, tF, tF, { k := .map 9 3, size := 1, bytes := 8, zero := [.nilm] }, tF, {}, {}, tF, {}, tF, tF, tF, tF, tF, tF, tF, tS 88, tF, tF, { k := .int .i64, size := 1, bytes := 8, zero := [.int .i64 0] }, tS 78, { k := .struct [(0, 75), (1, 3), (2, 9), (3, 3), (4, 76), (5, 26), (6, 31)], size := 7, bytes := 112, zero := [.int .i64 0, .int .i64 0, .str [], .int .i64 0, .nils, .nils, .nils] }, { k := .struct [(0, 75), (1, 3), (2, 9), (3, 3), (4, 76), (5, 26), (6, 31)], size := 7, bytes := 112, zero := [.int .i64 0, .int .i64 0, .str [], .int .i64 0, .nils, .nils, .nils] }, { k := .int .i64, size := 1, bytes := 8, zero := [.int .i64 0] }, tS 82, { k := .struct [(0, 79), (1, 3), (2, 9), (3, 3), (4, 80)], size := 5, bytes := 64, zero := [.int .i64 0, .int .i64 0, .str [], .int .i64 0, .nils] }, { k := .struct [(0, 79), (1, 3), (2, 9), (3, 3), (4, 80)], size := 5, bytes := 64, zero := [.int .i64 0, .int .i64 0, .str [], .int .i64 0, .nils] }, { k := .struct [(0, 82), (5, 78)], size := 12, bytes := 176, zero := [.int .i64 0, .int .i64 0, .str [], .int .i64 0, .nils, .int .i64 0, .int .i64 0, .str [], .int .i64 0, .nils, .nils, .nils] }, { k := .struct [(0, 82), (5, 78)], size := 12, bytes := 176, zero := [.int .i64 0, .int .i64 0, .str [], .int .i64 0, .nils, .int .i64 0, .int .i64 0, .str [], .int .i64 0, .nils, .nils, .nils] }, { k := .struct [(0, 9), (1, 3), (2, 84)], size := 14, bytes := 200, zero := [.str [], .int .i64 0, .int .i64 0, .int .i64 0, .str [], .int .i64 0, .nils, .int .i64 0, .int .i64 0, .str [], .int .i64 0, .nils, .nils, .nils] }, { k := .struct [(0, 9), (1, 3), (2, 84)], size := 14, bytes := 200, zero := [.str [], .int .i64 0, .int .i64 0, .int .i64 0, .str [], .int .i64 0, .nils, .int .i64 0, .int .i64 0, .str [], .int .i64 0, .nils, .nils, .nils] }, { k := .struct [(0, 3), (1, 4), (2, 3), (3, 29), (10, 78), (17, 82), (22, 46), (26, 86), (40, 54)], size := 47, bytes := 656, zero := [.int .i64 0, .bool false, .int .i64 0, .int .i64 0, .int .i64 0, .str [], .int .i64 0, .nils, .nils, .nils, .int .i64 0, .int .i64 0, .str [], .int .i64 0, .nils, .nils, .nils, .int .i64 0, .int .i64 0, .str [], .int .i64 0, .nils, .int .i64 0, .int .i64 0, .str [], .nils, .str [], .int .i64 0, .int .i64 0, .int .i64 0, .str [], .int .i64 0, .nils, .int .i64 0, .int .i64 0, .str [], .int .i64 0, .nils, .nils, .nils, .str [], .int .i64 0, .bool false, .int .i64 0, .int .i64 0, .str [], .nils] }, { k := .struct [(0, 3), (1, 4), (2, 3), (3, 29), (10, 78), (17, 82), (22, 46), (26, 86), (40, 54)], size := 47, bytes := 656, zero := [.int .i64 0, .bool false, .int .i64 0, .int .i64 0, .int .i64 0, .str [], .int .i64 0, .nils, .nils, .nils, .int .i64 0, .int .i64 0, .str [], .int .i64 0, .nils, .nils, .nils, .int .i64 0, .int .i64 0, .str [], .int .i64 0, .nils, .int .i64 0, .int .i64 0, .str [], .nils, .str [], .int .i64 0, .int .i64 0, .int .i64 0, .str [], .int .i64 0, .nils, .int .i64 0, .int .i64 0, .str [], .int .i64 0, .nils, .nils, .nils, .str [], .int .i64 0, .bool false, .int .i64 0, .int .i64 0, .str [], .nils] }, tF, tF, tF, tF, tF, tF, tF, tF, tF, tF, tF, tF, tF, tF, tF, tF, tF, tF, tF, tS 9, tS 3, tF, tF, tF, tF, tF, tF, tF, tF, tF, tF, tF, tF, tF, tP, tP, tP, tP, tP, tP, { k := .struct [(0, 123), (1, 4), (2, 124), (3, 125), (4, 126), (5, 127), (6, 128), (7, 3)], size := 8, bytes := 64, zero := [.nilp, .bool false, .nilp, .nilp, .nilp, .nilp, .nilp, .int .i64 0] }, { k := .struct [(0, 123), (1, 4), (2, 124), (3, 125), (4, 126), (5, 127), (6, 128), (7, 3)], size := 8, bytes := 64, zero := [.nilp, .bool false, .nilp, .nilp, .nilp, .nilp, .nilp, .int .i64 0] }, tF, tF, { k := .struct [(0, 132)], size := 1, bytes := 8, zero := [.nilf] }, { k := .struct [(0, 132)], size := 1, bytes := 8, zero := [.nilf] }, tF, tF, tF, tF, {}, tF, tF, {}, tF, tF, tF, tF, tF, tF, tF, tF, tF, tF, tF, tF, tF, tF, { k := .struct [(0, 4), (1, 4), (2, 4), (3, 4), (4, 3), (5, 3)], size := 6, bytes := 24, zero := [.bool false, .bool false, .bool false, .bool false, .int .i64 0, .int .i64 0] }, { k := .struct [(0, 4), (1, 4), (2, 4), (3, 4), (4, 3), (5, 3)], size := 6, bytes := 24, zero := [.bool false, .bool false, .bool false, .bool false, .int .i64 0, .int .i64 0] }, {}, tF, tF, tF, tF, tF, { k := .int .u64, size := 1, bytes := 8, zero := [.int .u64 0] }, { k := .int .u32, size := 1, bytes := 4, zero := [.int .u32 0] }, {}, tF, tF, { k := .struct [(0, 17), (1, 17), (2, 17), (3, 9)], size := 4, bytes := 40, zero := [.nilp, .nilp, .nilp, .str []] }, { k := .struct [(0, 17), (1, 17), (2, 17), (3, 9)], size := 4, bytes := 40, zero := [.nilp, .nilp, .nilp, .str []] }, { k := .array 0 16, size := 0, bytes := 0, zero := [] }, { k := .struct [(0, 172)], size := 0, bytes := 0, zero := [] }, { k := .struct [(0, 172)], size := 0, bytes := 0, zero := [] }, { k := .int .u8, size := 1, bytes := 1, zero := [.int .u8 0] }, { k := .int .u8, size := 1, bytes := 1, zero := [.int .u8 0] }, tF, tP, { k := .int .i32, size := 1, bytes := 4, zero := [.int .i32 0] }, { k := .int .i32, size := 1, bytes := 4, zero := [.int .i32 0] }, { k := .struct [(0, 12), (1, 12), (2, 166), (3, 175), (4, 5), (5, 5), (6, 176), (7, 177), (8, 178), (9, 179), (10, 180)], size := 11, bytes := 48, zero := [.int .u64 0, .int .u64 0, .int .u32 0, .int .u8 0, .int .u8 0, .int .u8 0, .int .u8 0, .nilf, .nilp, .int .i32 0, .int .i32 0] }, { k := .struct [(0, 12), (1, 12), (2, 166), (3, 175), (4, 5), (5, 5), (6, 176), (7, 177), (8, 178), (9, 179), (10, 180)], size := 11, bytes := 48, zero := [.int .u64 0, .int .u64 0, .int .u32 0, .int .u8 0, .int .u8 0, .int .u8 0, .int .u8 0, .nilf, .nilp, .int .i32 0, .int .i32 0] }, {}]
noncomputable def modes : List (Nat × Nat × AMode) := [(15, 34, .loc), (15, 83, .loc), (15, 89, .loc), (23, 3, .con), (23, 4, .con), (23, 8, .loc), (24, 3, .con), (40, 1, .con), (60, 4, .loc), (61, 1, .con), (65, 7, .loc), (74, 3, .con), (74, 5, .loc)]
noncomputable def keeps : List (Nat × Nat × List Nat) := [(5, 11, [0, 3, 5, 8]), (6, 3, [0, 3]), (7, 6, [0, 3, 4]), (9, 7, [3, 5, 6, 7, 8, 9, 10, 34, 35, 36]), (9, 26, [3, 5, 6, 7, 8, 9, 10, 13, 16, 17, 18, 90, 91, 92]), (10, 10, [0, 3, 5, 8, 9]), (10, 19, [0, 3, 5, 8, 9, 10, 13, 14, 15]), (10, 33, [0, 3, 5, 8, 9, 10, 13, 14, 16, 17]), (11, 5, [0, 1, 5]), (13, 4, [3, 4, 10, 11, 12]), (14, 4, [0, 3, 4, 5]), (15, 7, [0, 4, 21, 22, 23]), (15, 18, [0, 4, 91, 92, 93]), (16, 3, [1, 4, 8, 9, 10]), (18, 4, [0, 3, 4]), (18, 10, [0, 3, 4, 5, 6]), (20, 4, [3, 9, 10, 11]), (21, 4, [3, 10, 11, 12]), (22, 6, [1, 2, 4, 11, 12]), (26, 4, [0, 3, 4]), (29, 3, [0, 1, 4, 6]), (31, 4, [0, 1, 5, 6]), (32, 4, [1, 2, 5, 6]), (35, 7, [0, 4, 5]), (36, 4, [0, 3, 4]), (37, 4, [0, 3, 4]), (37, 8, [0, 3, 4, 5, 6]), (37, 12, [0, 3, 4, 5, 7]), (37, 16, [0, 3, 4, 5, 8]), (38, 8, [1, 2, 3, 4, 5, 6]), (41, 5, [1, 2, 15, 16, 17]), (43, 4, [1, 2, 10, 11, 12]), (44, 5, [2, 3, 5]), (47, 4, [4, 5, 10, 11, 12]), (48, 12, [3, 45, 46, 47]), (49, 6, [1, 4, 5, 23, 24, 25]), (51, 5, [2, 3, 9, 10, 11]), (52, 4, [1, 2, 3, 4]), (53, 4, [1, 4, 5, 6]), (54, 4, [0, 3, 4]), (56, 4, [2, 5, 6]), (56, 8, [2, 5, 7]), (56, 13, [2, 5, 8]), (57, 4, [1, 3, 4]), (58, 4, [1, 3, 4]), (58, 8, [1, 3, 5]), (59, 4, [1, 3, 4]), (60, 7, [4]), (63, 4, [3, 11, 12, 13]), (63, 8, [3, 5, 6, 11, 12, 13, 21, 22, 23]), (63, 13, [3, 6, 11, 12, 13, 35, 36, 37]), (74, 4, [3, 5]), (77, 3, [1, 2, 3, 14, 15]), (77, 9, [1, 2, 3, 8, 14, 15, 45, 46]), (77, 16, [1, 2, 3, 8, 14, 15, 80, 81]), (78, 4, [3, 6, 7, 8]), (79, 4, [3, 7, 8, 9]), (80, 5, [1, 2, 15, 16, 17]), (86, 5, [0, 5]), (87, 3, [0, 1, 5]), (89, 4, [1, 3, 4]), (90, 4, [1, 3, 4]), (90, 8, [1, 3, 5]), (90, 12, [1, 3, 6]), (98, 3, [1, 2, 7, 8]), (99, 5, [1, 2, 3, 19, 20]), (100, 4, [3, 7, 8, 9]), (101, 4, [3, 14, 15, 16]), (106, 3, [0, 3]), (112, 5, [1, 2, 20, 21]), (113, 5, [1, 2, 29, 30])]
noncomputable def cuts : List (Nat × Nat × List Nat) := [(9, 23, [3, 5, 6, 7, 8, 9, 10, 13]), (9, 38, [3, 5, 6, 7, 8, 9, 10, 13, 16, 17, 18, 20, 21, 22, 90, 91, 92]), (9, 44, [3, 5, 6, 7, 8, 9, 10, 13, 16, 17, 18, 20, 25, 90, 91, 92]), (9, 47, [5, 6, 18]), (10, 8, [0, 3, 5]), (10, 30, [0, 3, 5, 8, 9, 10, 13, 14]), (10, 39, [0, 3, 5, 8, 9, 13, 14]), (15, 12, [0, 4, 6, 7, 21, 22, 23]), (33, 12, [5, 8, 9]), (35, 13, [0, 4, 5, 6, 7]), (75, 17, [1, 2, 3, 4]), (82, 14, [5, 10]), (82, 20, [5, 18]), (85, 7, [4, 5]), (92, 14, [1, 3, 5, 7, 8]), (96, 16, [1, 3, 4, 5, 6]), (97, 18, [1, 3, 4, 5, 56, 61]), (97, 24, [3, 4, 5]), (102, 5, [3])]
noncomputable def rankl : List (Nat × Nat × List Nat) := [(8, 2, [0, 1, 2, 3, 4, 7, 5, 6, 8]), (9, 18, [1, 2, 3, 4, 5, 0, 6]), (9, 47, [1, 0, 2]), (10, 6, [1, 2, 3, 4, 5, 0, 6]), (10, 14, [1, 2, 3, 4, 5, 0, 6]), (10, 28, [1, 2, 3, 4, 5, 0, 6]), (10, 34, [0, 1, 2, 3, 4, 5, 6, 7, 8, 9, 11, 10, 12]), (10, 36, [1, 2, 3, 4, 5, 0, 6]), (13, 7, [1, 0, 2]), (14, 7, [1, 0, 2]), (22, 9, [0, 1, 2, 3, 5, 6, 4, 7]), (33, 12, [1, 2, 0, 3]), (33, 14, [1, 2, 0, 3]), (48, 7, [1, 2, 0, 3]), (48, 9, [1, 2, 0, 3]), (55, 3, [0, 1, 2, 3, 4, 6, 7, 8, 5, 9]), (55, 5, [0, 1, 2, 4, 5, 6, 3, 7]), (55, 7, [0, 1, 2, 4, 5, 6, 3, 7]), (55, 9, [0, 1, 2, 4, 5, 6, 3, 7]), (55, 12, [1, 2, 3, 0, 4]), (55, 17, [1, 2, 3, 0, 4]), (66, 1, [0, 1, 2, 4, 5, 6, 8, 9, 10, 12, 13, 14, 3, 7, 11, 15]), (75, 3, [0, 1, 2, 3, 4, 6, 7, 8, 9, 10, 5, 11]), (75, 5, [0, 1, 3, 4, 5, 6, 7, 2, 8]), (75, 11, [0, 1, 2, 3, 4, 6, 7, 8, 9, 10, 5, 11]), (75, 13, [0, 1, 2, 3, 4, 6, 7, 8, 9, 10, 5, 11]), (75, 15, [0, 1, 2, 3, 4, 6, 7, 8, 9, 10, 5, 11]), (92, 2, [0, 1, 2, 3, 4, 5, 6, 7, 8, 9, 10, 23, 11, 12, 13, 14, 15, 16, 25, 26, 27, 28, 29, 30, 17, 18, 19, 20, 21, 32, 22, 24, 31, 33])]
noncomputable def drawl : List (Nat × Nat × Bool × List (Option Nat)) := [(5, 14, false, [none, none, none, none, none, none, none, some 9, none, some 3, none, none, none, none, none, none, none, some 9, none, none, none, none, none, none, none, none, none, none]), (8, 2, false, [none, some 1, none, none, none, none, none, none, some 3]), (9, 4, false, [none, some 3, none, none, none]), (9, 18, false, [none, some 3, none, some 3, none, none, some 5]), (9, 47, false, [some 18, none, some 5]), (10, 6, false, [none, some 3, none, some 3, none, none, some 5]), (10, 14, false, [none, some 10, none, some 10, none, none, some 5]), (10, 28, false, [none, some 10, none, some 10, none, none, some 5]), (10, 34, false, [none, some 3, none, none, none, none, none, none, none, none, none, none, none]), (10, 36, false, [none, none, some 10, none, none, none, some 5]), (11, 6, false, [none, none, none, none, none, none, none, none, none, none]), (13, 7, false, [some 8, none, some 3]), (14, 7, false, [some 7, none, some 3]), (15, 8, false, [none, some 6, none, none, some 6, some 6, none, none, none, none, some 7]), (15, 12, false, [none, some 7, none, none, none, none, none, none, none, none, none, none, none, none, none, none, none, none, none, none, none, none, none, none, some 6, none, none]), (15, 13, false, [none, none, none, none, none, none, none, none, none, some 6, none, none, none, none, none, none]), (18, 7, false, [none, none, none, none, none, none, none, none, none, none, none, none, none, some 5]), (18, 11, false, [none, some 5, none, none, none, none, none, none, none, none, some 5]), (22, 9, false, [none, some 1, none, none, none, some 1, some 2, none]), (33, 12, false, [none, some 5, none, none]), (33, 14, false, [none, some 5, none, none]), (37, 9, true, [none, none, none, none, none, none, none, none, none, none, none, none, none, none, none, none, none, none, none, none, none, none, none]), (37, 13, true, [none, none, none, none, none, none, none, none, none, none, none, none, none, none, none, none, none, none, none, none, none, none, none, none, none]), (38, 9, true, [none, none, none, none, none, none, none, none, none, none, none, none, none, none, none, none, none, none, none, none, none, none, none, none, none, none, none]), (43, 5, false, [none, some 1, none, some 4, none, none, none]), (44, 6, false, [none, some 2, none, none, none, none, some 3, none, none, none, none, none]), (47, 5, false, [none, some 5, some 7, none, none, none, none, some 5]), (48, 7, false, [none, some 4, none, none]), (48, 9, false, [none, some 4, none, none]), (49, 7, false, [none, some 5, some 7, none, none, none, none, none, some 5]), (51, 6, false, [none, some 3, some 5, none, none, none, none, some 3]), (52, 5, false, [none, some 3, none, some 1, none, none, none, none, none, none, none, some 3]), (53, 5, false, [none, some 5, none, none, none, none, none, none, none, none, some 5]), (55, 3, false, [none, some 1, none, some 1, none, none, none, some 1, none, none]), (55, 5, false, [none, some 1, none, none, none, some 1, none, none]), (55, 7, false, [none, some 1, none, none, none, some 1, none, none]), (55, 9, false, [none, some 1, none, none, none, some 1, none, none]), (55, 12, false, [none, none, some 1, none, none]), (55, 17, false, [none, none, some 1, none, none]), (56, 9, false, [none, none, some 2, none, none, none, none, some 2, none, none, none, none, none, none, none, none]), (58, 9, true, [none, none, some 1, none, none, none, none, none, none, some 1, none, none, none, none, none, none, none]), (66, 1, false, [none, some 2, none, none, some 2, none, none, some 2, none, none, some 2, none, none, none, none, none]), (73, 1, false, [none, some 1, none, none, some 1, none, none, none]), (75, 3, true, [none, some 1, none, none, none, none, some 1, none, none, none, none, none]), (75, 5, true, [some 1, none, none, some 1, none, none, none, none, none]), (75, 11, true, [none, some 1, none, none, none, none, some 1, none, none, none, none, none]), (75, 13, true, [none, some 1, none, none, none, none, some 1, none, none, none, none, none]), (75, 15, true, [none, some 1, none, none, none, none, some 1, none, none, none, none, none]), (77, 5, false, [none, some 3, none, none, none, none, none, none, none, none, none, none, some 3, none, none, none, none, none, none, none]), (77, 11, false, [none, some 3, none, none, none, none, none, none, none, none, none, some 3, none, none, none, none, none, none, none, none]), (77, 18, false, [none, some 3, none, none, none, none, none, none, none, none, none, none, none, none, none, none, some 3, none, none, none, none, none, none, none, none, none, none, none]), (78, 5, false, [none, none, some 5, none, none, some 5, none, none, none]), (92, 2, false, [none, none, none, none, none, none, none, none, none, none, none, none, none, none, none, none, none, none, none, none, none, none, none, none, none, none, none, none, none, none, none, none, none, none]), (98, 4, false, [some 2, none, none, none, none, none, none, none, some 2, none, none, none, none, none, none, none]), (99, 6, false, [some 3, none, none, none, none, none, none, none, none, none]), (101, 1, false, [none, some 1, none, none, some 1, none, none, none]), (112, 1, false, [none, some 2, none, none, none, none, none, none, none, none]), (112, 6, false, [some 2, none, none, none, none, none, none, none, none]), (113, 1, false, [none, some 2, none, none, none, none, none, none, none, none, none, some 2, none, none, none, none, none, none, none]), (113, 6, false, [some 2, none, none, none, none, none, none, none, none]), (113, 9, false, [some 2, none, none, none, none, none, none])]
noncomputable def frzs : List (Nat × Nat × List Nat) := [(15, 16, [4]), (43, 7, [1])]
noncomputable def codes : List (Nat × Func) := [(3, Tryz.f3), (4, Tryz.f4), (5, Tryz.f5), (6, Tryz.f6), (7, Tryz.f7), (8, Tryz.f8), (9, Tryz.f9), (10, Tryz.f10), (11, Tryz.f11), (12, Tryz.f12), (13, Tryz.f13), (14, Tryz.f14), (15, Tryz.f15), (16, Tryz.f16), (17, Tryz.f17), (18, Tryz.f18), (19, Tryz.f19), (20, Tryz.f20), (21, Tryz.f21), (22, Tryz.f22), (23, Tryz.f23), (24, Tryz.f24), (25, Tryz.f25), (26, Tryz.f26), (27, Tryz.f27), (28, Tryz.f28), (29, Tryz.f29), (30, Tryz.f30), (31, Tryz.f31), (32, Tryz.f32), (33, Tryz.f33), (34, Tryz.f34), (35, Tryz.f35), (36, Tryz.f36), (37, Tryz.f37), (38, Tryz.f38), (39, Tryz.f39), (40, Tryz.f40), (41, Tryz.f41), (42, Tryz.f42), (43, Tryz.f43), (44, Tryz.f44), (45, Tryz.f45), (46, Tryz.f46), (47, Tryz.f47), (48, Tryz.f48), (49, Tryz.f49), (50, Tryz.f50), (51, Tryz.f51), (52, Tryz.f52), (53, Tryz.f53), (54, Tryz.f54), (55, Tryz.f55), (56, Tryz.f56), (57, Tryz.f57), (58, Tryz.f58), (59, Tryz.f59), (60, Tryz.f60), (61, Tryz.f61), (62, Tryz.f62), (63, Tryz.f63), (64, Tryz.f64), (65, Tryz.f65), (66, Tryz.f66), (67, Tryz.f67), (68, Tryz.f68), (69, Tryz.f69), (70, Tryz.f70), (71, Tryz.f71), (72, Tryz.f72), (73, Tryz.f73), (74, Tryz.f74), (75, Tryz.f75), (76, Tryz.f76), (77, Tryz.f77), (78, Tryz.f78), (79, Tryz.f79), (80, Tryz.f80), (81, Tryz.f81), (82, Tryz.f82), (83, Tryz.f83), (84, Tryz.f84), (85, Tryz.f85), (86, Tryz.f86), (87, Tryz.f87), (88, Tryz.f88), (89, Tryz.f89), (90, Tryz.f90), (91, Tryz.f91), (92, Tryz.f92), (93, Tryz.f93), (94, Tryz.f94), (95, Tryz.f95), (96, Tryz.f96), (97, Tryz.f97), (98, Tryz.f98), (99, Tryz.f99), (100, Tryz.f100), (101, Tryz.f101), (102, Tryz.f102), (103, Tryz.f103), (104, Tryz.f104), (105, Tryz.f105), (106, Tryz.f106), (108, Tryz.f108), (109, Tryz.f109), (110, Tryz.f110), (111, Tryz.f111), (112, Tryz.f112), (113, Tryz.f113), (114, Tryz.f114)]
noncomputable def exts : List (Nat × (List AV → Option AV)) := [(107, extContains)]
noncomputable def C : Cfg where
 ti t := tis.getD t {}
 mode f d := findMode f d modes
 keep f r := findKeep f r keeps
 cut f r := findCut f r cuts
 draws f r := findDraw f r drawl
 ranks f r := findKeep f r rankl
 frz f r := findKeep f r frzs
 glob _ := none
 ints := [0]
 ext f := findExt f exts
 code f := findCode f codes
 quiet f n := Nat.beq f 39 && Nat.beq n 1
noncomputable abbrev cw : CallFn := callw C
def Q9v : List UInt8 := [32, 97, 110, 100, 32, 97, 110, 100, 97, 108, 115, 111, 32, 97, 115, 32, 99, 97, 115, 101, 32, 100, 97, 116, 97, 116, 121, 112, 101, 32, 100, 105, 118, 32, 101, 108, 115, 101, 32, 101, 110, 100, 32, 101, 120, 99, 101, 112, 116, 105, 111, 110, 32, 102, 110, 32, 102, 117, 110, 32, 104, 97, 110, 100, 108, 101, 32, 105, 102, 32, 105, 110, 32, 108, 101, 116, 32, 109, 111, 100, 32, 111, 102, 32, 111, 114, 101, 108, 115, 101, 32, 112, 114, 105, 110, 116, 32, 114, 97, 105, 115, 101, 32, 114, 101, 97, 100, 32, 114, 101, 102, 32, 116, 104, 101, 110, 32, 118, 97, 108, 32, 116, 114, 117, 101, 32, 102, 97, 108, 115, 101, 32, 95, 32]
abbrev T_0 : Nat := 0
abbrev Q1 : Nat := 3
abbrev Qh : Nat := 4
abbrev QB : Nat := 5
abbrev Q2 : Nat := 9
abbrev Q0V : Nat := 22
abbrev Qz : Nat := 23
abbrev Qe : Nat := 24
abbrev Qj : Nat := 25
abbrev Qg : Nat := 26
abbrev QE : Nat := 27
abbrev Qc : Nat := 29
abbrev Qo : Nat := 31
abbrev Qq : Nat := 34
abbrev Q7 : Nat := 36
abbrev Qk : Nat := 43
abbrev Qd : Nat := 44
abbrev Q4 : Nat := 46
abbrev Q0m : Nat := 48
abbrev Q6 : Nat := 50
abbrev Qi : Nat := 54
abbrev QQ : Nat := 59
abbrev Zj : Nat := 72
abbrev Q3 : Nat := 75
abbrev Qr : Nat := 76
abbrev QL : Nat := 78
abbrev Qn : Nat := 79
abbrev Qs : Nat := 80
abbrev QM : Nat := 82
abbrev QI : Nat := 84
abbrev ZD : Nat := 86
abbrev Qa : Nat := 88
abbrev Ql : Nat := 98
abbrev Q1G : Nat := 108
abbrev Q1h : Nat := 123
abbrev Q0D : Nat := 124
abbrev Q01 : Nat := 125
abbrev Q1i : Nat := 126
abbrev Q1j : Nat := 127
abbrev Q3q : Nat := 128
abbrev QJ : Nat := 130
abbrev Qm : Nat := 132
abbrev Qt : Nat := 134
abbrev Q0 : Nat := 158
abbrev QhI : Nat := 3
abbrev QiY : Nat := 4
abbrev Q0r : Nat := 5
abbrev Q28 : Nat := 6
abbrev QjU : Nat := 7
abbrev Q16 : Nat := 8
abbrev Z1 : Nat := 9
abbrev QlB : Nat := 10
abbrev Q2u : Nat := 11
abbrev Q3H : Nat := 12
abbrev Q55 : Nat := 13
abbrev Qmv : Nat := 14
abbrev Zm : Nat := 15
abbrev Q1g : Nat := 16
abbrev Q0s : Nat := 17
abbrev Qkj : Nat := 18
abbrev Q1u : Nat := 19
abbrev Q27 : Nat := 20
abbrev Q2r : Nat := 21
abbrev Q1T : Nat := 22
abbrev Q4r : Nat := 23
abbrev Q8W : Nat := 24
abbrev QaY : Nat := 25
abbrev Qj0 : Nat := 26
abbrev QhJ : Nat := 27
abbrev QjW : Nat := 28
abbrev Qkk : Nat := 29
abbrev QjX : Nat := 30
abbrev Qki : Nat := 31
abbrev Q0x : Nat := 32
abbrev QjY : Nat := 33
abbrev Qmt : Nat := 34
abbrev Q17 : Nat := 35
abbrev Q4d : Nat := 36
abbrev Z8 : Nat := 37
abbrev QjV : Nat := 38
abbrev Q0Y : Nat := 39
abbrev Q4t : Nat := 40
abbrev Qv : Nat := 41
abbrev Q1U : Nat := 42
abbrev Q0u : Nat := 43
abbrev Q0y : Nat := 44
abbrev QlC : Nat := 45
abbrev Zn : Nat := 46
abbrev Q3c : Nat := 47
abbrev Q0v : Nat := 48
abbrev Q1V : Nat := 49
abbrev Q66 : Nat := 50
abbrev Q3d : Nat := 51
abbrev QiZ : Nat := 52
abbrev Qmu : Nat := 53
abbrev Q2a : Nat := 54
abbrev Q3J : Nat := 55
abbrev Zx : Nat := 56
abbrev QV : Nat := 57
abbrev QU : Nat := 58
abbrev ZL : Nat := 59
abbrev Q2y : Nat := 60
abbrev Q3b : Nat := 61
abbrev Q3a : Nat := 62
abbrev QW : Nat := 63
abbrev Q2j : Nat := 64
abbrev Z5 : Nat := 65
abbrev Q5t : Nat := 66
abbrev Q5u : Nat := 67
abbrev Q5v : Nat := 68
abbrev Q65 : Nat := 69
abbrev Q0l : Nat := 70
abbrev Q39 : Nat := 71
abbrev Q1s : Nat := 72
abbrev Q0w : Nat := 73
abbrev Q2v : Nat := 74
abbrev Q09 : Nat := 75
abbrev Q2f : Nat := 76
abbrev QP : Nat := 77
abbrev Z3 : Nat := 78
abbrev Q00 : Nat := 79
abbrev QK : Nat := 80
abbrev Q07 : Nat := 81
abbrev Q0z : Nat := 82
abbrev Q3l : Nat := 83
abbrev Q2b : Nat := 84
abbrev Q2t : Nat := 85
abbrev Q0A : Nat := 86
abbrev Q29 : Nat := 87
abbrev Q3I : Nat := 88
abbrev ZZ : Nat := 89
abbrev Zy : Nat := 90
abbrev Q1Q : Nat := 91
abbrev Zs : Nat := 92
abbrev Q0Z : Nat := 93
abbrev Q2B : Nat := 94
abbrev Q2C : Nat := 95
abbrev Q1t : Nat := 96
abbrev Q0C : Nat := 97
abbrev QY : Nat := 98
abbrev QZ : Nat := 99
abbrev ZM : Nat := 100
abbrev Q0B : Nat := 101
abbrev Q2s : Nat := 102
abbrev Q38 : Nat := 103
abbrev Q4s : Nat := 104
abbrev Q2A : Nat := 105
abbrev Q2z : Nat := 106
abbrev Q1v : Nat := 107
abbrev Q1F : Nat := 108
abbrev Q6C : Nat := 109
abbrev Q08 : Nat := 110
abbrev Q2x : Nat := 111
abbrev Z6 : Nat := 112
abbrev Zo : Nat := 113
abbrev Q2w : Nat := 114
@[go_sem] theorem QfK : (C.ti Q1).size = 1 := by kernel_rfl
@[go_sem] theorem Q02 : (C.ti Q1).k = .int .i64 := by kernel_rfl
@[go_sem] theorem QgC : (C.ti Q1).isAgg = false := by kernel_rfl
@[go_sem] theorem QfJ : (C.ti Q1).isGood = true := by kernel_rfl
@[go_sem] theorem QfL : (C.ti Q1).zero = [.int .i64 0] := by kernel_rfl
@[go_sem] theorem Qm0 : (C.ti Qh).size = 1 := by kernel_rfl
@[go_sem] theorem Qdf : (C.ti Qh).k = .bool := by kernel_rfl
@[go_sem] theorem QmQ : (C.ti Qh).isAgg = false := by kernel_rfl
@[go_sem] theorem QlZ : (C.ti Qh).isGood = true := by kernel_rfl
@[go_sem] theorem Qm1 : (C.ti Qh).zero = [.bool false] := by kernel_rfl
@[go_sem] theorem Ql5 : (C.ti QB).size = 1 := by kernel_rfl
@[go_sem] theorem Qp3 : (C.ti QB).k = .int .u8 := by kernel_rfl
@[go_sem] theorem Qm3 : (C.ti QB).isAgg = false := by kernel_rfl
@[go_sem] theorem Ql4 : (C.ti QB).isGood = true := by kernel_rfl
@[go_sem] theorem Ql6 : (C.ti QB).zero = [.int .u8 0] := by kernel_rfl
@[go_sem] theorem Qkd : (C.ti Q2).size = 1 := by kernel_rfl
@[go_sem] theorem Qw : (C.ti Q2).k = .str := by kernel_rfl
@[go_sem] theorem Ql0 : (C.ti Q2).isAgg = false := by kernel_rfl
@[go_sem] theorem Qkc : (C.ti Q2).isGood = true := by kernel_rfl
@[go_sem] theorem Qke : (C.ti Q2).zero = [.str []] := by kernel_rfl
@[go_sem] theorem Qje : (C.ti Q0V).size = 1 := by kernel_rfl
@[go_sem] theorem QlU : (C.ti Q0V).k = .slice 50 := by kernel_rfl
@[go_sem] theorem Qk5 : (C.ti Q0V).isAgg = false := by kernel_rfl
@[go_sem] theorem Qjd : (C.ti Q0V).isGood = true := by kernel_rfl
@[go_sem] theorem Qjf : (C.ti Q0V).zero = [.nils] := by kernel_rfl
@[go_sem] theorem QkX : (C.ti Qz).size = 1 := by kernel_rfl
@[go_sem] theorem Q73 : (C.ti Qz).k = .slice 50 := by kernel_rfl
@[go_sem] theorem QlY : (C.ti Qz).isAgg = false := by kernel_rfl
@[go_sem] theorem QkW : (C.ti Qz).isGood = true := by kernel_rfl
@[go_sem] theorem QkY : (C.ti Qz).zero = [.nils] := by kernel_rfl
@[go_sem] theorem Qj4 : (C.ti Qe).size = 1 := by kernel_rfl
@[go_sem] theorem Qev : (C.ti Qe).k = .int .i64 := by kernel_rfl
@[go_sem] theorem QjZ : (C.ti Qe).isAgg = false := by kernel_rfl
@[go_sem] theorem Qj3 : (C.ti Qe).isGood = true := by kernel_rfl
@[go_sem] theorem Qj5 : (C.ti Qe).zero = [.int .i64 0] := by kernel_rfl
@[go_sem] theorem QkG : (C.ti Qj).size = 1 := by kernel_rfl
@[go_sem] theorem Qgw : (C.ti Qj).k = .slice 54 := by kernel_rfl
@[go_sem] theorem QlP : (C.ti Qj).isAgg = false := by kernel_rfl
@[go_sem] theorem QkF : (C.ti Qj).isGood = true := by kernel_rfl
@[go_sem] theorem QkH : (C.ti Qj).zero = [.nils] := by kernel_rfl
@[go_sem] theorem Qk3 : (C.ti Qg).size = 1 := by kernel_rfl
@[go_sem] theorem Q9x : (C.ti Qg).k = .slice 84 := by kernel_rfl
@[go_sem] theorem QkE : (C.ti Qg).isAgg = false := by kernel_rfl
@[go_sem] theorem Qk2 : (C.ti Qg).isGood = true := by kernel_rfl
@[go_sem] theorem Qk4 : (C.ti Qg).zero = [.nils] := by kernel_rfl
@[go_sem] theorem QkP : (C.ti QE).size = 1 := by kernel_rfl
@[go_sem] theorem Qgy : (C.ti QE).k = .slice 86 := by kernel_rfl
@[go_sem] theorem QlS : (C.ti QE).isAgg = false := by kernel_rfl
@[go_sem] theorem QkO : (C.ti QE).isGood = true := by kernel_rfl
@[go_sem] theorem QkQ : (C.ti QE).zero = [.nils] := by kernel_rfl
@[go_sem] theorem ZC : (C.ti Qc).size = 7 := by kernel_rfl
@[go_sem] theorem Qfa : (C.ti Qc).k = .struct [(0, 24), (1, 3), (2, 9), (3, 3), (4, 25), (5, 26), (6, 27)] := by kernel_rfl
@[go_sem] theorem QbI : (C.ti Qc).isAgg = true := by kernel_rfl
@[go_sem] theorem QmC : (C.ti Qc).isGood = true := by kernel_rfl
@[go_sem] theorem Q8d : (C.ti Qc).bytes = 112 := by kernel_rfl
@[go_sem] theorem QmD : (C.ti Qc).zero = [.int .i64 0, .int .i64 0, .str [], .int .i64 0, .nils, .nils, .nils] := by kernel_rfl
@[go_sem] theorem QkJ : (C.ti Qo).size = 1 := by kernel_rfl
@[go_sem] theorem QbJ : (C.ti Qo).k = .slice 29 := by kernel_rfl
@[go_sem] theorem QlQ : (C.ti Qo).isAgg = false := by kernel_rfl
@[go_sem] theorem QkI : (C.ti Qo).isGood = true := by kernel_rfl
@[go_sem] theorem QkK : (C.ti Qo).zero = [.nils] := by kernel_rfl
@[go_sem] theorem Qkm : (C.ti Qq).size = 1 := by kernel_rfl
@[go_sem] theorem QoT : (C.ti Qq).k = .int .i64 := by kernel_rfl
@[go_sem] theorem QlG : (C.ti Qq).isAgg = false := by kernel_rfl
@[go_sem] theorem Qkl : (C.ti Qq).isGood = true := by kernel_rfl
@[go_sem] theorem Qkn : (C.ti Qq).zero = [.int .i64 0] := by kernel_rfl
@[go_sem] theorem Qmy : (C.ti Q7).size = 3 := by kernel_rfl
@[go_sem] theorem Qj1 : (C.ti Q7).k = .struct [(0, 34), (1, 3), (2, 9)] := by kernel_rfl
@[go_sem] theorem QoS : (C.ti Q7).isAgg = true := by kernel_rfl
@[go_sem] theorem Qmx : (C.ti Q7).isGood = true := by kernel_rfl
@[go_sem] theorem Qmz : (C.ti Q7).zero = [.int .i64 0, .int .i64 0, .str []] := by kernel_rfl
@[go_sem] theorem QfH : (C.ti Q7).flat = [.int .i64, .int .i64, .str] := by kernel_rfl
@[go_sem] theorem Qka : (C.ti Qk).size = 1 := by kernel_rfl
@[go_sem] theorem QfI : (C.ti Qk).k = .int .i64 := by kernel_rfl
@[go_sem] theorem QkZ : (C.ti Qk).isAgg = false := by kernel_rfl
@[go_sem] theorem Qk9 : (C.ti Qk).isGood = true := by kernel_rfl
@[go_sem] theorem Qkb : (C.ti Qk).zero = [.int .i64 0] := by kernel_rfl
@[go_sem] theorem QlW : (C.ti Qd).size = 1 := by kernel_rfl
@[go_sem] theorem Q68 : (C.ti Qd).k = .slice 46 := by kernel_rfl
@[go_sem] theorem QmO : (C.ti Qd).isAgg = false := by kernel_rfl
@[go_sem] theorem QlV : (C.ti Qd).isGood = true := by kernel_rfl
@[go_sem] theorem QlX : (C.ti Qd).zero = [.nils] := by kernel_rfl
@[go_sem] theorem Zp : (C.ti Q4).size = 4 := by kernel_rfl
@[go_sem] theorem QgB : (C.ti Q4).k = .struct [(0, 43), (1, 3), (2, 9), (3, 44)] := by kernel_rfl
@[go_sem] theorem Qde : (C.ti Q4).isAgg = true := by kernel_rfl
@[go_sem] theorem QoZ : (C.ti Q4).isGood = true := by kernel_rfl
@[go_sem] theorem Q9y : (C.ti Q4).bytes = 56 := by kernel_rfl
@[go_sem] theorem Qp0 : (C.ti Q4).zero = [.int .i64 0, .int .i64 0, .str [], .nils] := by kernel_rfl
@[go_sem] theorem Qk7 : (C.ti Q0m).size = 5 := by kernel_rfl
@[go_sem] theorem QmP : (C.ti Q0m).k = .struct [(0, 3), (1, 46)] := by kernel_rfl
@[go_sem] theorem QkV : (C.ti Q0m).isAgg = true := by kernel_rfl
@[go_sem] theorem Qk6 : (C.ti Q0m).isGood = true := by kernel_rfl
@[go_sem] theorem Qk8 : (C.ti Q0m).zero = [.int .i64 0, .int .i64 0, .int .i64 0, .str [], .nils] := by kernel_rfl
@[go_sem] theorem Q2D : (C.ti Q6).size = 10 := by kernel_rfl
@[go_sem] theorem Qgv : (C.ti Q6).k = .struct [(0, 9), (1, 9), (2, 3), (3, 3), (4, 4), (5, 48)] := by kernel_rfl
@[go_sem] theorem Q8e : (C.ti Q6).isAgg = true := by kernel_rfl
@[go_sem] theorem QkD : (C.ti Q6).isGood = true := by kernel_rfl
@[go_sem] theorem Q6D : (C.ti Q6).bytes = 120 := by kernel_rfl
@[go_sem] theorem Qdd : (C.ti Q6).zero = [.str [], .str [], .int .i64 0, .int .i64 0, .bool false, .int .i64 0, .int .i64 0, .int .i64 0, .str [], .nils] := by kernel_rfl
@[go_sem] theorem Zl : (C.ti Qi).size = 7 := by kernel_rfl
@[go_sem] theorem Qj2 : (C.ti Qi).k = .struct [(0, 9), (1, 3), (2, 4), (3, 46)] := by kernel_rfl
@[go_sem] theorem QbH : (C.ti Qi).isAgg = true := by kernel_rfl
@[go_sem] theorem QmA : (C.ti Qi).isGood = true := by kernel_rfl
@[go_sem] theorem Q8c : (C.ti Qi).bytes = 88 := by kernel_rfl
@[go_sem] theorem QmB : (C.ti Qi).zero = [.str [], .int .i64 0, .bool false, .int .i64 0, .int .i64 0, .str [], .nils] := by kernel_rfl
@[go_sem] theorem Qet : (C.ti QQ).size = 1 := by kernel_rfl
@[go_sem] theorem QfM : (C.ti QQ).k = .map 9 3 := by kernel_rfl
@[go_sem] theorem Qey : (C.ti QQ).isAgg = false := by kernel_rfl
@[go_sem] theorem Qes : (C.ti QQ).isGood = true := by kernel_rfl
@[go_sem] theorem Qeu : (C.ti QQ).zero = [.nilm] := by kernel_rfl
@[go_sem] theorem Qgq : (C.ti Zj).size = 1 := by kernel_rfl
@[go_sem] theorem QhL : (C.ti Zj).k = .slice 88 := by kernel_rfl
@[go_sem] theorem QgA : (C.ti Zj).isAgg = false := by kernel_rfl
@[go_sem] theorem Qgp : (C.ti Zj).isGood = true := by kernel_rfl
@[go_sem] theorem Qgr : (C.ti Zj).zero = [.nils] := by kernel_rfl
@[go_sem] theorem Qj7 : (C.ti Q3).size = 1 := by kernel_rfl
@[go_sem] theorem Qew : (C.ti Q3).k = .int .i64 := by kernel_rfl
@[go_sem] theorem Qk0 : (C.ti Q3).isAgg = false := by kernel_rfl
@[go_sem] theorem Qj6 : (C.ti Q3).isGood = true := by kernel_rfl
@[go_sem] theorem Qj8 : (C.ti Q3).zero = [.int .i64 0] := by kernel_rfl
@[go_sem] theorem QkM : (C.ti Qr).size = 1 := by kernel_rfl
@[go_sem] theorem Qgx : (C.ti Qr).k = .slice 78 := by kernel_rfl
@[go_sem] theorem QlR : (C.ti Qr).isAgg = false := by kernel_rfl
@[go_sem] theorem QkL : (C.ti Qr).isGood = true := by kernel_rfl
@[go_sem] theorem QkN : (C.ti Qr).zero = [.nils] := by kernel_rfl
@[go_sem] theorem QmF : (C.ti QL).size = 7 := by kernel_rfl
@[go_sem] theorem Qfb : (C.ti QL).k = .struct [(0, 75), (1, 3), (2, 9), (3, 3), (4, 76), (5, 26), (6, 31)] := by kernel_rfl
@[go_sem] theorem Qgs : (C.ti QL).isAgg = true := by kernel_rfl
@[go_sem] theorem QmE : (C.ti QL).isGood = true := by kernel_rfl
@[go_sem] theorem QmG : (C.ti QL).zero = [.int .i64 0, .int .i64 0, .str [], .int .i64 0, .nils, .nils, .nils] := by kernel_rfl
@[go_sem] theorem Qjb : (C.ti Qn).size = 1 := by kernel_rfl
@[go_sem] theorem Qex : (C.ti Qn).k = .int .i64 := by kernel_rfl
@[go_sem] theorem Qk1 : (C.ti Qn).isAgg = false := by kernel_rfl
@[go_sem] theorem Qja : (C.ti Qn).isGood = true := by kernel_rfl
@[go_sem] theorem Qjc : (C.ti Qn).zero = [.int .i64 0] := by kernel_rfl
@[go_sem] theorem QkS : (C.ti Qs).size = 1 := by kernel_rfl
@[go_sem] theorem Qgz : (C.ti Qs).k = .slice 82 := by kernel_rfl
@[go_sem] theorem QlT : (C.ti Qs).isAgg = false := by kernel_rfl
@[go_sem] theorem QkR : (C.ti Qs).isGood = true := by kernel_rfl
@[go_sem] theorem QkT : (C.ti Qs).zero = [.nils] := by kernel_rfl
@[go_sem] theorem QmM : (C.ti QM).size = 5 := by kernel_rfl
@[go_sem] theorem Qfc : (C.ti QM).k = .struct [(0, 79), (1, 3), (2, 9), (3, 3), (4, 80)] := by kernel_rfl
@[go_sem] theorem Qgu : (C.ti QM).isAgg = true := by kernel_rfl
@[go_sem] theorem QmL : (C.ti QM).isGood = true := by kernel_rfl
@[go_sem] theorem QmN : (C.ti QM).zero = [.int .i64 0, .int .i64 0, .str [], .int .i64 0, .nils] := by kernel_rfl
@[go_sem] theorem QlE : (C.ti QI).size = 12 := by kernel_rfl
@[go_sem] theorem QhK : (C.ti QI).k = .struct [(0, 82), (5, 78)] := by kernel_rfl
@[go_sem] theorem Q9w : (C.ti QI).isAgg = true := by kernel_rfl
@[go_sem] theorem QlD : (C.ti QI).isGood = true := by kernel_rfl
@[go_sem] theorem QlF : (C.ti QI).zero = [.int .i64 0, .int .i64 0, .str [], .int .i64 0, .nils, .int .i64 0, .int .i64 0, .str [], .int .i64 0, .nils, .nils, .nils] := by kernel_rfl
@[go_sem] theorem QmI : (C.ti ZD).size = 14 := by kernel_rfl
@[go_sem] theorem Qj9 : (C.ti ZD).k = .struct [(0, 9), (1, 3), (2, 84)] := by kernel_rfl
@[go_sem] theorem Qgt : (C.ti ZD).isAgg = true := by kernel_rfl
@[go_sem] theorem QmH : (C.ti ZD).isGood = true := by kernel_rfl
@[go_sem] theorem QmJ : (C.ti ZD).zero = [.str [], .int .i64 0, .int .i64 0, .int .i64 0, .str [], .int .i64 0, .nils, .int .i64 0, .int .i64 0, .str [], .int .i64 0, .nils, .nils, .nils] := by kernel_rfl
@[go_sem] theorem Q3P : (C.ti Qa).size = 47 := by kernel_rfl
@[go_sem] theorem Qjh : (C.ti Qa).k = .struct [(0, 3), (1, 4), (2, 3), (3, 29), (10, 78), (17, 82), (22, 46), (26, 86), (40, 54)] := by kernel_rfl
@[go_sem] theorem QhM : (C.ti Qa).isAgg = true := by kernel_rfl
@[go_sem] theorem QhG : (C.ti Qa).isGood = true := by kernel_rfl
@[go_sem] theorem Q74 : (C.ti Qa).bytes = 656 := by kernel_rfl
@[go_sem] theorem QhH : (C.ti Qa).zero = [.int .i64 0, .bool false, .int .i64 0, .int .i64 0, .int .i64 0, .str [], .int .i64 0, .nils, .nils, .nils, .int .i64 0, .int .i64 0, .str [], .int .i64 0, .nils, .nils, .nils, .int .i64 0, .int .i64 0, .str [], .int .i64 0, .nils, .int .i64 0, .int .i64 0, .str [], .nils, .str [], .int .i64 0, .int .i64 0, .int .i64 0, .str [], .int .i64 0, .nils, .int .i64 0, .int .i64 0, .str [], .int .i64 0, .nils, .nils, .nils, .str [], .int .i64 0, .bool false, .int .i64 0, .int .i64 0, .str [], .nils] := by kernel_rfl
@[go_sem] theorem Q71 : (C.ti Ql).size = 1 := by kernel_rfl
@[go_sem] theorem Q84 : (C.ti Ql).k = .func := by kernel_rfl
@[go_sem] theorem Q75 : (C.ti Ql).isAgg = false := by kernel_rfl
@[go_sem] theorem Q70 : (C.ti Ql).isGood = true := by kernel_rfl
@[go_sem] theorem Q72 : (C.ti Ql).zero = [.nilf] := by kernel_rfl
@[go_sem] theorem QiU : (C.ti Q1G).size = 1 := by kernel_rfl
@[go_sem] theorem QkU : (C.ti Q1G).k = .slice 9 := by kernel_rfl
@[go_sem] theorem Qjg : (C.ti Q1G).isAgg = false := by kernel_rfl
@[go_sem] theorem QiT : (C.ti Q1G).isGood = true := by kernel_rfl
@[go_sem] theorem QiV : (C.ti Q1G).zero = [.nils] := by kernel_rfl
@[go_sem] theorem Qks : (C.ti Q1h).size = 1 := by kernel_rfl
@[go_sem] theorem QoV : (C.ti Q1h).k = .ptr := by kernel_rfl
@[go_sem] theorem QlI : (C.ti Q1h).isAgg = false := by kernel_rfl
@[go_sem] theorem Qkr : (C.ti Q1h).isGood = true := by kernel_rfl
@[go_sem] theorem Qkt : (C.ti Q1h).zero = [.nilp] := by kernel_rfl
@[go_sem] theorem Qky : (C.ti Q0D).size = 1 := by kernel_rfl
@[go_sem] theorem QoX : (C.ti Q0D).k = .ptr := by kernel_rfl
@[go_sem] theorem QlK : (C.ti Q0D).isAgg = false := by kernel_rfl
@[go_sem] theorem Qkx : (C.ti Q0D).isGood = true := by kernel_rfl
@[go_sem] theorem Qkz : (C.ti Q0D).zero = [.nilp] := by kernel_rfl
@[go_sem] theorem Qkp : (C.ti Q01).size = 1 := by kernel_rfl
@[go_sem] theorem QoU : (C.ti Q01).k = .ptr := by kernel_rfl
@[go_sem] theorem QlH : (C.ti Q01).isAgg = false := by kernel_rfl
@[go_sem] theorem Qko : (C.ti Q01).isGood = true := by kernel_rfl
@[go_sem] theorem Qkq : (C.ti Q01).zero = [.nilp] := by kernel_rfl
@[go_sem] theorem Qkv : (C.ti Q1i).size = 1 := by kernel_rfl
@[go_sem] theorem QoW : (C.ti Q1i).k = .ptr := by kernel_rfl
@[go_sem] theorem QlJ : (C.ti Q1i).isAgg = false := by kernel_rfl
@[go_sem] theorem Qku : (C.ti Q1i).isGood = true := by kernel_rfl
@[go_sem] theorem Qkw : (C.ti Q1i).zero = [.nilp] := by kernel_rfl
@[go_sem] theorem QkB : (C.ti Q1j).size = 1 := by kernel_rfl
@[go_sem] theorem QoY : (C.ti Q1j).k = .ptr := by kernel_rfl
@[go_sem] theorem QlL : (C.ti Q1j).isAgg = false := by kernel_rfl
@[go_sem] theorem QkA : (C.ti Q1j).isGood = true := by kernel_rfl
@[go_sem] theorem QkC : (C.ti Q1j).zero = [.nilp] := by kernel_rfl
@[go_sem] theorem QlN : (C.ti Q3q).size = 1 := by kernel_rfl
@[go_sem] theorem QpK : (C.ti Q3q).k = .ptr := by kernel_rfl
@[go_sem] theorem QmK : (C.ti Q3q).isAgg = false := by kernel_rfl
@[go_sem] theorem QlM : (C.ti Q3q).isGood = true := by kernel_rfl
@[go_sem] theorem QlO : (C.ti Q3q).zero = [.nilp] := by kernel_rfl
@[go_sem] theorem Ql2 : (C.ti QJ).size = 8 := by kernel_rfl
@[go_sem] theorem Qp2 : (C.ti QJ).k = .struct [(0, 123), (1, 4), (2, 124), (3, 125), (4, 126), (5, 127), (6, 128), (7, 3)] := by kernel_rfl
@[go_sem] theorem Qm2 : (C.ti QJ).isAgg = true := by kernel_rfl
@[go_sem] theorem Ql1 : (C.ti QJ).isGood = true := by kernel_rfl
@[go_sem] theorem Ql3 : (C.ti QJ).zero = [.nilp, .bool false, .nilp, .nilp, .nilp, .nilp, .nilp, .int .i64 0] := by kernel_rfl
@[go_sem] theorem QaW : (C.ti Qm).size = 1 := by kernel_rfl
@[go_sem] theorem QcF : (C.ti Qm).k = .func := by kernel_rfl
@[go_sem] theorem QaZ : (C.ti Qm).isAgg = false := by kernel_rfl
@[go_sem] theorem QaV : (C.ti Qm).isGood = true := by kernel_rfl
@[go_sem] theorem QaX : (C.ti Qm).zero = [.nilf] := by kernel_rfl
@[go_sem] theorem Qkg : (C.ti Qt).size = 1 := by kernel_rfl
@[go_sem] theorem QmU : (C.ti Qt).k = .struct [(0, 132)] := by kernel_rfl
@[go_sem] theorem Ql7 : (C.ti Qt).isAgg = true := by kernel_rfl
@[go_sem] theorem Qkf : (C.ti Qt).isGood = true := by kernel_rfl
@[go_sem] theorem Qkh : (C.ti Qt).zero = [.nilf] := by kernel_rfl
@[go_sem] theorem QmS : (C.ti Q0).size = 6 := by kernel_rfl
@[go_sem] theorem Qr1 : (C.ti Q0).k = .struct [(0, 4), (1, 4), (2, 4), (3, 4), (4, 3), (5, 3)] := by kernel_rfl
@[go_sem] theorem Qp1 : (C.ti Q0).isAgg = true := by kernel_rfl
@[go_sem] theorem QmR : (C.ti Q0).isGood = true := by kernel_rfl
@[go_sem] theorem QmT : (C.ti Q0).zero = [.bool false, .bool false, .bool false, .bool false, .int .i64 0, .int .i64 0] := by kernel_rfl
noncomputable def gC (T : Nat) (k : Nat) (c : List Slot) (K : Slot → Res) : Res := bind1 (ofSlots (C.ti T) (List.take (C.ti T).size (List.drop k c))) K
@[go_sem] theorem QrV (T : Nat) (k : Nat) (c : List Slot) (K : Slot → Res) : gC T k c K = bind1 (ofSlots (C.ti T) (List.take (C.ti T).size (List.drop k c))) K := id rfl
@[congr] theorem Qqm {T : Nat} {k : Nat} {c c' : List Slot} {K : Slot → Res} (h0 : c = c') : gC T k c K = gC T k c' K := by rw [h0]
noncomputable def gA (T : Nat) (c : List Slot) (K : Slot → Res) : Res := bind1 (ofSlots (C.ti T) (List.take (C.ti T).size c)) K
@[go_sem] theorem QrT (T : Nat) (c : List Slot) (K : Slot → Res) : gA T c K = bind1 (ofSlots (C.ti T) (List.take (C.ti T).size c)) K := id rfl
@[congr] theorem Qqk {T : Nat} {c c' : List Slot} {K : Slot → Res} (h0 : c = c') : gA T c K = gA T c' K := by rw [h0]
noncomputable def bx (T : Nat) (v : Slot) (K : List Slot → Res) : Res := bindL (boxCells (C.ti T) v) K
@[go_sem] theorem QrN (T : Nat) (v : Slot) (K : List Slot → Res) : bx T v K = bindL (boxCells (C.ti T) v) K := id rfl
@[congr] theorem Qq4 {T : Nat} {v v' : Slot} {K : List Slot → Res} (h0 : v = v') : bx T v K = bx T v' K := by rw [h0]
noncomputable def pZ (T : Nat) (c : List Slot) (K : List Slot → Res) : Res := bindL (putAt (List.map .val (C.ti T).zero) 0 c) K
@[go_sem] theorem Qsf (T : Nat) (c : List Slot) (K : List Slot → Res) : pZ T c K = bindL (putAt (List.map .val (C.ti T).zero) 0 c) K := id rfl
@[congr] theorem QqV {T : Nat} {c c' : List Slot} {K : List Slot → Res} (h0 : c = c') : pZ T c K = pZ T c' K := by rw [h0]
noncomputable def bn (T : Nat) (op : BinOp) (x : Slot) (y : Slot) (K : Slot → Res) : Res := bind1 (binS (C.ti T) op x y) K
@[go_sem] theorem Qda (T : Nat) (op : BinOp) (x : Slot) (y : Slot) (K : Slot → Res) : bn T op x y K = bind1 (binS (C.ti T) op x y) K := id rfl
@[congr] theorem Qq2 {T : Nat} {op : BinOp} {x x' : Slot} {y y' : Slot} {K : Slot → Res} (h0 : x = x') (h1 : y = y') : bn T op x y K = bn T op x' y' K := by rw [h0, h1]
noncomputable def ix (T : Nat) (x : Slot) (i : Slot) (K : Slot → Res) : Res := bind1 (ixS (C.ti T).size x i) K
@[go_sem] theorem Qsa (T : Nat) (x : Slot) (i : Slot) (K : Slot → Res) : ix T x i K = bind1 (ixS (C.ti T).size x i) K := id rfl
@[congr] theorem QqF {T : Nat} {x x' : Slot} {i i' : Slot} {K : Slot → Res} (h0 : x = x') (h1 : i = i') : ix T x i K = ix T x' i' K := by rw [h0, h1]
noncomputable def ld (T : Nat) (s : St) (a : Slot) (K : Slot → Res) : Res := bind1 (ldV (C.ti T) false s a) K
@[go_sem] theorem Qsb (T : Nat) (s : St) (a : Slot) (K : Slot → Res) : ld T s a K = bind1 (ldV (C.ti T) false s a) K := id rfl
@[congr] theorem QqG {T : Nat} {s s' : St} {a a' : Slot} {K : Slot → Res} (h0 : s = s') (h1 : a = a') : ld T s a K = ld T s' a' K := by rw [h0, h1]
noncomputable def ln (T : Nat) (x : Slot) (K : Slot → Res) : Res := bind1 (lenS (C.ti T) x) K
@[go_sem] theorem Qdc (T : Nat) (x : Slot) (K : Slot → Res) : ln T x K = bind1 (lenS (C.ti T) x) K := id rfl
@[congr] theorem QqI {T : Nat} {x x' : Slot} {K : Slot → Res} (h0 : x = x') : ln T x K = ln T x' K := by rw [h0]
noncomputable def ca (f : Nat) (l : List Slot) (s : St) (K : Slot → St → Res) : Res := back (cal cw true (tgtV (.val (.fn f [])) l) s) K
@[go_sem] theorem QrO (f : Nat) (l : List Slot) (s : St) (K : Slot → St → Res) : ca f l s K = back (cal cw true (tgtV (.val (.fn f [])) l) s) K := id rfl
@[congr] theorem Qq5 {f : Nat} {l l' : List Slot} {s s' : St} {K : Slot → St → Res} (h0 : l = l') (h1 : s = s') : ca f l s K = ca f l' s' K := by rw [h0, h1]
noncomputable def cn (f : Nat) (l : List Slot) (s : St) (K : Slot → St → Res) : Res := back (noPan (cal cw true (tgtV (.val (.fn f [])) l) s)) K
@[go_sem] theorem QrQ (f : Nat) (l : List Slot) (s : St) (K : Slot → St → Res) : cn f l s K = back (noPan (cal cw true (tgtV (.val (.fn f [])) l) s)) K := id rfl
@[congr] theorem Qqb {f : Nat} {l l' : List Slot} {s s' : St} {K : Slot → St → Res} (h0 : l = l') (h1 : s = s') : cn f l s K = cn f l' s' K := by rw [h0, h1]
noncomputable def cg (w : Bool) (f : Nat) (l : List Slot) (s : St) (K : Slot → St → Res) : Res := back (cal cw w (tgtV (.val (.fn f [])) l) s) K
@[go_sem] theorem QrP (w : Bool) (f : Nat) (l : List Slot) (s : St) (K : Slot → St → Res) : cg w f l s K = back (cal cw w (tgtV (.val (.fn f [])) l) s) K := id rfl
@[congr] theorem Qqa {f : Nat} {w w' : Bool} {l l' : List Slot} {s s' : St} {K : Slot → St → Res} (h0 : w = w') (h1 : l = l') (h2 : s = s') : cg w f l s K = cg w' f l' s' K := by rw [h0, h1, h2]
noncomputable def iT (v : Slot) (K : Bool → Res) : Res := bindB (Slot.isB v true) K
@[go_sem] theorem Qs6 (v : Slot) (K : Bool → Res) : iT v K = bindB (Slot.isB v true) K := id rfl
@[congr] theorem Qqz  {v v' : Slot} {K : Bool → Res} (h0 : v = v') : iT v K = iT v' K := by rw [h0]
noncomputable def iF (v : Slot) (K : Bool → Res) : Res := bindB (Slot.isB v false) K
@[go_sem] theorem Qs5 (v : Slot) (K : Bool → Res) : iF v K = bindB (Slot.isB v false) K := id rfl
@[congr] theorem Qqy  {v v' : Slot} {K : Bool → Res} (h0 : v = v') : iF v K = iF v' K := by rw [h0]
noncomputable def gG (w : Bool) (b : Bool) (T : Nat) (k : Nat) (c : List Slot) (K : Slot → Res) : Res := bind1 (gd w (bif b then (ofSlots (C.ti T) (List.take (C.ti T).size (List.drop k c))) else none)) K
@[go_sem] theorem QrW (w : Bool) (b : Bool) (T : Nat) (k : Nat) (c : List Slot) (K : Slot → Res) : gG w b T k c K = bind1 (gd w (bif b then (ofSlots (C.ti T) (List.take (C.ti T).size (List.drop k c))) else none)) K := id rfl
@[congr] theorem Qqn {b : Bool} {T : Nat} {k : Nat} {c : List Slot} {w w' : Bool} {K : Slot → Res} (h0 : w = w') : gG w b T k c K = gG w' b T k c K := by rw [h0]
noncomputable def gB (w : Bool) (T : Nat) (op : BinOp) (x : Slot) (y : Slot) (K : Slot → Res) : Res := bind1 (gd w (binS (C.ti T) op x y)) K
@[go_sem] theorem QrU (w : Bool) (T : Nat) (op : BinOp) (x : Slot) (y : Slot) (K : Slot → Res) : gB w T op x y K = bind1 (gd w (binS (C.ti T) op x y)) K := id rfl
@[congr] theorem Qql {T : Nat} {op : BinOp} {x : Slot} {y : Slot} {w w' : Bool} {K : Slot → Res} (h0 : w = w') : gB w T op x y K = gB w' T op x y K := by rw [h0]
noncomputable def gN (w : Bool) (x : Slot) (K : Slot → Res) : Res := bind1 (gd w (unS .not x)) K
@[go_sem] theorem QrY (w : Bool) (x : Slot) (K : Slot → Res) : gN w x K = bind1 (gd w (unS .not x)) K := id rfl
@[congr] theorem Qqp {x : Slot} {w w' : Bool} {K : Slot → Res} (h0 : w = w') : gN w x K = gN w' x K := by rw [h0]
noncomputable def gL (w : Bool) (T : Nat) (x : Slot) (K : Slot → Res) : Res := bind1 (gd w (lenS (C.ti T) x)) K
@[go_sem] theorem QrX (w : Bool) (T : Nat) (x : Slot) (K : Slot → Res) : gL w T x K = bind1 (gd w (lenS (C.ti T) x)) K := id rfl
@[congr] theorem Qqo {T : Nat} {x : Slot} {w w' : Bool} {K : Slot → Res} (h0 : w = w') : gL w T x K = gL w' T x K := by rw [h0]
noncomputable def nt (x : Slot) (K : Slot → Res) : Res := bind1 (unS .not x) K
@[go_sem] theorem Qsd (x : Slot) (K : Slot → Res) : nt x K = bind1 (unS .not x) K := id rfl
@[congr] theorem QqM  {x x' : Slot} {K : Slot → Res} (h0 : x = x') : nt x K = nt x' K := by rw [h0]
noncomputable def pk (a : Slot) (b : Slot) (c : Slot) (K : Slot → Res) : Res := bind1 (pickS a b c) K
@[go_sem] theorem Qsg (a : Slot) (b : Slot) (c : Slot) (K : Slot → Res) : pk a b c K = bind1 (pickS a b c) K := id rfl
@[congr] theorem QqW  {a a' : Slot} {b b' : Slot} {c c' : Slot} {K : Slot → Res} (h0 : a = a') (h1 : b = b') (h2 : c = c') : pk a b c K = pk a' b' c' K := by rw [h0, h1, h2]
noncomputable def ex (a : Slot) (i : Nat) (K : Slot → Res) : Res := bind1 (extractS a i) K
@[go_sem] theorem QrR (a : Slot) (i : Nat) (K : Slot → Res) : ex a i K = bind1 (extractS a i) K := id rfl
@[congr] theorem Qqe {i : Nat} {a a' : Slot} {K : Slot → Res} (h0 : a = a') : ex a i K = ex a' i K := by rw [h0]
noncomputable def fa (i : Nat) (a : Slot) (K : Slot → Res) : Res := bind1 (faV i a) K
@[go_sem] theorem QrS (i : Nat) (a : Slot) (K : Slot → Res) : fa i a K = bind1 (faV i a) K := id rfl
@[congr] theorem Qqi {i : Nat} {a a' : Slot} {K : Slot → Res} (h0 : a = a') : fa i a K = fa i a' K := by rw [h0]
noncomputable def pt (c : List Slot) (i : Nat) (d : List Slot) (K : List Slot → Res) : Res := bindL (putAt c i d) K
@[go_sem] theorem Qsh (c : List Slot) (i : Nat) (d : List Slot) (K : List Slot → Res) : pt c i d K = bindL (putAt c i d) K := id rfl
@[congr] theorem QqX {i : Nat} {c c' : List Slot} {d d' : List Slot} {K : List Slot → Res} (h0 : c = c') (h1 : d = d') : pt c i d K = pt c' i d' K := by rw [h0, h1]
noncomputable def bs (T : Nat) (l : List Slot) (K : Slot → Res) : Res := bind1 (bslF (C.ti T).size l) K
@[go_sem] theorem QrL (T : Nat) (l : List Slot) (K : Slot → Res) : bs T l K = bind1 (bslF (C.ti T).size l) K := id rfl
@[congr] theorem Qq3 {T : Nat} {l l' : List Slot} {K : Slot → Res} (h0 : l = l') : bs T l K = bs T l' K := by rw [h0]
noncomputable def ap (T : Nat) (s : St) (x : Slot) (y : Slot) (K : Slot → St → Res) : Res := bind2 (appendS T (C.ti T) s x y) K
@[go_sem] theorem QrJ (T : Nat) (s : St) (x : Slot) (y : Slot) (K : Slot → St → Res) : ap T s x y K = bind2 (appendS T (C.ti T) s x y) K := id rfl
@[congr] theorem QpL {T : Nat} {s s' : St} {x x' : Slot} {y y' : Slot} {K : Slot → St → Res} (h0 : s = s') (h1 : x = x') (h2 : y = y') : ap T s x y K = ap T s' x' y' K := by rw [h0, h1, h2]
noncomputable def sto (s : St) (a : Slot) (c : List Slot) (K : St → Res) : Res := bindS (stV s a c) K
@[go_sem] theorem QrG (s : St) (a : Slot) (c : List Slot) (K : St → Res) : sto s a c K = bindS (stV s a c) K := id rfl
@[congr] theorem QpI  {s s' : St} {a a' : Slot} {c c' : List Slot} {K : St → Res} (h0 : s = s') (h1 : a = a') (h2 : c = c') : sto s a c K = sto s' a' c' K := by rw [h0, h1, h2]
noncomputable def upd2 (A : Nat) (B : Nat) (s : St) (a : Slot) (b : Slot) (c : Slot) (K : Slot → St → Res) : Res := bind2 (updateS (C.ti A) (C.ti B) s a b c) K
@[go_sem] theorem Qrp (A : Nat) (B : Nat) (s : St) (a : Slot) (b : Slot) (c : Slot) (K : Slot → St → Res) : upd2 A B s a b c K = bind2 (updateS (C.ti A) (C.ti B) s a b c) K := id rfl
@[congr] theorem QoQ {A : Nat} {B : Nat} {s s' : St} {a a' : Slot} {b b' : Slot} {c c' : Slot} {K : Slot → St → Res} (h0 : s = s') (h1 : a = a') (h2 : b = b') (h3 : c = c') : upd2 A B s a b c K = upd2 A B s' a' b' c' K := by rw [h0, h1, h2, h3]
noncomputable def lk (A : Nat) (B : Nat) (s : St) (a : Slot) (b : Slot) (q : Bool) (K : Slot → Res) : Res := bind1 (lookupS (C.ti A) (C.ti B) s a b q) K
@[go_sem] theorem Qsc (A : Nat) (B : Nat) (s : St) (a : Slot) (b : Slot) (q : Bool) (K : Slot → Res) : lk A B s a b q K = bind1 (lookupS (C.ti A) (C.ti B) s a b q) K := id rfl
@[congr] theorem QqH {A : Nat} {B : Nat} {q : Bool} {s s' : St} {a a' : Slot} {b b' : Slot} {K : Slot → Res} (h0 : s = s') (h1 : a = a') (h2 : b = b') : lk A B s a b q K = lk A B s' a' b' q K := by rw [h0, h1, h2]
noncomputable def bdL : List (Nat × Nat × Slot) → List (Nat × Nat × Slot)
 | [] => []
 | p :: r => (p.1, (C.ti p.2.1).size, p.2.2) :: bdL r
@[go_sem] theorem Qr6 : bdL [] = [] := id rfl
@[go_sem] theorem QpQ (a b : Nat) (v : Slot) (r : List (Nat × Nat × Slot)) : bdL ((a, b, v) :: r) = (a, (C.ti b).size, v) :: bdL r := id rfl
noncomputable def bd (T : Nat) (l : List (Nat × Nat × Slot)) (K : Slot → Res) : Res := bind1 (buildS (C.ti T).zero (bdL l)) K
@[go_sem] theorem QrK (T : Nat) (l : List (Nat × Nat × Slot)) (K : Slot → Res) : bd T l K = bind1 (buildS (C.ti T).zero (bdL l)) K := id rfl
@[congr] theorem QpR {T : Nat} {l l' : List (Nat × Nat × Slot)} {K : Slot → Res} (h0 : l = l') : bd T l K = bd T l' K := by rw [h0]
noncomputable def rt (l : List (Option Slot)) (s : St) : Res := bind1 (tupS l) fun v => some (.ret v, s)
@[go_sem] theorem Qsi (l : List (Option Slot)) (s : St) : rt l s = bind1 (tupS l) fun v => some (.ret v, s) := id rfl
@[reducible] def iv (n : Int) : Slot := .val (.int .i64 n)
@[go_sem] theorem Qs9 (n : Int) : iv n = .val (.int .i64 n) := id rfl
@[reducible] def bv (b : Bool) : Slot := .val (.bool b)
@[go_sem] theorem QrM (b : Bool) : bv b = .val (.bool b) := id rfl
@[reducible] def sv (l : List UInt8) : Slot := .val (.str l)
@[go_sem] theorem Qsj (l : List UInt8) : sv l = .val (.str l) := id rfl
noncomputable def nx (x : Slot) (K : Slot → Res) : Res := bind1 (binS (C.ti Q1) .add x (.val (.int .i64 1))) K
@[go_sem] theorem Qse (x : Slot) (K : Slot → Res) : nx x K = bind1 (binS (C.ti Q1) .add x (.val (.int .i64 1))) K := id rfl
@[congr] theorem QqN  {x x' : Slot} {K : Slot → Res} (h0 : x = x') : nx x K = nx x' K := by rw [h0]
@[reducible] noncomputable def lpD (f : FuncId) (p : List Step) (fn : Func) (e : Env) (s : St) : Res := loopR C false f p (body fn) e s (ctxR C false f p (body fn) (outK C fn.results.toList))
@[reducible] noncomputable def pwD (f : FuncId) (p : List Step) (fn : Func) (e : Env) (s : St) : Res := pw (run C false f (codeAt p (body fn)) e s (ctxR C false f p (body fn) (outK C fn.results.toList)))
end Go.Proofs.YtoahliipbclneaaGreat