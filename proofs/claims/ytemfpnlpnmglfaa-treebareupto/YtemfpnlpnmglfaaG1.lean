/- A text of the proof: made by program. -/
import Derived.Test.YtemfpnlpnmglfaaA24
import Derived.Test.YtemfpnlpnmglfaaA25
import Derived.KernelRfl
import Derived.Test.YtemfpnlpnmglfaaProg
set_option linter.unusedVariables false
set_option linter.unusedSimpArgs false
namespace Go.Proofs.Ytemfpnlpnmglfaa
open Go Go.Am
noncomputable def tis : List TI := [
  {},
  { k := .func, size := 1, bytes := 8, zero := [.nilf] },
  { k := .int .i64, size := 1, bytes := 8, zero := [.int .i64 0] },
  { k := .int .i64, size := 1, bytes := 8, zero := [.int .i64 0] },
  { k := .bool, size := 1, bytes := 1, zero := [.bool false] },
  { k := .int .u8, size := 1, bytes := 1, zero := [.int .u8 0] },
  { k := .int .u8, size := 1, bytes := 1, zero := [.int .u8 0] },
  { k := .struct [(0, 2), (1, 3), (2, 4), (3, 6)], size := 4, bytes := 24, zero := [.int .i64 0, .int .i64 0, .bool false, .int .u8 0] },
  { k := .struct [(0, 2), (1, 3), (2, 4), (3, 6)], size := 4, bytes := 24, zero := [.int .i64 0, .int .i64 0, .bool false, .int .u8 0] },
  { k := .str, size := 1, bytes := 16, zero := [.str []] },
  { k := .str, size := 1, bytes := 16, zero := [.str []] },
  { k := .str, size := 1, bytes := 16, zero := [.str []] },
  { k := .int .u64, size := 1, bytes := 8, zero := [.int .u64 0] },
  { k := .struct [(0, 9), (1, 12)], size := 2, bytes := 24, zero := [.str [], .int .u64 0] },
  { k := .struct [(0, 9), (1, 12)], size := 2, bytes := 24, zero := [.str [], .int .u64 0] },
  { k := .ptr, size := 1, bytes := 8, zero := [.nilp] },
  { k := .ptr, size := 1, bytes := 8, zero := [.nilp] },
  { k := .ptr, size := 1, bytes := 8, zero := [.nilp] },
  { k := .struct [(0, 17)], size := 1, bytes := 8, zero := [.nilp] },
  { k := .struct [(0, 17)], size := 1, bytes := 8, zero := [.nilp] },
  { k := .iface, size := 1, bytes := 16, zero := [.nili] },
  { k := .int .i32, size := 1, bytes := 4, zero := [.int .i32 0] },
  { k := .slice 50, size := 1, bytes := 24, zero := [.nils] },
  { k := .int .i64, size := 1, bytes := 8, zero := [.int .i64 0] },
  { k := .struct [(0, 23), (1, 3), (2, 9)], size := 3, bytes := 32, zero := [.int .i64 0, .int .i64 0, .str []] },
  { k := .struct [(0, 23), (1, 3), (2, 9)], size := 3, bytes := 32, zero := [.int .i64 0, .int .i64 0, .str []], flat := [.int .i64, .int .i64, .str] },
  { k := .func, size := 1, bytes := 8, zero := [.nilf] },
  { k := .func, size := 1, bytes := 8, zero := [.nilf] },
  { k := .func, size := 1, bytes := 8, zero := [.nilf] },
  { k := .int .i64, size := 1, bytes := 8, zero := [.int .i64 0] },
  { k := .slice 33, size := 1, bytes := 24, zero := [.nils] },
  { k := .slice 56, size := 1, bytes := 24, zero := [.nils] },
  { k := .struct [(0, 29), (1, 3), (2, 9), (3, 3), (4, 30), (5, 31), (6, 22)], size := 7, bytes := 112, zero := [.int .i64 0, .int .i64 0, .str [], .int .i64 0, .nils, .nils, .nils] },
  { k := .struct [(0, 29), (1, 3), (2, 9), (3, 3), (4, 30), (5, 31), (6, 22)], size := 7, bytes := 112, zero := [.int .i64 0, .int .i64 0, .str [], .int .i64 0, .nils, .nils, .nils] },
  { k := .int .i64, size := 1, bytes := 8, zero := [.int .i64 0] },
  { k := .slice 37, size := 1, bytes := 24, zero := [.nils] },
  { k := .struct [(0, 34), (1, 3), (2, 9), (3, 3), (4, 35)], size := 5, bytes := 64, zero := [.int .i64 0, .int .i64 0, .str [], .int .i64 0, .nils] },
  { k := .struct [(0, 34), (1, 3), (2, 9), (3, 3), (4, 35)], size := 5, bytes := 64, zero := [.int .i64 0, .int .i64 0, .str [], .int .i64 0, .nils] },
  { k := .func, size := 1, bytes := 8, zero := [.nilf] },
  { k := .func, size := 1, bytes := 8, zero := [.nilf] },
  { k := .func, size := 1, bytes := 8, zero := [.nilf] },
  { k := .slice 9, size := 1, bytes := 24, zero := [.nils] },
  { k := .func, size := 1, bytes := 8, zero := [.nilf] },
  { k := .func, size := 1, bytes := 8, zero := [.nilf] },
  { k := .slice 62, size := 1, bytes := 24, zero := [.nils] },
  { k := .func, size := 1, bytes := 8, zero := [.nilf] },
  { k := .int .i64, size := 1, bytes := 8, zero := [.int .i64 0] },
  { k := .slice 60, size := 1, bytes := 24, zero := [.nils] },
  { k := .slice 58, size := 1, bytes := 24, zero := [.nils] },
  { k := .struct [(0, 46), (1, 3), (2, 9), (3, 3), (4, 47), (5, 31), (6, 48)], size := 7, bytes := 112, zero := [.int .i64 0, .int .i64 0, .str [], .int .i64 0, .nils, .nils, .nils] },
  { k := .struct [(0, 46), (1, 3), (2, 9), (3, 3), (4, 47), (5, 31), (6, 48)], size := 7, bytes := 112, zero := [.int .i64 0, .int .i64 0, .str [], .int .i64 0, .nils, .nils, .nils] },
  { k := .int .i64, size := 1, bytes := 8, zero := [.int .i64 0] },
  { k := .slice 54, size := 1, bytes := 24, zero := [.nils] },
  { k := .struct [(0, 51), (1, 3), (2, 9), (3, 52)], size := 4, bytes := 56, zero := [.int .i64 0, .int .i64 0, .str [], .nils] },
  { k := .struct [(0, 51), (1, 3), (2, 9), (3, 52)], size := 4, bytes := 56, zero := [.int .i64 0, .int .i64 0, .str [], .nils] },
  { k := .struct [(0, 37), (5, 33)], size := 12, bytes := 176, zero := [.int .i64 0, .int .i64 0, .str [], .int .i64 0, .nils, .int .i64 0, .int .i64 0, .str [], .int .i64 0, .nils, .nils, .nils] },
  { k := .struct [(0, 37), (5, 33)], size := 12, bytes := 176, zero := [.int .i64 0, .int .i64 0, .str [], .int .i64 0, .nils, .int .i64 0, .int .i64 0, .str [], .int .i64 0, .nils, .nils, .nils] },
  { k := .struct [(0, 9), (1, 3), (2, 56)], size := 14, bytes := 200, zero := [.str [], .int .i64 0, .int .i64 0, .int .i64 0, .str [], .int .i64 0, .nils, .int .i64 0, .int .i64 0, .str [], .int .i64 0, .nils, .nils, .nils] },
  { k := .struct [(0, 9), (1, 3), (2, 56)], size := 14, bytes := 200, zero := [.str [], .int .i64 0, .int .i64 0, .int .i64 0, .str [], .int .i64 0, .nils, .int .i64 0, .int .i64 0, .str [], .int .i64 0, .nils, .nils, .nils] },
  { k := .struct [(0, 9), (1, 3), (2, 4), (3, 54)], size := 7, bytes := 88, zero := [.str [], .int .i64 0, .bool false, .int .i64 0, .int .i64 0, .str [], .nils] },
  { k := .struct [(0, 9), (1, 3), (2, 4), (3, 54)], size := 7, bytes := 88, zero := [.str [], .int .i64 0, .bool false, .int .i64 0, .int .i64 0, .str [], .nils] },
  { k := .struct [(0, 3), (1, 4), (2, 3), (3, 50), (10, 33), (17, 37), (22, 54), (26, 58), (40, 60)], size := 47, bytes := 656, zero := [.int .i64 0, .bool false, .int .i64 0, .int .i64 0, .int .i64 0, .str [], .int .i64 0, .nils, .nils, .nils, .int .i64 0, .int .i64 0, .str [], .int .i64 0, .nils, .nils, .nils, .int .i64 0, .int .i64 0, .str [], .int .i64 0, .nils, .int .i64 0, .int .i64 0, .str [], .nils, .str [], .int .i64 0, .int .i64 0, .int .i64 0, .str [], .int .i64 0, .nils, .int .i64 0, .int .i64 0, .str [], .int .i64 0, .nils, .nils, .nils, .str [], .int .i64 0, .bool false, .int .i64 0, .int .i64 0, .str [], .nils] },
  { k := .struct [(0, 3), (1, 4), (2, 3), (3, 50), (10, 33), (17, 37), (22, 54), (26, 58), (40, 60)], size := 47, bytes := 656, zero := [.int .i64 0, .bool false, .int .i64 0, .int .i64 0, .int .i64 0, .str [], .int .i64 0, .nils, .nils, .nils, .int .i64 0, .int .i64 0, .str [], .int .i64 0, .nils, .nils, .nils, .int .i64 0, .int .i64 0, .str [], .int .i64 0, .nils, .int .i64 0, .int .i64 0, .str [], .nils, .str [], .int .i64 0, .int .i64 0, .int .i64 0, .str [], .int .i64 0, .nils, .int .i64 0, .int .i64 0, .str [], .int .i64 0, .nils, .nils, .nils, .str [], .int .i64 0, .bool false, .int .i64 0, .int .i64 0, .str [], .nils] },
  { k := .func, size := 1, bytes := 8, zero := [.nilf] },
  { k := .func, size := 1, bytes := 8, zero := [.nilf] },
  { k := .func, size := 1, bytes := 8, zero := [.nilf] },
  { k := .func, size := 1, bytes := 8, zero := [.nilf] },
  { k := .func, size := 1, bytes := 8, zero := [.nilf] },
  { k := .func, size := 1, bytes := 8, zero := [.nilf] },
  { k := .func, size := 1, bytes := 8, zero := [.nilf] },
  { k := .func, size := 1, bytes := 8, zero := [.nilf] },
  { k := .func, size := 1, bytes := 8, zero := [.nilf] },
  { k := .func, size := 1, bytes := 8, zero := [.nilf] },
  { k := .func, size := 1, bytes := 8, zero := [.nilf] },
  { k := .func, size := 1, bytes := 8, zero := [.nilf] },
  { k := .func, size := 1, bytes := 8, zero := [.nilf] },
  { k := .func, size := 1, bytes := 8, zero := [.nilf] },
  { k := .func, size := 1, bytes := 8, zero := [.nilf] },
  { k := .func, size := 1, bytes := 8, zero := [.nilf] },
  { k := .ptr, size := 1, bytes := 8, zero := [.nilp] },
  { k := .ptr, size := 1, bytes := 8, zero := [.nilp] },
  { k := .ptr, size := 1, bytes := 8, zero := [.nilp] },
  { k := .ptr, size := 1, bytes := 8, zero := [.nilp] },
  { k := .ptr, size := 1, bytes := 8, zero := [.nilp] },
  { k := .ptr, size := 1, bytes := 8, zero := [.nilp] },
  { k := .struct [(0, 79), (1, 4), (2, 80), (3, 81), (4, 82), (5, 83), (6, 84), (7, 3)], size := 8, bytes := 64, zero := [.nilp, .bool false, .nilp, .nilp, .nilp, .nilp, .nilp, .int .i64 0] },
  { k := .struct [(0, 79), (1, 4), (2, 80), (3, 81), (4, 82), (5, 83), (6, 84), (7, 3)], size := 8, bytes := 64, zero := [.nilp, .bool false, .nilp, .nilp, .nilp, .nilp, .nilp, .int .i64 0] },
  { k := .func, size := 1, bytes := 8, zero := [.nilf] },
  { k := .func, size := 1, bytes := 8, zero := [.nilf] },
  { k := .func, size := 1, bytes := 8, zero := [.nilf] },
  { k := .func, size := 1, bytes := 8, zero := [.nilf] },
  { k := .func, size := 1, bytes := 8, zero := [.nilf] },
  { k := .func, size := 1, bytes := 8, zero := [.nilf] },
  { k := .func, size := 1, bytes := 8, zero := [.nilf] },
  { k := .func, size := 1, bytes := 8, zero := [.nilf] },
  { k := .func, size := 1, bytes := 8, zero := [.nilf] },
  { k := .func, size := 1, bytes := 8, zero := [.nilf] },
  { k := .func, size := 1, bytes := 8, zero := [.nilf] },
  { k := .func, size := 1, bytes := 8, zero := [.nilf] },
  { k := .struct [(0, 98)], size := 1, bytes := 8, zero := [.nilf] },
  { k := .struct [(0, 98)], size := 1, bytes := 8, zero := [.nilf] },
  { k := .func, size := 1, bytes := 8, zero := [.nilf] },
  { k := .func, size := 1, bytes := 8, zero := [.nilf] },
  { k := .func, size := 1, bytes := 8, zero := [.nilf] },
  {},
  { k := .func, size := 1, bytes := 8, zero := [.nilf] },
  { k := .func, size := 1, bytes := 8, zero := [.nilf] },
  { k := .func, size := 1, bytes := 8, zero := [.nilf] },
  { k := .func, size := 1, bytes := 8, zero := [.nilf] },
  { k := .func, size := 1, bytes := 8, zero := [.nilf] },
  { k := .func, size := 1, bytes := 8, zero := [.nilf] },
  { k := .func, size := 1, bytes := 8, zero := [.nilf] },
  { k := .func, size := 1, bytes := 8, zero := [.nilf] },
  { k := .func, size := 1, bytes := 8, zero := [.nilf] },
  { k := .func, size := 1, bytes := 8, zero := [.nilf] },
  { k := .func, size := 1, bytes := 8, zero := [.nilf] },
  { k := .func, size := 1, bytes := 8, zero := [.nilf] },
  { k := .func, size := 1, bytes := 8, zero := [.nilf] },
  { k := .func, size := 1, bytes := 8, zero := [.nilf] },
  { k := .func, size := 1, bytes := 8, zero := [.nilf] },
  { k := .func, size := 1, bytes := 8, zero := [.nilf] },
  { k := .func, size := 1, bytes := 8, zero := [.nilf] },
  { k := .func, size := 1, bytes := 8, zero := [.nilf] },
  { k := .func, size := 1, bytes := 8, zero := [.nilf] },
  { k := .func, size := 1, bytes := 8, zero := [.nilf] },
  { k := .func, size := 1, bytes := 8, zero := [.nilf] },
  { k := .func, size := 1, bytes := 8, zero := [.nilf] },
  { k := .func, size := 1, bytes := 8, zero := [.nilf] },
  { k := .func, size := 1, bytes := 8, zero := [.nilf] },
  { k := .func, size := 1, bytes := 8, zero := [.nilf] },
  { k := .func, size := 1, bytes := 8, zero := [.nilf] },
  { k := .func, size := 1, bytes := 8, zero := [.nilf] },
  { k := .func, size := 1, bytes := 8, zero := [.nilf] },
  { k := .func, size := 1, bytes := 8, zero := [.nilf] },
  { k := .func, size := 1, bytes := 8, zero := [.nilf] },
  { k := .func, size := 1, bytes := 8, zero := [.nilf] },
  { k := .func, size := 1, bytes := 8, zero := [.nilf] },
  { k := .func, size := 1, bytes := 8, zero := [.nilf] },
  { k := .func, size := 1, bytes := 8, zero := [.nilf] },
  { k := .func, size := 1, bytes := 8, zero := [.nilf] },
  { k := .func, size := 1, bytes := 8, zero := [.nilf] },
  { k := .func, size := 1, bytes := 8, zero := [.nilf] },
  { k := .struct [(0, 4), (1, 4), (2, 4), (3, 4), (4, 3), (5, 3)], size := 6, bytes := 24, zero := [.bool false, .bool false, .bool false, .bool false, .int .i64 0, .int .i64 0] },
  { k := .struct [(0, 4), (1, 4), (2, 4), (3, 4), (4, 3), (5, 3)], size := 6, bytes := 24, zero := [.bool false, .bool false, .bool false, .bool false, .int .i64 0, .int .i64 0] },
  {},
  { k := .func, size := 1, bytes := 8, zero := [.nilf] },
  { k := .func, size := 1, bytes := 8, zero := [.nilf] },
  { k := .func, size := 1, bytes := 8, zero := [.nilf] },
  {},
  { k := .func, size := 1, bytes := 8, zero := [.nilf] },
  {},
  { k := .func, size := 1, bytes := 8, zero := [.nilf] },
  { k := .func, size := 1, bytes := 8, zero := [.nilf] },
  { k := .func, size := 1, bytes := 8, zero := [.nilf] },
  { k := .func, size := 1, bytes := 8, zero := [.nilf] },
  { k := .func, size := 1, bytes := 8, zero := [.nilf] },
  { k := .func, size := 1, bytes := 8, zero := [.nilf] },
  { k := .func, size := 1, bytes := 8, zero := [.nilf] },
  { k := .func, size := 1, bytes := 8, zero := [.nilf] },
  { k := .func, size := 1, bytes := 8, zero := [.nilf] },
  { k := .func, size := 1, bytes := 8, zero := [.nilf] },
  { k := .func, size := 1, bytes := 8, zero := [.nilf] },
  { k := .func, size := 1, bytes := 8, zero := [.nilf] },
  { k := .func, size := 1, bytes := 8, zero := [.nilf] },
  { k := .int .u64, size := 1, bytes := 8, zero := [.int .u64 0] },
  { k := .int .u32, size := 1, bytes := 4, zero := [.int .u32 0] },
  {},
  { k := .func, size := 1, bytes := 8, zero := [.nilf] },
  { k := .func, size := 1, bytes := 8, zero := [.nilf] },
  { k := .struct [(0, 17), (1, 17), (2, 17), (3, 9)], size := 4, bytes := 40, zero := [.nilp, .nilp, .nilp, .str []] },
  { k := .struct [(0, 17), (1, 17), (2, 17), (3, 9)], size := 4, bytes := 40, zero := [.nilp, .nilp, .nilp, .str []] },
  { k := .array 0 16, size := 0, bytes := 0, zero := [] },
  { k := .struct [(0, 171)], size := 0, bytes := 0, zero := [] },
  { k := .struct [(0, 171)], size := 0, bytes := 0, zero := [] },
  { k := .int .u8, size := 1, bytes := 1, zero := [.int .u8 0] },
  { k := .int .u8, size := 1, bytes := 1, zero := [.int .u8 0] },
  { k := .func, size := 1, bytes := 8, zero := [.nilf] },
  { k := .ptr, size := 1, bytes := 8, zero := [.nilp] },
  { k := .int .i32, size := 1, bytes := 4, zero := [.int .i32 0] },
  { k := .int .i32, size := 1, bytes := 4, zero := [.int .i32 0] },
  { k := .struct [(0, 12), (1, 12), (2, 165), (3, 174), (4, 5), (5, 5), (6, 175), (7, 176), (8, 177), (9, 178), (10, 179)], size := 11, bytes := 48, zero := [.int .u64 0, .int .u64 0, .int .u32 0, .int .u8 0, .int .u8 0, .int .u8 0, .int .u8 0, .nilf, .nilp, .int .i32 0, .int .i32 0] },
  { k := .struct [(0, 12), (1, 12), (2, 165), (3, 174), (4, 5), (5, 5), (6, 175), (7, 176), (8, 177), (9, 178), (10, 179)], size := 11, bytes := 48, zero := [.int .u64 0, .int .u64 0, .int .u32 0, .int .u8 0, .int .u8 0, .int .u8 0, .int .u8 0, .nilf, .nilp, .int .i32 0, .int .i32 0] },
  {}]
noncomputable def modes : List (Nat × Nat × AMode) := [(9, 1, .con), (12, 1, .con), (14, 1, .con), (17, 3, .loc), (27, 4, .loc), (28, 1, .con), (33, 1, .con), (38, 1, .con), (46, 3, .con), (46, 5, .loc)]
noncomputable def keeps : List (Nat × Nat × List Nat) := [(5, 6, [3, 4]), (16, 5, [0, 1, 5]), (17, 4, [3]), (18, 6, [1, 3, 4]), (19, 4, [0, 3, 4]), (24, 5, [0, 1, 2, 7]), (26, 4, [0, 3, 4]), (26, 9, [0, 3, 4, 5, 6, 7]), (26, 13, [0, 3, 4, 5, 6, 8]), (26, 17, [0, 3, 4, 5, 6, 9]), (27, 7, [4]), (30, 4, [3, 11, 12, 13]), (30, 8, [3, 5, 6, 11, 12, 13, 21, 22, 23]), (30, 13, [3, 6, 11, 12, 13, 35, 36, 37]), (31, 7, [0, 4, 5]), (32, 4, [0, 3, 4]), (32, 8, [0, 3, 4, 5, 6]), (32, 12, [0, 3, 4, 5, 7]), (32, 16, [0, 3, 4, 5, 8]), (35, 4, [3, 14, 15, 16]), (36, 4, [1, 3, 4]), (36, 8, [1, 3, 5]), (36, 12, [1, 3, 6]), (37, 4, [1, 3, 4]), (37, 8, [1, 3, 5]), (40, 4, [3, 7, 8, 9]), (41, 4, [1, 3, 4]), (42, 4, [1, 3, 4]), (43, 4, [2, 5, 6]), (43, 8, [2, 5, 7]), (43, 13, [2, 5, 8]), (44, 5, [1, 2, 15, 16, 17]), (46, 4, [3, 5]), (47, 4, [0, 3, 4]), (48, 5, [2, 3, 4, 7]), (48, 11, [2, 3, 4, 10]), (49, 4, [1, 5, 8, 9, 10]), (51, 4, [1, 2, 3, 4]), (55, 3, [1, 2, 3, 14, 15]), (55, 9, [1, 2, 3, 8, 14, 15, 45, 46]), (55, 16, [1, 2, 3, 8, 14, 15, 80, 81]), (56, 4, [3, 6, 7, 8]), (57, 4, [3, 7, 8, 9]), (59, 4, [1, 3, 4]), (61, 5, [1, 2, 29, 30]), (64, 5, [1, 2, 20, 21]), (65, 4, [1, 2, 5, 6]), (66, 5, [1, 2, 15, 16, 17]), (68, 5, [1, 2, 15, 16, 17]), (70, 5, [1, 2, 15, 16, 17]), (73, 5, [0, 1, 2, 7]), (74, 5, [2, 3, 5]), (75, 4, [1, 5, 8, 9, 10]), (77, 4, [1, 5, 8, 9, 10]), (79, 4, [1, 5, 8, 9, 10]), (82, 4, [1, 2, 3, 4]), (83, 4, [1, 2, 3, 4]), (83, 8, [1, 2, 3, 5]), (90, 3, [1, 2, 7, 8]), (91, 5, [1, 2, 3, 19, 20]), (102, 5, [2, 3, 4, 7]), (103, 5, [2, 3, 4, 7]), (106, 4, [1, 5, 8, 9, 10]), (108, 3, [0, 3]), (119, 5, [0, 5]), (120, 3, [0, 1, 5]), (122, 5, [1, 2, 15, 16, 17]), (123, 5, [1, 2, 15, 16, 17]), (124, 5, [1, 2, 15, 16, 17]), (125, 4, [1, 5, 8, 9, 10]), (126, 4, [1, 5, 8, 9, 10])]
noncomputable def cuts : List (Nat × Nat × List Nat) := [(18, 5, [1, 3]), (31, 13, [0, 4, 5, 6, 7]), (53, 17, [1, 2, 3, 4]), (84, 14, [1, 3, 5, 7, 8]), (88, 16, [1, 3, 4, 5, 6]), (89, 18, [1, 3, 4, 5, 56, 61]), (89, 24, [3, 4, 5]), (115, 14, [5, 10]), (115, 20, [5, 18]), (118, 7, [4, 5]), (129, 5, [3])]
noncomputable def rankl : List (Nat × Nat × List Nat) := [(48, 6, [0, 1, 2, 3, 4, 8, 9, 10, 11, 12, 5, 6, 7, 13]), (48, 12, [0, 1, 2, 3, 4, 8, 9, 10, 11, 12, 5, 6, 7, 13]), (53, 3, [0, 1, 2, 3, 4, 6, 7, 8, 9, 10, 5, 11]), (53, 5, [0, 1, 3, 4, 5, 6, 7, 2, 8]), (53, 11, [0, 1, 2, 3, 4, 6, 7, 8, 9, 10, 5, 11]), (53, 13, [0, 1, 2, 3, 4, 6, 7, 8, 9, 10, 5, 11]), (53, 15, [0, 1, 2, 3, 4, 6, 7, 8, 9, 10, 5, 11]), (58, 3, [0, 1, 2, 3, 4, 6, 7, 8, 5, 9]), (58, 5, [0, 1, 2, 4, 5, 6, 3, 7]), (58, 7, [0, 1, 2, 4, 5, 6, 3, 7]), (58, 9, [0, 1, 2, 4, 5, 6, 3, 7]), (58, 12, [1, 2, 3, 0, 4]), (58, 17, [1, 2, 3, 0, 4]), (84, 2, [0, 1, 2, 3, 4, 5, 6, 7, 8, 9, 10, 23, 11, 12, 13, 14, 15, 16, 25, 26, 27, 28, 29, 30, 17, 18, 19, 20, 21, 32, 22, 24, 31, 33]), (92, 1, [0, 1, 2, 4, 5, 6, 8, 9, 10, 12, 13, 14, 3, 7, 11, 15])]
noncomputable def drawl : List (Nat × Nat × Bool × List (Option Nat)) := [(4, 1, true, [some 2, none, some 2, none, none, none, some 3, none, some 3, none, none, none, none, some 3, none, some 3, none, none, none, none, none, none, none]), (13, 1, true, [some 1, none, some 1, none, none, some 2]), (15, 1, true, [some 1, none, some 1, none, none, some 2]), (16, 6, false, [none, none, none, none, none, none, none, none, none]), (17, 5, false, [none, none, some 4, none, none, none, none, none, none]), (24, 6, false, [none, none, none, none, none, none, none, none, none, none, none]), (26, 10, true, [none, some 6, none, some 5, none, none, none, none, none, some 5, none, none, none, none, none, some 5, none, none, none, none, none, none, none, none, none, some 6]), (26, 14, true, [none, some 6, none, some 5, none, none, none, none, none, none, none, some 6]), (26, 18, true, [none, some 6, none, some 5, none, none, none, none, none, some 5, none, none, none, none, none, none, none, none, none, some 6]), (32, 9, true, [none, none, none, none, none, none, none, none, none, none, none, none, none, none, none, none, none, none, none, none, none, none, none]), (32, 13, true, [none, none, none, none, none, none, none, none, none, none, none, none, none, none, none, none, none, none, none, none, none, none, none, none, none]), (35, 1, true, [none, some 1, none, none, some 1, none, none, none]), (37, 9, true, [none, none, some 1, none, none, none, none, none, none, some 1, none, none, none, none, none, none, none]), (43, 9, false, [none, none, some 2, none, none, none, none, some 2, none, none, none, none, none, none, none, none]), (48, 6, true, [none, some 3, none, none, none, none, some 4, none, none, none, none, none, some 8, some 9]), (48, 12, true, [none, some 3, none, none, none, none, some 4, none, none, none, none, none, some 11, some 12]), (51, 5, true, [none, some 3, none, some 1, none, none, none, none, none, none, none, some 3]), (52, 1, true, [none, some 1, none, none, some 1, none, none, some 2]), (53, 3, true, [none, some 1, none, none, none, none, some 1, none, none, none, none, none]), (53, 5, true, [some 1, none, none, some 1, none, none, none, none, none]), (53, 11, true, [none, some 1, none, none, none, none, some 1, none, none, none, none, none]), (53, 13, true, [none, some 1, none, none, none, none, some 1, none, none, none, none, none]), (53, 15, true, [none, some 1, none, none, none, none, some 1, none, none, none, none, none]), (55, 5, false, [none, some 3, none, none, none, none, none, none, none, none, none, none, some 3, none, none, none, none, none, none, none]), (55, 11, false, [none, some 3, none, none, none, none, none, none, none, none, none, some 3, none, none, none, none, none, none, none, none]), (55, 18, false, [none, some 3, none, none, none, none, none, none, none, none, none, none, none, none, none, none, some 3, none, none, none, none, none, none, none, none, none, none, none]), (56, 5, true, [none, none, some 5, none, none, some 5, none, none, none]), (58, 3, true, [none, some 1, none, some 1, none, none, none, some 1, none, none]), (58, 5, true, [none, some 1, none, none, none, some 1, none, none]), (58, 7, true, [none, some 1, none, none, none, some 1, none, none]), (58, 9, true, [none, some 1, none, none, none, some 1, none, none]), (58, 12, false, [none, none, some 1, none, none]), (58, 17, false, [none, none, some 1, none, none]), (61, 1, false, [none, some 2, none, none, none, none, none, none, none, none, none, some 2, none, none, none, none, none, none, none]), (61, 6, false, [some 2, none, none, none, none, none, none, none, none]), (61, 9, false, [some 2, none, none, none, none, none, none]), (62, 1, true, [none, some 1, none, none, some 1, none, none, none]), (64, 1, false, [none, some 2, none, none, none, none, none, none, none, none]), (64, 6, false, [some 2, none, none, none, none, none, none, none, none]), (73, 6, false, [none, none, none, none, none, none, none, none, none, none, none, none, none, none, none, none, none, none, none, none, none, none, none, none, none, none, none, none]), (74, 6, false, [none, some 2, none, none, none, none, some 3, none, none, none, none, none]), (76, 1, true, [none, some 1, none, none, some 1, none, none, some 2]), (78, 1, true, [none, some 1, none, some 1, none, none, some 2]), (80, 1, true, [none, some 1, none, some 1, none, some 1, none, none, some 2]), (82, 5, true, [none, some 3, none, some 1, none, none, none, none, none, none, none, some 3]), (83, 1, true, [none, some 1, none, some 1, none, some 1, none, some 1, none, none, none, some 3]), (83, 5, true, [none, some 3, none, some 1, none, none, none, none, none, none, none, some 3]), (83, 9, true, [none, some 3, none, some 1, none, none, none, none, none, none, none, some 3]), (84, 2, false, [none, none, none, none, none, none, none, none, none, none, none, none, none, none, none, none, none, none, none, none, none, none, none, none, none, none, none, none, none, none, none, none, none, none]), (90, 4, false, [some 2, none, none, none, none, none, none, none, some 2, none, none, none, none, none, none, none]), (91, 6, false, [some 3, none, none, none, none, none, none, none, none, none]), (92, 1, false, [none, some 2, none, none, some 2, none, none, some 2, none, none, some 2, none, none, none, none, none]), (102, 6, false, [none, some 3, none, none, none, none, some 4, none, none, none, none, none, none]), (103, 6, false, [none, some 3, none, none, none, none, some 4, none, none, none, none, none, none])]
noncomputable def codes : List (Nat × Func) := [(3, Go.Proofs.Try.f3), (4, Go.Proofs.Try.f4), (5, Go.Proofs.Try.f5), (6, Go.Proofs.Try.f6), (7, Go.Proofs.Try.f7), (8, Go.Proofs.Try.f8), (9, Go.Proofs.Try.f9), (10, Go.Proofs.Try.f10), (11, Go.Proofs.Try.f11), (12, Go.Proofs.Try.f12), (13, Go.Proofs.Try.f13), (14, Go.Proofs.Try.f14), (15, Go.Proofs.Try.f15), (16, Go.Proofs.Try.f16), (17, Go.Proofs.Try.f17), (18, Go.Proofs.Try.f18), (19, Go.Proofs.Try.f19), (20, Go.Proofs.Try.f20), (21, Go.Proofs.Try.f21), (22, Go.Proofs.Try.f22), (23, Go.Proofs.Try.f23), (24, Go.Proofs.Try.f24), (25, Go.Proofs.Try.f25), (26, Go.Proofs.Try.f26), (27, Go.Proofs.Try.f27), (28, Go.Proofs.Try.f28), (29, Go.Proofs.Try.f29), (30, Go.Proofs.Try.f30), (31, Go.Proofs.Try.f31), (32, Go.Proofs.Try.f32), (33, Go.Proofs.Try.f33), (34, Go.Proofs.Try.f34), (35, Go.Proofs.Try.f35), (36, Go.Proofs.Try.f36), (37, Go.Proofs.Try.f37), (38, Go.Proofs.Try.f38), (39, Go.Proofs.Try.f39), (40, Go.Proofs.Try.f40), (41, Go.Proofs.Try.f41), (42, Go.Proofs.Try.f42), (43, Go.Proofs.Try.f43), (44, Go.Proofs.Try.f44), (45, Go.Proofs.Try.f45), (46, Go.Proofs.Try.f46), (47, Go.Proofs.Try.f47), (48, Go.Proofs.Try.f48), (49, Go.Proofs.Try.f49), (50, Go.Proofs.Try.f50), (51, Go.Proofs.Try.f51), (52, Go.Proofs.Try.f52), (53, Go.Proofs.Try.f53), (54, Go.Proofs.Try.f54), (55, Go.Proofs.Try.f55), (56, Go.Proofs.Try.f56), (57, Go.Proofs.Try.f57), (58, Go.Proofs.Try.f58), (59, Go.Proofs.Try.f59), (60, Go.Proofs.Try.f60), (61, Go.Proofs.Try.f61), (62, Go.Proofs.Try.f62), (63, Go.Proofs.Try.f63), (64, Go.Proofs.Try.f64), (65, Go.Proofs.Try.f65), (66, Go.Proofs.Try.f66), (67, Go.Proofs.Try.f67), (68, Go.Proofs.Try.f68), (69, Go.Proofs.Try.f69), (70, Go.Proofs.Try.f70), (71, Go.Proofs.Try.f71), (72, Go.Proofs.Try.f72), (73, Go.Proofs.Try.f73), (74, Go.Proofs.Try.f74), (75, Go.Proofs.Try.f75), (76, Go.Proofs.Try.f76), (77, Go.Proofs.Try.f77), (78, Go.Proofs.Try.f78), (79, Go.Proofs.Try.f79), (80, Go.Proofs.Try.f80), (81, Go.Proofs.Try.f81), (82, Go.Proofs.Try.f82), (83, Go.Proofs.Try.f83), (84, Go.Proofs.Try.f84), (85, Go.Proofs.Try.f85), (86, Go.Proofs.Try.f86), (87, Go.Proofs.Try.f87), (88, Go.Proofs.Try.f88), (89, Go.Proofs.Try.f89), (90, Go.Proofs.Try.f90), (91, Go.Proofs.Try.f91), (92, Go.Proofs.Try.f92), (93, Go.Proofs.Try.f93), (94, Go.Proofs.Try.f94), (95, Go.Proofs.Try.f95), (96, Go.Proofs.Try.f96), (97, Go.Proofs.Try.f97), (98, Go.Proofs.Try.f98), (99, Go.Proofs.Try.f99), (100, Go.Proofs.Try.f100), (101, Go.Proofs.Try.f101), (102, Go.Proofs.Try.f102), (103, Go.Proofs.Try.f103), (104, Go.Proofs.Try.f104), (105, Go.Proofs.Try.f105), (106, Go.Proofs.Try.f106), (107, Go.Proofs.Try.f107), (108, Go.Proofs.Try.f108), (110, Go.Proofs.Try.f110), (111, Go.Proofs.Try.f111), (112, Go.Proofs.Try.f112), (113, Go.Proofs.Try.f113), (114, Go.Proofs.Try.f114), (115, Go.Proofs.Try.f115), (116, Go.Proofs.Try.f116), (117, Go.Proofs.Try.f117), (118, Go.Proofs.Try.f118), (119, Go.Proofs.Try.f119), (120, Go.Proofs.Try.f120), (121, Go.Proofs.Try.f121), (122, Go.Proofs.Try.f122), (123, Go.Proofs.Try.f123), (124, Go.Proofs.Try.f124), (125, Go.Proofs.Try.f125), (126, Go.Proofs.Try.f126), (127, Go.Proofs.Try.f127), (129, Go.Proofs.Try.f129), (130, Go.Proofs.Try.f130), (131, Go.Proofs.Try.f131)]
noncomputable def exts : List (Nat × (List AV → Option AV)) := [(109, extContains)]
noncomputable def C : Cfg where
  ti t := tis.getD t {}
  mode f d := findMode f d modes
  keep f r := findKeep f r keeps
  cut f r := findCut f r cuts
  draws f r := findDraw f r drawl
  ranks f r := findKeep f r rankl
  glob _ := none
  ints := [0]
  ext f := findExt f exts
  code f := findCode f codes
noncomputable abbrev cw : CallFn := callw C
def K_80c441cf : List UInt8 := [32, 97, 110, 100, 32, 97, 110, 100, 97, 108, 115, 111, 32, 97, 115, 32, 99, 97, 115, 101, 32, 100, 97, 116, 97, 116, 121, 112, 101, 32, 100, 105, 118, 32, 101, 108, 115, 101, 32, 101, 110, 100, 32, 101, 120, 99, 101, 112, 116, 105, 111, 110, 32, 102, 110, 32, 102, 117, 110, 32, 104, 97, 110, 100, 108, 101, 32, 105, 102, 32, 105, 110, 32, 108, 101, 116, 32, 109, 111, 100, 32, 111, 102, 32, 111, 114, 101, 108, 115, 101, 32, 112, 114, 105, 110, 116, 32, 114, 97, 105, 115, 101, 32, 114, 101, 97, 100, 32, 114, 101, 102, 32, 116, 104, 101, 110, 32, 118, 97, 108, 32, 116, 114, 117, 101, 32, 102, 97, 108, 115, 101, 32, 95, 32]
abbrev T_0 : Nat := 0
abbrev T_int : Nat := 3
abbrev T_bool : Nat := 4
abbrev T_uint8 : Nat := 5
abbrev T_string : Nat := 9
abbrev T_S_Dec : Nat := 22
abbrev T_Errno : Nat := 23
abbrev T_Bad : Nat := 25
abbrev T_ExpKind : Nat := 29
abbrev T_S_Exp : Nat := 30
abbrev T_S_Case : Nat := 31
abbrev T_Exp : Nat := 33
abbrev T_PatKind : Nat := 34
abbrev T_S_Pat : Nat := 35
abbrev T_Pat : Nat := 37
abbrev T_S_string : Nat := 41
abbrev T_S_ref05_Node : Nat := 44
abbrev T_DecKind : Nat := 46
abbrev T_S_Con : Nat := 47
abbrev T_S_Fun : Nat := 48
abbrev T_Dec : Nat := 50
abbrev T_TyKind : Nat := 51
abbrev T_S_Ty : Nat := 52
abbrev T_Ty : Nat := 54
abbrev T_Case : Nat := 56
abbrev T_Fun : Nat := 58
abbrev T_Con : Nat := 60
abbrev T_ref05_Node : Nat := 62
abbrev T_P_Dec : Nat := 79
abbrev T_P_Fun : Nat := 80
abbrev T_P_Con : Nat := 81
abbrev T_P_Exp : Nat := 82
abbrev T_P_Pat : Nat := 83
abbrev T_P_Ty : Nat := 84
abbrev T_thing : Nat := 86
abbrev T_98 : Nat := 98
abbrev T_walker : Nat := 100
abbrev T_has : Nat := 143
abbrev F_law05_TreeRight : Nat := 3
abbrev F_law05_TreeAlone : Nat := 4
abbrev F_law05_TreeWithin : Nat := 5
abbrev F_law05_TreeSame : Nat := 6
abbrev F_law05_TreeSizes : Nat := 7
abbrev F_law05_TreeBare : Nat := 8
abbrev F_tree_Right : Nat := 9
abbrev F_ref05_Right : Nat := 10
abbrev F_law05_knows : Nat := 11
abbrev F_tree_RightExp : Nat := 12
abbrev F_ref05_RightExp : Nat := 13
abbrev F_tree_RightPat : Nat := 14
abbrev F_ref05_RightPat : Nat := 15
abbrev F_ref05_SameTexts : Nat := 16
abbrev F_tree_Vars : Nat := 17
abbrev F_ref05_Vars : Nat := 18
abbrev F_ref05_Of : Nat := 19
abbrev F_tree_Same : Nat := 20
abbrev F_ref05_Same : Nat := 21
abbrev F_tree_Size : Nat := 22
abbrev F_ref05_Size : Nat := 23
abbrev F_ref05_SameAll : Nat := 24
abbrev F_tree_Bare : Nat := 25
abbrev F_ref05_Bare : Nat := 26
abbrev F_tree_right : Nat := 27
abbrev F_tree_program : Nat := 28
abbrev F_tree_Right_1 : Nat := 29
abbrev F_tree_deepDecs : Nat := 30
abbrev F_ref05_first : Nat := 31
abbrev F_ref05_Deep : Nat := 32
abbrev F_tree_expression : Nat := 33
abbrev F_tree_RightExp_1 : Nat := 34
abbrev F_tree_deepExp : Nat := 35
abbrev F_ref05_OfExp : Nat := 36
abbrev F_ref05_DeepExp : Nat := 37
abbrev F_tree_pattern : Nat := 38
abbrev F_tree_RightPat_1 : Nat := 39
abbrev F_tree_deepPat : Nat := 40
abbrev F_ref05_OfPat : Nat := 41
abbrev F_ref05_deepPat : Nat := 42
abbrev F_ref05_OfDec : Nat := 43
abbrev F_slices_EqualFunc_SDec_SDec_Dec_Dec : Nat := 44
abbrev F_tree_sameDec : Nat := 45
abbrev F_tree_count : Nat := 46
abbrev F_ref05_count : Nat := 47
abbrev F_ref05_sameDec : Nat := 48
abbrev F_tree_each_Dec : Nat := 49
abbrev F_tree_bareDec : Nat := 50
abbrev F_ref05_CopyTy : Nat := 51
abbrev F_ref05_bareCase : Nat := 52
abbrev F_tree_thing_wrong : Nat := 53
abbrev F_tree_program_1 : Nat := 54
abbrev F_tree_walker_decs : Nat := 55
abbrev F_tree_deepCases : Nat := 56
abbrev F_tree_deepTy : Nat := 57
abbrev F_ref05_wrong : Nat := 58
abbrev F_ref05_deepTy : Nat := 59
abbrev F_tree_expression_1 : Nat := 60
abbrev F_tree_walker_exps : Nat := 61
abbrev F_ref05_OfCase : Nat := 62
abbrev F_tree_pattern_1 : Nat := 63
abbrev F_tree_walker_pats : Nat := 64
abbrev F_ref05_OfTy : Nat := 65
abbrev F_slices_EqualFunc_SCase_SCase_Case_Case : Nat := 66
abbrev F_tree_sameCase : Nat := 67
abbrev F_slices_EqualFunc_SFun_SFun_Fun_Fun : Nat := 68
abbrev F_tree_sameFun : Nat := 69
abbrev F_slices_EqualFunc_SCon_SCon_Con_Con : Nat := 70
abbrev F_tree_sameCon : Nat := 71
abbrev F_tree_thing_node : Nat := 72
abbrev F_ref05_sameCases : Nat := 73
abbrev F_ref05_SameTy : Nat := 74
abbrev F_tree_each_Case : Nat := 75
abbrev F_tree_bareCase : Nat := 76
abbrev F_tree_each_Fun : Nat := 77
abbrev F_tree_bareDec_1 : Nat := 78
abbrev F_tree_each_Con : Nat := 79
abbrev F_tree_bareDec_2 : Nat := 80
abbrev F_tree_bareTy : Nat := 81
abbrev F_ref05_barePat : Nat := 82
abbrev F_ref05_BareExp : Nat := 83
abbrev F_tree_thing_wrongDec : Nat := 84
abbrev F_tree_low : Nat := 85
abbrev F_tree_wrongCon : Nat := 86
abbrev F_tree_wrongExp : Nat := 87
abbrev F_tree_wrongPat : Nat := 88
abbrev F_tree_wrongTy : Nat := 89
abbrev F_tree_walker_cases : Nat := 90
abbrev F_tree_walker_types : Nat := 91
abbrev F_ref05_dec : Nat := 92
abbrev F_ref05_exp : Nat := 93
abbrev F_ref05_pat : Nat := 94
abbrev F_ref05_ty : Nat := 95
abbrev F_ref05_Low : Nat := 96
abbrev F_ref05_zeroTy : Nat := 97
abbrev F_ref05_Capital : Nat := 98
abbrev F_tree_samePat : Nat := 99
abbrev F_tree_sameExp : Nat := 100
abbrev F_tree_sameTy : Nat := 101
abbrev F_ref05_SamePat : Nat := 102
abbrev F_ref05_SameExp : Nat := 103
abbrev F_tree_barePat : Nat := 104
abbrev F_tree_bareExp : Nat := 105
abbrev F_tree_each_Ty : Nat := 106
abbrev F_tree_small : Nat := 107
abbrev F_tree_run : Nat := 108
abbrev F_strings_Contains : Nat := 109
abbrev F_tree_capital : Nat := 110
abbrev F_tree_fields : Nat := 111
abbrev F_tree_constructor : Nat := 112
abbrev F_tree_isInt : Nat := 113
abbrev F_ref05_is : Nat := 114
abbrev F_ref05_kids : Nat := 115
abbrev F_ref05_Con : Nat := 116
abbrev F_ref05_isInt : Nat := 117
abbrev F_ref05_Args : Nat := 118
abbrev F_ref05_shaped : Nat := 119
abbrev F_ref05_among : Nat := 120
abbrev F_ref05_Words : Nat := 121
abbrev F_slices_EqualFunc_SPat_SPat_Pat_Pat : Nat := 122
abbrev F_slices_EqualFunc_SExp_SExp_Exp_Exp : Nat := 123
abbrev F_slices_EqualFunc_STy_STy_Ty_Ty : Nat := 124
abbrev F_tree_each_Pat : Nat := 125
abbrev F_tree_each_Exp : Nat := 126
abbrev F_tree_great : Nat := 127
abbrev F_ref01_Wrap : Nat := 129
abbrev F_ref05_letter : Nat := 130
abbrev F_ref05_rest : Nat := 131
@[go_sem] theorem T_int_size : (C.ti T_int).size = 1 := by kernel_rfl
@[go_sem] theorem T_int_k : (C.ti T_int).k = .int .i64 := by kernel_rfl
@[go_sem] theorem T_int_agg : (C.ti T_int).isAgg = false := by kernel_rfl
@[go_sem] theorem T_int_good : (C.ti T_int).isGood = true := by kernel_rfl
@[go_sem] theorem T_int_bytes : (C.ti T_int).bytes = 8 := by kernel_rfl
@[go_sem] theorem T_int_zero : (C.ti T_int).zero = [.int .i64 0] := by kernel_rfl
@[go_sem] theorem T_bool_size : (C.ti T_bool).size = 1 := by kernel_rfl
@[go_sem] theorem T_bool_k : (C.ti T_bool).k = .bool := by kernel_rfl
@[go_sem] theorem T_bool_agg : (C.ti T_bool).isAgg = false := by kernel_rfl
@[go_sem] theorem T_bool_good : (C.ti T_bool).isGood = true := by kernel_rfl
@[go_sem] theorem T_bool_bytes : (C.ti T_bool).bytes = 1 := by kernel_rfl
@[go_sem] theorem T_bool_zero : (C.ti T_bool).zero = [.bool false] := by kernel_rfl
@[go_sem] theorem T_uint8_size : (C.ti T_uint8).size = 1 := by kernel_rfl
@[go_sem] theorem T_uint8_k : (C.ti T_uint8).k = .int .u8 := by kernel_rfl
@[go_sem] theorem T_uint8_agg : (C.ti T_uint8).isAgg = false := by kernel_rfl
@[go_sem] theorem T_uint8_good : (C.ti T_uint8).isGood = true := by kernel_rfl
@[go_sem] theorem T_uint8_bytes : (C.ti T_uint8).bytes = 1 := by kernel_rfl
@[go_sem] theorem T_uint8_zero : (C.ti T_uint8).zero = [.int .u8 0] := by kernel_rfl
@[go_sem] theorem T_string_size : (C.ti T_string).size = 1 := by kernel_rfl
@[go_sem] theorem T_string_k : (C.ti T_string).k = .str := by kernel_rfl
@[go_sem] theorem T_string_agg : (C.ti T_string).isAgg = false := by kernel_rfl
@[go_sem] theorem T_string_good : (C.ti T_string).isGood = true := by kernel_rfl
@[go_sem] theorem T_string_bytes : (C.ti T_string).bytes = 16 := by kernel_rfl
@[go_sem] theorem T_string_zero : (C.ti T_string).zero = [.str []] := by kernel_rfl
@[go_sem] theorem T_S_Dec_size : (C.ti T_S_Dec).size = 1 := by kernel_rfl
@[go_sem] theorem T_S_Dec_k : (C.ti T_S_Dec).k = .slice 50 := by kernel_rfl
@[go_sem] theorem T_S_Dec_agg : (C.ti T_S_Dec).isAgg = false := by kernel_rfl
@[go_sem] theorem T_S_Dec_good : (C.ti T_S_Dec).isGood = true := by kernel_rfl
@[go_sem] theorem T_S_Dec_bytes : (C.ti T_S_Dec).bytes = 24 := by kernel_rfl
@[go_sem] theorem T_S_Dec_zero : (C.ti T_S_Dec).zero = [.nils] := by kernel_rfl
@[go_sem] theorem T_Errno_size : (C.ti T_Errno).size = 1 := by kernel_rfl
@[go_sem] theorem T_Errno_k : (C.ti T_Errno).k = .int .i64 := by kernel_rfl
@[go_sem] theorem T_Errno_agg : (C.ti T_Errno).isAgg = false := by kernel_rfl
@[go_sem] theorem T_Errno_good : (C.ti T_Errno).isGood = true := by kernel_rfl
@[go_sem] theorem T_Errno_bytes : (C.ti T_Errno).bytes = 8 := by kernel_rfl
@[go_sem] theorem T_Errno_zero : (C.ti T_Errno).zero = [.int .i64 0] := by kernel_rfl
@[go_sem] theorem T_Bad_size : (C.ti T_Bad).size = 3 := by kernel_rfl
@[go_sem] theorem T_Bad_k : (C.ti T_Bad).k = .struct [(0, 23), (1, 3), (2, 9)] := by kernel_rfl
@[go_sem] theorem T_Bad_agg : (C.ti T_Bad).isAgg = true := by kernel_rfl
@[go_sem] theorem T_Bad_good : (C.ti T_Bad).isGood = true := by kernel_rfl
@[go_sem] theorem T_Bad_bytes : (C.ti T_Bad).bytes = 32 := by kernel_rfl
@[go_sem] theorem T_Bad_zero : (C.ti T_Bad).zero = [.int .i64 0, .int .i64 0, .str []] := by kernel_rfl
@[go_sem] theorem T_Bad_flat : (C.ti T_Bad).flat = [.int .i64, .int .i64, .str] := by kernel_rfl
@[go_sem] theorem T_ExpKind_size : (C.ti T_ExpKind).size = 1 := by kernel_rfl
@[go_sem] theorem T_ExpKind_k : (C.ti T_ExpKind).k = .int .i64 := by kernel_rfl
@[go_sem] theorem T_ExpKind_agg : (C.ti T_ExpKind).isAgg = false := by kernel_rfl
@[go_sem] theorem T_ExpKind_good : (C.ti T_ExpKind).isGood = true := by kernel_rfl
@[go_sem] theorem T_ExpKind_bytes : (C.ti T_ExpKind).bytes = 8 := by kernel_rfl
@[go_sem] theorem T_ExpKind_zero : (C.ti T_ExpKind).zero = [.int .i64 0] := by kernel_rfl
@[go_sem] theorem T_S_Exp_size : (C.ti T_S_Exp).size = 1 := by kernel_rfl
@[go_sem] theorem T_S_Exp_k : (C.ti T_S_Exp).k = .slice 33 := by kernel_rfl
@[go_sem] theorem T_S_Exp_agg : (C.ti T_S_Exp).isAgg = false := by kernel_rfl
@[go_sem] theorem T_S_Exp_good : (C.ti T_S_Exp).isGood = true := by kernel_rfl
@[go_sem] theorem T_S_Exp_bytes : (C.ti T_S_Exp).bytes = 24 := by kernel_rfl
@[go_sem] theorem T_S_Exp_zero : (C.ti T_S_Exp).zero = [.nils] := by kernel_rfl
@[go_sem] theorem T_S_Case_size : (C.ti T_S_Case).size = 1 := by kernel_rfl
@[go_sem] theorem T_S_Case_k : (C.ti T_S_Case).k = .slice 56 := by kernel_rfl
@[go_sem] theorem T_S_Case_agg : (C.ti T_S_Case).isAgg = false := by kernel_rfl
@[go_sem] theorem T_S_Case_good : (C.ti T_S_Case).isGood = true := by kernel_rfl
@[go_sem] theorem T_S_Case_bytes : (C.ti T_S_Case).bytes = 24 := by kernel_rfl
@[go_sem] theorem T_S_Case_zero : (C.ti T_S_Case).zero = [.nils] := by kernel_rfl
@[go_sem] theorem T_Exp_size : (C.ti T_Exp).size = 7 := by kernel_rfl
@[go_sem] theorem T_Exp_k : (C.ti T_Exp).k = .struct [(0, 29), (1, 3), (2, 9), (3, 3), (4, 30), (5, 31), (6, 22)] := by kernel_rfl
@[go_sem] theorem T_Exp_agg : (C.ti T_Exp).isAgg = true := by kernel_rfl
@[go_sem] theorem T_Exp_good : (C.ti T_Exp).isGood = true := by kernel_rfl
@[go_sem] theorem T_Exp_bytes : (C.ti T_Exp).bytes = 112 := by kernel_rfl
@[go_sem] theorem T_Exp_zero : (C.ti T_Exp).zero = [.int .i64 0, .int .i64 0, .str [], .int .i64 0, .nils, .nils, .nils] := by kernel_rfl
@[go_sem] theorem T_PatKind_size : (C.ti T_PatKind).size = 1 := by kernel_rfl
@[go_sem] theorem T_PatKind_k : (C.ti T_PatKind).k = .int .i64 := by kernel_rfl
@[go_sem] theorem T_PatKind_agg : (C.ti T_PatKind).isAgg = false := by kernel_rfl
@[go_sem] theorem T_PatKind_good : (C.ti T_PatKind).isGood = true := by kernel_rfl
@[go_sem] theorem T_PatKind_bytes : (C.ti T_PatKind).bytes = 8 := by kernel_rfl
@[go_sem] theorem T_PatKind_zero : (C.ti T_PatKind).zero = [.int .i64 0] := by kernel_rfl
@[go_sem] theorem T_S_Pat_size : (C.ti T_S_Pat).size = 1 := by kernel_rfl
@[go_sem] theorem T_S_Pat_k : (C.ti T_S_Pat).k = .slice 37 := by kernel_rfl
@[go_sem] theorem T_S_Pat_agg : (C.ti T_S_Pat).isAgg = false := by kernel_rfl
@[go_sem] theorem T_S_Pat_good : (C.ti T_S_Pat).isGood = true := by kernel_rfl
@[go_sem] theorem T_S_Pat_bytes : (C.ti T_S_Pat).bytes = 24 := by kernel_rfl
@[go_sem] theorem T_S_Pat_zero : (C.ti T_S_Pat).zero = [.nils] := by kernel_rfl
@[go_sem] theorem T_Pat_size : (C.ti T_Pat).size = 5 := by kernel_rfl
@[go_sem] theorem T_Pat_k : (C.ti T_Pat).k = .struct [(0, 34), (1, 3), (2, 9), (3, 3), (4, 35)] := by kernel_rfl
@[go_sem] theorem T_Pat_agg : (C.ti T_Pat).isAgg = true := by kernel_rfl
@[go_sem] theorem T_Pat_good : (C.ti T_Pat).isGood = true := by kernel_rfl
@[go_sem] theorem T_Pat_bytes : (C.ti T_Pat).bytes = 64 := by kernel_rfl
@[go_sem] theorem T_Pat_zero : (C.ti T_Pat).zero = [.int .i64 0, .int .i64 0, .str [], .int .i64 0, .nils] := by kernel_rfl
@[go_sem] theorem T_S_string_size : (C.ti T_S_string).size = 1 := by kernel_rfl
@[go_sem] theorem T_S_string_k : (C.ti T_S_string).k = .slice 9 := by kernel_rfl
@[go_sem] theorem T_S_string_agg : (C.ti T_S_string).isAgg = false := by kernel_rfl
@[go_sem] theorem T_S_string_good : (C.ti T_S_string).isGood = true := by kernel_rfl
@[go_sem] theorem T_S_string_bytes : (C.ti T_S_string).bytes = 24 := by kernel_rfl
@[go_sem] theorem T_S_string_zero : (C.ti T_S_string).zero = [.nils] := by kernel_rfl
@[go_sem] theorem T_S_ref05_Node_size : (C.ti T_S_ref05_Node).size = 1 := by kernel_rfl
@[go_sem] theorem T_S_ref05_Node_k : (C.ti T_S_ref05_Node).k = .slice 62 := by kernel_rfl
@[go_sem] theorem T_S_ref05_Node_agg : (C.ti T_S_ref05_Node).isAgg = false := by kernel_rfl
@[go_sem] theorem T_S_ref05_Node_good : (C.ti T_S_ref05_Node).isGood = true := by kernel_rfl
@[go_sem] theorem T_S_ref05_Node_bytes : (C.ti T_S_ref05_Node).bytes = 24 := by kernel_rfl
@[go_sem] theorem T_S_ref05_Node_zero : (C.ti T_S_ref05_Node).zero = [.nils] := by kernel_rfl
@[go_sem] theorem T_DecKind_size : (C.ti T_DecKind).size = 1 := by kernel_rfl
@[go_sem] theorem T_DecKind_k : (C.ti T_DecKind).k = .int .i64 := by kernel_rfl
@[go_sem] theorem T_DecKind_agg : (C.ti T_DecKind).isAgg = false := by kernel_rfl
@[go_sem] theorem T_DecKind_good : (C.ti T_DecKind).isGood = true := by kernel_rfl
@[go_sem] theorem T_DecKind_bytes : (C.ti T_DecKind).bytes = 8 := by kernel_rfl
@[go_sem] theorem T_DecKind_zero : (C.ti T_DecKind).zero = [.int .i64 0] := by kernel_rfl
@[go_sem] theorem T_S_Con_size : (C.ti T_S_Con).size = 1 := by kernel_rfl
@[go_sem] theorem T_S_Con_k : (C.ti T_S_Con).k = .slice 60 := by kernel_rfl
@[go_sem] theorem T_S_Con_agg : (C.ti T_S_Con).isAgg = false := by kernel_rfl
@[go_sem] theorem T_S_Con_good : (C.ti T_S_Con).isGood = true := by kernel_rfl
@[go_sem] theorem T_S_Con_bytes : (C.ti T_S_Con).bytes = 24 := by kernel_rfl
@[go_sem] theorem T_S_Con_zero : (C.ti T_S_Con).zero = [.nils] := by kernel_rfl
@[go_sem] theorem T_S_Fun_size : (C.ti T_S_Fun).size = 1 := by kernel_rfl
@[go_sem] theorem T_S_Fun_k : (C.ti T_S_Fun).k = .slice 58 := by kernel_rfl
@[go_sem] theorem T_S_Fun_agg : (C.ti T_S_Fun).isAgg = false := by kernel_rfl
@[go_sem] theorem T_S_Fun_good : (C.ti T_S_Fun).isGood = true := by kernel_rfl
@[go_sem] theorem T_S_Fun_bytes : (C.ti T_S_Fun).bytes = 24 := by kernel_rfl
@[go_sem] theorem T_S_Fun_zero : (C.ti T_S_Fun).zero = [.nils] := by kernel_rfl
@[go_sem] theorem T_Dec_size : (C.ti T_Dec).size = 7 := by kernel_rfl
@[go_sem] theorem T_Dec_k : (C.ti T_Dec).k = .struct [(0, 46), (1, 3), (2, 9), (3, 3), (4, 47), (5, 31), (6, 48)] := by kernel_rfl
@[go_sem] theorem T_Dec_agg : (C.ti T_Dec).isAgg = true := by kernel_rfl
@[go_sem] theorem T_Dec_good : (C.ti T_Dec).isGood = true := by kernel_rfl
@[go_sem] theorem T_Dec_bytes : (C.ti T_Dec).bytes = 112 := by kernel_rfl
@[go_sem] theorem T_Dec_zero : (C.ti T_Dec).zero = [.int .i64 0, .int .i64 0, .str [], .int .i64 0, .nils, .nils, .nils] := by kernel_rfl
@[go_sem] theorem T_TyKind_size : (C.ti T_TyKind).size = 1 := by kernel_rfl
@[go_sem] theorem T_TyKind_k : (C.ti T_TyKind).k = .int .i64 := by kernel_rfl
@[go_sem] theorem T_TyKind_agg : (C.ti T_TyKind).isAgg = false := by kernel_rfl
@[go_sem] theorem T_TyKind_good : (C.ti T_TyKind).isGood = true := by kernel_rfl
@[go_sem] theorem T_TyKind_bytes : (C.ti T_TyKind).bytes = 8 := by kernel_rfl
@[go_sem] theorem T_TyKind_zero : (C.ti T_TyKind).zero = [.int .i64 0] := by kernel_rfl
@[go_sem] theorem T_S_Ty_size : (C.ti T_S_Ty).size = 1 := by kernel_rfl
@[go_sem] theorem T_S_Ty_k : (C.ti T_S_Ty).k = .slice 54 := by kernel_rfl
@[go_sem] theorem T_S_Ty_agg : (C.ti T_S_Ty).isAgg = false := by kernel_rfl
@[go_sem] theorem T_S_Ty_good : (C.ti T_S_Ty).isGood = true := by kernel_rfl
@[go_sem] theorem T_S_Ty_bytes : (C.ti T_S_Ty).bytes = 24 := by kernel_rfl
@[go_sem] theorem T_S_Ty_zero : (C.ti T_S_Ty).zero = [.nils] := by kernel_rfl
@[go_sem] theorem T_Ty_size : (C.ti T_Ty).size = 4 := by kernel_rfl
@[go_sem] theorem T_Ty_k : (C.ti T_Ty).k = .struct [(0, 51), (1, 3), (2, 9), (3, 52)] := by kernel_rfl
@[go_sem] theorem T_Ty_agg : (C.ti T_Ty).isAgg = true := by kernel_rfl
@[go_sem] theorem T_Ty_good : (C.ti T_Ty).isGood = true := by kernel_rfl
@[go_sem] theorem T_Ty_bytes : (C.ti T_Ty).bytes = 56 := by kernel_rfl
@[go_sem] theorem T_Ty_zero : (C.ti T_Ty).zero = [.int .i64 0, .int .i64 0, .str [], .nils] := by kernel_rfl
@[go_sem] theorem T_Case_size : (C.ti T_Case).size = 12 := by kernel_rfl
@[go_sem] theorem T_Case_k : (C.ti T_Case).k = .struct [(0, 37), (5, 33)] := by kernel_rfl
@[go_sem] theorem T_Case_agg : (C.ti T_Case).isAgg = true := by kernel_rfl
@[go_sem] theorem T_Case_good : (C.ti T_Case).isGood = true := by kernel_rfl
@[go_sem] theorem T_Case_bytes : (C.ti T_Case).bytes = 176 := by kernel_rfl
@[go_sem] theorem T_Case_zero : (C.ti T_Case).zero = [.int .i64 0, .int .i64 0, .str [], .int .i64 0, .nils, .int .i64 0, .int .i64 0, .str [], .int .i64 0, .nils, .nils, .nils] := by kernel_rfl
@[go_sem] theorem T_Fun_size : (C.ti T_Fun).size = 14 := by kernel_rfl
@[go_sem] theorem T_Fun_k : (C.ti T_Fun).k = .struct [(0, 9), (1, 3), (2, 56)] := by kernel_rfl
@[go_sem] theorem T_Fun_agg : (C.ti T_Fun).isAgg = true := by kernel_rfl
@[go_sem] theorem T_Fun_good : (C.ti T_Fun).isGood = true := by kernel_rfl
@[go_sem] theorem T_Fun_bytes : (C.ti T_Fun).bytes = 200 := by kernel_rfl
@[go_sem] theorem T_Fun_zero : (C.ti T_Fun).zero = [.str [], .int .i64 0, .int .i64 0, .int .i64 0, .str [], .int .i64 0, .nils, .int .i64 0, .int .i64 0, .str [], .int .i64 0, .nils, .nils, .nils] := by kernel_rfl
@[go_sem] theorem T_Con_size : (C.ti T_Con).size = 7 := by kernel_rfl
@[go_sem] theorem T_Con_k : (C.ti T_Con).k = .struct [(0, 9), (1, 3), (2, 4), (3, 54)] := by kernel_rfl
@[go_sem] theorem T_Con_agg : (C.ti T_Con).isAgg = true := by kernel_rfl
@[go_sem] theorem T_Con_good : (C.ti T_Con).isGood = true := by kernel_rfl
@[go_sem] theorem T_Con_bytes : (C.ti T_Con).bytes = 88 := by kernel_rfl
@[go_sem] theorem T_Con_zero : (C.ti T_Con).zero = [.str [], .int .i64 0, .bool false, .int .i64 0, .int .i64 0, .str [], .nils] := by kernel_rfl
@[go_sem] theorem T_ref05_Node_size : (C.ti T_ref05_Node).size = 47 := by kernel_rfl
@[go_sem] theorem T_ref05_Node_k : (C.ti T_ref05_Node).k = .struct [(0, 3), (1, 4), (2, 3), (3, 50), (10, 33), (17, 37), (22, 54), (26, 58), (40, 60)] := by kernel_rfl
@[go_sem] theorem T_ref05_Node_agg : (C.ti T_ref05_Node).isAgg = true := by kernel_rfl
@[go_sem] theorem T_ref05_Node_good : (C.ti T_ref05_Node).isGood = true := by kernel_rfl
@[go_sem] theorem T_ref05_Node_bytes : (C.ti T_ref05_Node).bytes = 656 := by kernel_rfl
@[go_sem] theorem T_ref05_Node_zero : (C.ti T_ref05_Node).zero = [.int .i64 0, .bool false, .int .i64 0, .int .i64 0, .int .i64 0, .str [], .int .i64 0, .nils, .nils, .nils, .int .i64 0, .int .i64 0, .str [], .int .i64 0, .nils, .nils, .nils, .int .i64 0, .int .i64 0, .str [], .int .i64 0, .nils, .int .i64 0, .int .i64 0, .str [], .nils, .str [], .int .i64 0, .int .i64 0, .int .i64 0, .str [], .int .i64 0, .nils, .int .i64 0, .int .i64 0, .str [], .int .i64 0, .nils, .nils, .nils, .str [], .int .i64 0, .bool false, .int .i64 0, .int .i64 0, .str [], .nils] := by kernel_rfl
@[go_sem] theorem T_P_Dec_size : (C.ti T_P_Dec).size = 1 := by kernel_rfl
@[go_sem] theorem T_P_Dec_k : (C.ti T_P_Dec).k = .ptr := by kernel_rfl
@[go_sem] theorem T_P_Dec_agg : (C.ti T_P_Dec).isAgg = false := by kernel_rfl
@[go_sem] theorem T_P_Dec_good : (C.ti T_P_Dec).isGood = true := by kernel_rfl
@[go_sem] theorem T_P_Dec_bytes : (C.ti T_P_Dec).bytes = 8 := by kernel_rfl
@[go_sem] theorem T_P_Dec_zero : (C.ti T_P_Dec).zero = [.nilp] := by kernel_rfl
@[go_sem] theorem T_P_Fun_size : (C.ti T_P_Fun).size = 1 := by kernel_rfl
@[go_sem] theorem T_P_Fun_k : (C.ti T_P_Fun).k = .ptr := by kernel_rfl
@[go_sem] theorem T_P_Fun_agg : (C.ti T_P_Fun).isAgg = false := by kernel_rfl
@[go_sem] theorem T_P_Fun_good : (C.ti T_P_Fun).isGood = true := by kernel_rfl
@[go_sem] theorem T_P_Fun_bytes : (C.ti T_P_Fun).bytes = 8 := by kernel_rfl
@[go_sem] theorem T_P_Fun_zero : (C.ti T_P_Fun).zero = [.nilp] := by kernel_rfl
@[go_sem] theorem T_P_Con_size : (C.ti T_P_Con).size = 1 := by kernel_rfl
@[go_sem] theorem T_P_Con_k : (C.ti T_P_Con).k = .ptr := by kernel_rfl
@[go_sem] theorem T_P_Con_agg : (C.ti T_P_Con).isAgg = false := by kernel_rfl
@[go_sem] theorem T_P_Con_good : (C.ti T_P_Con).isGood = true := by kernel_rfl
@[go_sem] theorem T_P_Con_bytes : (C.ti T_P_Con).bytes = 8 := by kernel_rfl
@[go_sem] theorem T_P_Con_zero : (C.ti T_P_Con).zero = [.nilp] := by kernel_rfl
@[go_sem] theorem T_P_Exp_size : (C.ti T_P_Exp).size = 1 := by kernel_rfl
@[go_sem] theorem T_P_Exp_k : (C.ti T_P_Exp).k = .ptr := by kernel_rfl
@[go_sem] theorem T_P_Exp_agg : (C.ti T_P_Exp).isAgg = false := by kernel_rfl
@[go_sem] theorem T_P_Exp_good : (C.ti T_P_Exp).isGood = true := by kernel_rfl
@[go_sem] theorem T_P_Exp_bytes : (C.ti T_P_Exp).bytes = 8 := by kernel_rfl
@[go_sem] theorem T_P_Exp_zero : (C.ti T_P_Exp).zero = [.nilp] := by kernel_rfl
@[go_sem] theorem T_P_Pat_size : (C.ti T_P_Pat).size = 1 := by kernel_rfl
@[go_sem] theorem T_P_Pat_k : (C.ti T_P_Pat).k = .ptr := by kernel_rfl
@[go_sem] theorem T_P_Pat_agg : (C.ti T_P_Pat).isAgg = false := by kernel_rfl
@[go_sem] theorem T_P_Pat_good : (C.ti T_P_Pat).isGood = true := by kernel_rfl
@[go_sem] theorem T_P_Pat_bytes : (C.ti T_P_Pat).bytes = 8 := by kernel_rfl
@[go_sem] theorem T_P_Pat_zero : (C.ti T_P_Pat).zero = [.nilp] := by kernel_rfl
@[go_sem] theorem T_P_Ty_size : (C.ti T_P_Ty).size = 1 := by kernel_rfl
@[go_sem] theorem T_P_Ty_k : (C.ti T_P_Ty).k = .ptr := by kernel_rfl
@[go_sem] theorem T_P_Ty_agg : (C.ti T_P_Ty).isAgg = false := by kernel_rfl
@[go_sem] theorem T_P_Ty_good : (C.ti T_P_Ty).isGood = true := by kernel_rfl
@[go_sem] theorem T_P_Ty_bytes : (C.ti T_P_Ty).bytes = 8 := by kernel_rfl
@[go_sem] theorem T_P_Ty_zero : (C.ti T_P_Ty).zero = [.nilp] := by kernel_rfl
@[go_sem] theorem T_thing_size : (C.ti T_thing).size = 8 := by kernel_rfl
@[go_sem] theorem T_thing_k : (C.ti T_thing).k = .struct [(0, 79), (1, 4), (2, 80), (3, 81), (4, 82), (5, 83), (6, 84), (7, 3)] := by kernel_rfl
@[go_sem] theorem T_thing_agg : (C.ti T_thing).isAgg = true := by kernel_rfl
@[go_sem] theorem T_thing_good : (C.ti T_thing).isGood = true := by kernel_rfl
@[go_sem] theorem T_thing_bytes : (C.ti T_thing).bytes = 64 := by kernel_rfl
@[go_sem] theorem T_thing_zero : (C.ti T_thing).zero = [.nilp, .bool false, .nilp, .nilp, .nilp, .nilp, .nilp, .int .i64 0] := by kernel_rfl
@[go_sem] theorem T_98_size : (C.ti T_98).size = 1 := by kernel_rfl
@[go_sem] theorem T_98_k : (C.ti T_98).k = .func := by kernel_rfl
@[go_sem] theorem T_98_agg : (C.ti T_98).isAgg = false := by kernel_rfl
@[go_sem] theorem T_98_good : (C.ti T_98).isGood = true := by kernel_rfl
@[go_sem] theorem T_98_bytes : (C.ti T_98).bytes = 8 := by kernel_rfl
@[go_sem] theorem T_98_zero : (C.ti T_98).zero = [.nilf] := by kernel_rfl
@[go_sem] theorem T_walker_size : (C.ti T_walker).size = 1 := by kernel_rfl
@[go_sem] theorem T_walker_k : (C.ti T_walker).k = .struct [(0, 98)] := by kernel_rfl
@[go_sem] theorem T_walker_agg : (C.ti T_walker).isAgg = true := by kernel_rfl
@[go_sem] theorem T_walker_good : (C.ti T_walker).isGood = true := by kernel_rfl
@[go_sem] theorem T_walker_bytes : (C.ti T_walker).bytes = 8 := by kernel_rfl
@[go_sem] theorem T_walker_zero : (C.ti T_walker).zero = [.nilf] := by kernel_rfl
@[go_sem] theorem T_has_size : (C.ti T_has).size = 6 := by kernel_rfl
@[go_sem] theorem T_has_k : (C.ti T_has).k = .struct [(0, 4), (1, 4), (2, 4), (3, 4), (4, 3), (5, 3)] := by kernel_rfl
@[go_sem] theorem T_has_agg : (C.ti T_has).isAgg = true := by kernel_rfl
@[go_sem] theorem T_has_good : (C.ti T_has).isGood = true := by kernel_rfl
@[go_sem] theorem T_has_bytes : (C.ti T_has).bytes = 24 := by kernel_rfl
@[go_sem] theorem T_has_zero : (C.ti T_has).zero = [.bool false, .bool false, .bool false, .bool false, .int .i64 0, .int .i64 0] := by kernel_rfl
end Go.Proofs.Ytemfpnlpnmglfaa
