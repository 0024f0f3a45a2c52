import Derived.Test.YtglidaifbpjpgaaDoorProg
import Derived.Test.YtglidaifbpjpgaaDoorVc9
set_option maxRecDepth 20000
namespace Go.Proofs.YtglidaifbpjpgaaDoor
open Go Go.Vc
def T : Tab := [
  (0, ⟨.other, .tup [], 0, undef, 0, false⟩),
  (2, ⟨.int .i64, .one (.int .i64), 1, .int .i64 0, 8, false⟩),
  (3, ⟨.int .i64, .one (.int .i64), 1, .int .i64 0, 8, false⟩),
  (4, ⟨.bool, .one .bool, 1, .bool false, 1, false⟩),
  (5, ⟨.int .u8, .one (.int .u8), 1, .int .u8 0, 1, false⟩),
  (9, ⟨.str, .one .str, 1, .string (⟨#[]⟩ : ByteArray), 16, false⟩),
  (22, ⟨.int .i64, .one (.int .i64), 1, .int .i64 0, 8, false⟩),
  (23, ⟨.other, .tup [(false, [.str]), (false, [.int .i64])], 0, undef, 0, false⟩),
  (27, ⟨.slice 96 8, .one .sl, 1, .slice none 0 0, 24, false⟩),
  (28, ⟨.slice 3 1, .one .sl, 1, .slice none 0 0, 24, false⟩),
  (30, ⟨.other, .tup [(false, [.int .i64]), (false, [.int .i64])], 0, undef, 0, false⟩),
  (34, ⟨.ptr 4, .one .ptr, 1, .pointer none, 8, false⟩),
  (35, ⟨.other, .tup [(false, [.ptr]), (false, [.int .i64])], 0, undef, 0, false⟩),
  (37, ⟨.ptr 4, .one .ptr, 1, .pointer none, 8, false⟩),
  (38, ⟨.other, .tup [(false, [.ptr]), (false, [.int .i64])], 0, undef, 0, false⟩),
  (46, ⟨.slice 50 4, .one .sl, 1, .slice none 0 0, 24, false⟩),
  (48, ⟨.struct [(0, 28, 1), (1, 28, 1), (2, 46, 1)], .agg [.sl, .sl, .sl], 3, .agg #[.slice none 0 0, .slice none 0 0, .slice none 0 0], 72, false⟩),
  (50, ⟨.struct [(0, 3, 1), (1, 4, 1), (2, 3, 1), (3, 3, 1)], .agg [.int .i64, .bool, .int .i64, .int .i64], 4, .agg #[.int .i64 0, .bool false, .int .i64 0, .int .i64 0], 32, true⟩),
  (57, ⟨.struct [(0, 28, 1), (1, 28, 1), (2, 3, 1), (3, 3, 1)], .agg [.sl, .sl, .int .i64, .int .i64], 4, .agg #[.slice none 0 0, .slice none 0 0, .int .i64 0, .int .i64 0], 64, false⟩),
  (58, ⟨.slice 34 1, .one .sl, 1, .slice none 0 0, 24, false⟩),
  (60, ⟨.other, .one .any, 1, Value.nilFunc, 8, false⟩),
  (64, ⟨.struct [(0, 3, 1), (1, 3, 1), (2, 3, 1), (3, 3, 1)], .agg [.int .i64, .int .i64, .int .i64, .int .i64], 4, .agg #[.int .i64 0, .int .i64 0, .int .i64 0, .int .i64 0], 32, true⟩),
  (68, ⟨.struct [(0, 64, 4), (4, 3, 1), (5, 3, 1), (6, 3, 1), (7, 3, 1), (8, 3, 1), (9, 3, 1), (10, 66, 6)], .agg [.int .i64, .int .i64, .int .i64, .int .i64, .int .i64, .int .i64, .int .i64, .int .i64, .int .i64, .int .i64, .int .i64, .int .i64, .int .i64, .int .i64, .int .i64, .int .i64], 16, .agg #[.int .i64 0, .int .i64 0, .int .i64 0, .int .i64 0, .int .i64 0, .int .i64 0, .int .i64 0, .int .i64 0, .int .i64 0, .int .i64 0, .int .i64 0, .int .i64 0, .int .i64 0, .int .i64 0, .int .i64 0, .int .i64 0], 128, true⟩),
  (69, ⟨.slice 123 6, .one .sl, 1, .slice none 0 0, 24, false⟩),
  (71, ⟨.struct [(0, 68, 16), (16, 69, 1)], .agg [.int .i64, .int .i64, .int .i64, .int .i64, .int .i64, .int .i64, .int .i64, .int .i64, .int .i64, .int .i64, .int .i64, .int .i64, .int .i64, .int .i64, .int .i64, .int .i64, .sl], 17, .agg #[.int .i64 0, .int .i64 0, .int .i64 0, .int .i64 0, .int .i64 0, .int .i64 0, .int .i64 0, .int .i64 0, .int .i64 0, .int .i64 0, .int .i64 0, .int .i64 0, .int .i64 0, .int .i64 0, .int .i64 0, .int .i64 0, .slice none 0 0], 152, false⟩),
  (72, ⟨.slice 91 18, .one .sl, 1, .slice none 0 0, 24, false⟩),
  (75, ⟨.struct [(0, 72, 1), (1, 73, 1)], .agg [.sl, .sl], 2, .agg #[.slice none 0 0, .slice none 0 0], 48, false⟩),
  (77, ⟨.struct [(0, 71, 17), (17, 75, 2)], .agg [.int .i64, .int .i64, .int .i64, .int .i64, .int .i64, .int .i64, .int .i64, .int .i64, .int .i64, .int .i64, .int .i64, .int .i64, .int .i64, .int .i64, .int .i64, .int .i64, .sl, .sl, .sl], 19, .agg #[.int .i64 0, .int .i64 0, .int .i64 0, .int .i64 0, .int .i64 0, .int .i64 0, .int .i64 0, .int .i64 0, .int .i64 0, .int .i64 0, .int .i64 0, .int .i64 0, .int .i64 0, .int .i64 0, .int .i64 0, .int .i64 0, .slice none 0 0, .slice none 0 0, .slice none 0 0], 200, false⟩),
  (79, ⟨.struct [(0, 3, 1), (1, 3, 1), (2, 3, 1), (3, 3, 1), (4, 3, 1), (5, 3, 1), (6, 3, 1), (7, 3, 1), (8, 3, 1), (9, 3, 1), (10, 3, 1), (11, 3, 1), (12, 3, 1), (13, 3, 1), (14, 3, 1)], .agg [.int .i64, .int .i64, .int .i64, .int .i64, .int .i64, .int .i64, .int .i64, .int .i64, .int .i64, .int .i64, .int .i64, .int .i64, .int .i64, .int .i64, .int .i64], 15, .agg #[.int .i64 0, .int .i64 0, .int .i64 0, .int .i64 0, .int .i64 0, .int .i64 0, .int .i64 0, .int .i64 0, .int .i64 0, .int .i64 0, .int .i64 0, .int .i64 0, .int .i64 0, .int .i64 0, .int .i64 0], 120, true⟩),
  (80, ⟨.other, .tup [(true, [.int .i64, .int .i64, .int .i64, .int .i64, .int .i64, .int .i64, .int .i64, .int .i64, .int .i64, .int .i64, .int .i64, .int .i64, .int .i64, .int .i64, .int .i64]), (false, [.int .i64])], 0, undef, 0, false⟩),
  (83, ⟨.slice 93 4, .one .sl, 1, .slice none 0 0, 24, false⟩),
  (84, ⟨.slice 132 1, .one .sl, 1, .slice none 0 0, 24, false⟩),
  (85, ⟨.int .u64, .one (.int .u64), 1, .int .u64 0, 8, false⟩),
  (89, ⟨.struct [(0, 3, 1), (1, 3, 1), (2, 3, 1), (3, 3, 1), (4, 3, 1), (5, 28, 1)], .agg [.int .i64, .int .i64, .int .i64, .int .i64, .int .i64, .sl], 6, .agg #[.int .i64 0, .int .i64 0, .int .i64 0, .int .i64 0, .int .i64 0, .slice none 0 0], 64, false⟩),
  (91, ⟨.struct [(0, 83, 1), (1, 84, 1), (2, 3, 1), (3, 4, 1), (4, 87, 8), (12, 89, 6)], .agg [.sl, .sl, .int .i64, .bool, .int .u64, .int .u64, .int .u64, .int .i64, .int .i64, .int .i64, .int .i64, .bool, .int .i64, .int .i64, .int .i64, .int .i64, .int .i64, .sl], 18, .agg #[.slice none 0 0, .slice none 0 0, .int .i64 0, .bool false, .int .u64 0, .int .u64 0, .int .u64 0, .int .i64 0, .int .i64 0, .int .i64 0, .int .i64 0, .bool false, .int .i64 0, .int .i64 0, .int .i64 0, .int .i64 0, .int .i64 0, .slice none 0 0], 192, false⟩),
  (93, ⟨.struct [(0, 3, 1), (1, 3, 1), (2, 3, 1), (3, 4, 1)], .agg [.int .i64, .int .i64, .int .i64, .bool], 4, .agg #[.int .i64 0, .int .i64 0, .int .i64 0, .bool false], 32, true⟩),
  (96, ⟨.struct [(0, 3, 1), (1, 9, 1), (2, 9, 1), (3, 22, 1), (4, 4, 1), (5, 3, 1), (6, 3, 1), (7, 3, 1)], .agg [.int .i64, .str, .str, .int .i64, .bool, .int .i64, .int .i64, .int .i64], 8, .agg #[.int .i64 0, .string (⟨#[]⟩ : ByteArray), .string (⟨#[]⟩ : ByteArray), .int .i64 0, .bool false, .int .i64 0, .int .i64 0, .int .i64 0], 80, true⟩),
  (99, ⟨.struct [(0, 28, 1), (1, 28, 1), (2, 3, 1), (3, 3, 1)], .agg [.sl, .sl, .int .i64, .int .i64], 4, .agg #[.slice none 0 0, .slice none 0 0, .int .i64 0, .int .i64 0], 64, false⟩),
  (100, ⟨.other, .tup [(false, [.int .i64]), (false, [.bool])], 0, undef, 0, false⟩),
  (102, ⟨.other, .tup [(false, [.sl]), (false, [.sl])], 0, undef, 0, false⟩),
  (104, ⟨.other, .tup [(false, [.sl]), (false, [.int .i64])], 0, undef, 0, false⟩),
  (106, ⟨.map, .one .map, 1, .map none, 8, false⟩),
  (108, ⟨.other, .tup ((false, []) :: [(true, List.replicate 57 .str), (true, List.replicate 58 .str), (true, List.replicate 59 .str), (true, List.replicate 60 .str), (true, List.replicate 61 .str)]), 0, undef, 0, false⟩),
  (113, ⟨.slice 5 1, .one .sl, 1, .slice none 0 0, 24, false⟩),
  (114, ⟨.int .u64, .one (.int .u64), 1, .int .u64 0, 8, false⟩),
  (115, ⟨.other, .tup [(false, [.sl]), (false, [.bool])], 0, undef, 0, false⟩),
  (117, ⟨.slice 130 1, .one .sl, 1, .slice none 0 0, 24, false⟩),
  (123, ⟨.struct [(0, 117, 1), (1, 28, 1), (2, 118, 1), (3, 121, 3)], .agg [.sl, .sl, .sl, .int .i64, .int .i64, .sl], 6, .agg #[.slice none 0 0, .slice none 0 0, .slice none 0 0, .int .i64 0, .int .i64 0, .slice none 0 0], 112, false⟩),
  (127, ⟨.slice 129 3, .one .sl, 1, .slice none 0 0, 24, false⟩),
  (129, ⟨.struct [(0, 3, 1), (1, 3, 1), (2, 4, 1)], .agg [.int .i64, .int .i64, .bool], 3, .agg #[.int .i64 0, .int .i64 0, .bool false], 24, true⟩),
  (130, ⟨.slice 137 3, .one .sl, 1, .slice none 0 0, 24, false⟩),
  (132, ⟨.slice 134 3, .one .sl, 1, .slice none 0 0, 24, false⟩),
  (134, ⟨.struct [(0, 22, 1), (1, 4, 1), (2, 9, 1)], .agg [.int .i64, .bool, .str], 3, .agg #[.int .i64 0, .bool false, .string (⟨#[]⟩ : ByteArray)], 32, true⟩),
  (137, ⟨.struct [(0, 3, 1), (1, 9, 1), (2, 9, 1)], .agg [.int .i64, .str, .str], 3, .agg #[.int .i64 0, .string (⟨#[]⟩ : ByteArray), .string (⟨#[]⟩ : ByteArray)], 40, true⟩),
  (140, ⟨.array 24 5 1, .agg [.int .u8, .int .u8, .int .u8, .int .u8, .int .u8, .int .u8, .int .u8, .int .u8, .int .u8, .int .u8, .int .u8, .int .u8, .int .u8, .int .u8, .int .u8, .int .u8, .int .u8, .int .u8, .int .u8, .int .u8, .int .u8, .int .u8, .int .u8, .int .u8], 24, .agg #[.int .u8 0, .int .u8 0, .int .u8 0, .int .u8 0, .int .u8 0, .int .u8 0, .int .u8 0, .int .u8 0, .int .u8 0, .int .u8 0, .int .u8 0, .int .u8 0, .int .u8 0, .int .u8 0, .int .u8 0, .int .u8 0, .int .u8 0, .int .u8 0, .int .u8 0, .int .u8 0, .int .u8 0, .int .u8 0, .int .u8 0, .int .u8 0], 24, false⟩),
  (143, ⟨.other, .tup [(false, [.sl]), (false, [.str])], 0, undef, 0, false⟩),
  (146, ⟨.array 20 85 1, .agg [.int .u64, .int .u64, .int .u64, .int .u64, .int .u64, .int .u64, .int .u64, .int .u64, .int .u64, .int .u64, .int .u64, .int .u64, .int .u64, .int .u64, .int .u64, .int .u64, .int .u64, .int .u64, .int .u64, .int .u64], 20, .agg #[.int .u64 0, .int .u64 0, .int .u64 0, .int .u64 0, .int .u64 0, .int .u64 0, .int .u64 0, .int .u64 0, .int .u64 0, .int .u64 0, .int .u64 0, .int .u64 0, .int .u64 0, .int .u64 0, .int .u64 0, .int .u64 0, .int .u64 0, .int .u64 0, .int .u64 0, .int .u64 0], 160, false⟩)]
theorem T_ok : TabOk Tryd.prog T :=
  tab_cons (tok_tup _ _ _ _ _ _ _) <|
  tab_cons (tok_mk (by kernel_rfl) (by kernel_rfl) (by kernel_rfl) rfl) <|
  tab_cons (tok_mk (by kernel_rfl) (by kernel_rfl) (by kernel_rfl) rfl) <|
  tab_cons (tok_mk (by kernel_rfl) (by kernel_rfl) (by kernel_rfl) rfl) <|
  tab_cons (tok_mk (by kernel_rfl) (by kernel_rfl) (by kernel_rfl) rfl) <|
  tab_cons (tok_mk (by kernel_rfl) (by kernel_rfl) (by kernel_rfl) rfl) <|
  tab_cons (tok_mk (by kernel_rfl) (by kernel_rfl) (by kernel_rfl) rfl) <|
  tab_cons (tok_tup _ _ _ _ _ _ _) <|
  tab_cons (tok_mk (by kernel_rfl) (by kernel_rfl) (by kernel_rfl) rfl) <|
  tab_cons (tok_mk (by kernel_rfl) (by kernel_rfl) (by kernel_rfl) rfl) <|
  tab_cons (tok_tup _ _ _ _ _ _ _) <|
  tab_cons (tok_mk (by kernel_rfl) (by kernel_rfl) (by kernel_rfl) rfl) <|
  tab_cons (tok_tup _ _ _ _ _ _ _) <|
  tab_cons (tok_mk (by kernel_rfl) (by kernel_rfl) (by kernel_rfl) rfl) <|
  tab_cons (tok_tup _ _ _ _ _ _ _) <|
  tab_cons (tok_mk (by kernel_rfl) (by kernel_rfl) (by kernel_rfl) rfl) <|
  tab_cons (tok_mk (by kernel_rfl) (by kernel_rfl) (by kernel_rfl) rfl) <|
  tab_cons (tok_eq [.int .i64, .bool, .int .i64, .int .i64] (by kernel_rfl) (by kernel_rfl) (by kernel_rfl) rfl (by kernel_rfl) (by kernel_rfl)) <|
  tab_cons (tok_mk (by kernel_rfl) (by kernel_rfl) (by kernel_rfl) rfl) <|
  tab_cons (tok_mk (by kernel_rfl) (by kernel_rfl) (by kernel_rfl) rfl) <|
  tab_cons (tok_mk (by kernel_rfl) (by kernel_rfl) (by kernel_rfl) rfl) <|
  tab_cons (tok_eq [.int .i64, .int .i64, .int .i64, .int .i64] (by kernel_rfl) (by kernel_rfl) (by kernel_rfl) rfl (by kernel_rfl) (by kernel_rfl)) <|
  tab_cons (tok_eq [.int .i64, .int .i64, .int .i64, .int .i64, .int .i64, .int .i64, .int .i64, .int .i64, .int .i64, .int .i64, .int .i64, .int .i64, .int .i64, .int .i64, .int .i64, .int .i64] (by kernel_rfl) (by kernel_rfl) (by kernel_rfl) rfl (by kernel_rfl) (by kernel_rfl)) <|
  tab_cons (tok_mk (by kernel_rfl) (by kernel_rfl) (by kernel_rfl) rfl) <|
  tab_cons (tok_mk (by kernel_rfl) (by kernel_rfl) (by kernel_rfl) rfl) <|
  tab_cons (tok_mk (by kernel_rfl) (by kernel_rfl) (by kernel_rfl) rfl) <|
  tab_cons (tok_mk (by kernel_rfl) (by kernel_rfl) (by kernel_rfl) rfl) <|
  tab_cons (tok_mk (by kernel_rfl) (by kernel_rfl) (by kernel_rfl) rfl) <|
  tab_cons (tok_eq [.int .i64, .int .i64, .int .i64, .int .i64, .int .i64, .int .i64, .int .i64, .int .i64, .int .i64, .int .i64, .int .i64, .int .i64, .int .i64, .int .i64, .int .i64] (by kernel_rfl) (by kernel_rfl) (by kernel_rfl) rfl (by kernel_rfl) (by kernel_rfl)) <|
  tab_cons (tok_tup _ _ _ _ _ _ _) <|
  tab_cons (tok_mk (by kernel_rfl) (by kernel_rfl) (by kernel_rfl) rfl) <|
  tab_cons (tok_mk (by kernel_rfl) (by kernel_rfl) (by kernel_rfl) rfl) <|
  tab_cons (tok_mk (by kernel_rfl) (by kernel_rfl) (by kernel_rfl) rfl) <|
  tab_cons (tok_mk (by kernel_rfl) (by kernel_rfl) (by kernel_rfl) rfl) <|
  tab_cons (tok_mk (by kernel_rfl) (by kernel_rfl) (by kernel_rfl) rfl) <|
  tab_cons (tok_eq [.int .i64, .int .i64, .int .i64, .bool] (by kernel_rfl) (by kernel_rfl) (by kernel_rfl) rfl (by kernel_rfl) (by kernel_rfl)) <|
  tab_cons (tok_eq [.int .i64, .str, .str, .int .i64, .bool, .int .i64, .int .i64, .int .i64] (by kernel_rfl) (by kernel_rfl) (by kernel_rfl) rfl (by kernel_rfl) (by kernel_rfl)) <|
  tab_cons (tok_mk (by kernel_rfl) (by kernel_rfl) (by kernel_rfl) rfl) <|
  tab_cons (tok_tup _ _ _ _ _ _ _) <|
  tab_cons (tok_tup _ _ _ _ _ _ _) <|
  tab_cons (tok_tup _ _ _ _ _ _ _) <|
  tab_cons (tok_mk (by kernel_rfl) (by kernel_rfl) (by kernel_rfl) rfl) <|
  tab_cons (tok_tup _ _ _ _ _ _ _) <|
  tab_cons (tok_mk (by kernel_rfl) (by kernel_rfl) (by kernel_rfl) rfl) <|
  tab_cons (tok_mk (by kernel_rfl) (by kernel_rfl) (by kernel_rfl) rfl) <|
  tab_cons (tok_tup _ _ _ _ _ _ _) <|
  tab_cons (tok_mk (by kernel_rfl) (by kernel_rfl) (by kernel_rfl) rfl) <|
  tab_cons (tok_mk (by kernel_rfl) (by kernel_rfl) (by kernel_rfl) rfl) <|
  tab_cons (tok_mk (by kernel_rfl) (by kernel_rfl) (by kernel_rfl) rfl) <|
  tab_cons (tok_eq [.int .i64, .int .i64, .bool] (by kernel_rfl) (by kernel_rfl) (by kernel_rfl) rfl (by kernel_rfl) (by kernel_rfl)) <|
  tab_cons (tok_mk (by kernel_rfl) (by kernel_rfl) (by kernel_rfl) rfl) <|
  tab_cons (tok_mk (by kernel_rfl) (by kernel_rfl) (by kernel_rfl) rfl) <|
  tab_cons (tok_eq [.int .i64, .bool, .str] (by kernel_rfl) (by kernel_rfl) (by kernel_rfl) rfl (by kernel_rfl) (by kernel_rfl)) <|
  tab_cons (tok_eq [.int .i64, .str, .str] (by kernel_rfl) (by kernel_rfl) (by kernel_rfl) rfl (by kernel_rfl) (by kernel_rfl)) <|
  tab_cons (tok_mk (by kernel_rfl) (by kernel_rfl) (by kernel_rfl) rfl) <|
  tab_cons (tok_tup _ _ _ _ _ _ _) <|
  tab_cons (tok_mk (by kernel_rfl) (by kernel_rfl) (by kernel_rfl) rfl) <| tab_nil

def FL : List Nat := [10, 11, 12, 13, 14, 15, 16, 17, 18, 19, 20, 21, 22, 23, 24, 25, 26, 27, 28, 29, 30, 31, 32, 33, 34, 35, 36, 37, 38, 39, 40, 41, 42, 43, 44, 45, 46, 47, 48, 49, 50, 51, 52, 53, 54, 55, 56, 57, 58, 59, 60, 61, 62, 63, 64, 65, 66, 67, 68, 69, 70, 71, 72, 73, 74, 75]
theorem FL_ok : FOk Tryd.prog FL :=
  fl_cons ⟨Tryd.f10, Tryd.func10, by kernel_rfl, by kernel_rfl⟩ <| fl_cons ⟨Tryd.f11, Tryd.func11, by kernel_rfl, by kernel_rfl⟩ <| fl_cons ⟨Tryd.f12, Tryd.func12, by kernel_rfl, by kernel_rfl⟩ <| fl_cons ⟨Tryd.f13, Tryd.func13, by kernel_rfl, by kernel_rfl⟩ <| fl_cons ⟨Tryd.f14, Tryd.func14, by kernel_rfl, by kernel_rfl⟩ <| fl_cons ⟨Tryd.f15, Tryd.func15, by kernel_rfl, by kernel_rfl⟩ <| fl_cons ⟨Tryd.f16, Tryd.func16, by kernel_rfl, by kernel_rfl⟩ <| fl_cons ⟨Tryd.f17, Tryd.func17, by kernel_rfl, by kernel_rfl⟩ <| fl_cons ⟨Tryd.f18, Tryd.func18, by kernel_rfl, by kernel_rfl⟩ <| fl_cons ⟨Tryd.f19, Tryd.func19, by kernel_rfl, by kernel_rfl⟩ <| fl_cons ⟨Tryd.f20, Tryd.func20, by kernel_rfl, by kernel_rfl⟩ <| fl_cons ⟨Tryd.f21, Tryd.func21, by kernel_rfl, by kernel_rfl⟩ <| fl_cons ⟨Tryd.f22, Tryd.func22, by kernel_rfl, by kernel_rfl⟩ <| fl_cons ⟨Tryd.f23, Tryd.func23, by kernel_rfl, by kernel_rfl⟩ <| fl_cons ⟨Tryd.f24, Tryd.func24, by kernel_rfl, by kernel_rfl⟩ <| fl_cons ⟨Tryd.f25, Tryd.func25, by kernel_rfl, by kernel_rfl⟩ <| fl_cons ⟨Tryd.f26, Tryd.func26, by kernel_rfl, by kernel_rfl⟩ <| fl_cons ⟨Tryd.f27, Tryd.func27, by kernel_rfl, by kernel_rfl⟩ <| fl_cons ⟨Tryd.f28, Tryd.func28, by kernel_rfl, by kernel_rfl⟩ <| fl_cons ⟨Tryd.f29, Tryd.func29, by kernel_rfl, by kernel_rfl⟩ <| fl_cons ⟨Tryd.f30, Tryd.func30, by kernel_rfl, by kernel_rfl⟩ <| fl_cons ⟨Tryd.f31, Tryd.func31, by kernel_rfl, by kernel_rfl⟩ <| fl_cons ⟨Tryd.f32, Tryd.func32, by kernel_rfl, by kernel_rfl⟩ <| fl_cons ⟨Tryd.f33, Tryd.func33, by kernel_rfl, by kernel_rfl⟩ <| fl_cons ⟨Tryd.f34, Tryd.func34, by kernel_rfl, by kernel_rfl⟩ <| fl_cons ⟨Tryd.f35, Tryd.func35, by kernel_rfl, by kernel_rfl⟩ <| fl_cons ⟨Tryd.f36, Tryd.func36, by kernel_rfl, by kernel_rfl⟩ <| fl_cons ⟨Tryd.f37, Tryd.func37, by kernel_rfl, by kernel_rfl⟩ <| fl_cons ⟨Tryd.f38, Tryd.func38, by kernel_rfl, by kernel_rfl⟩ <| fl_cons ⟨Tryd.f39, Tryd.func39, by kernel_rfl, by kernel_rfl⟩ <| fl_cons ⟨Tryd.f40, Tryd.func40, by kernel_rfl, by kernel_rfl⟩ <| fl_cons ⟨Tryd.f41, Tryd.func41, by kernel_rfl, by kernel_rfl⟩ <| fl_cons ⟨Tryd.f42, Tryd.func42, by kernel_rfl, by kernel_rfl⟩ <| fl_cons ⟨Tryd.f43, Tryd.func43, by kernel_rfl, by kernel_rfl⟩ <| fl_cons ⟨Tryd.f44, Tryd.func44, by kernel_rfl, by kernel_rfl⟩ <| fl_cons ⟨Tryd.f45, Tryd.func45, by kernel_rfl, by kernel_rfl⟩ <| fl_cons ⟨Tryd.f46, Tryd.func46, by kernel_rfl, by kernel_rfl⟩ <| fl_cons ⟨Tryd.f47, Tryd.func47, by kernel_rfl, by kernel_rfl⟩ <| fl_cons ⟨Tryd.f48, Tryd.func48, by kernel_rfl, by kernel_rfl⟩ <| fl_cons ⟨Tryd.f49, Tryd.func49, by kernel_rfl, by kernel_rfl⟩ <| fl_cons ⟨Tryd.f50, Tryd.func50, by kernel_rfl, by kernel_rfl⟩ <| fl_cons ⟨Tryd.f51, Tryd.func51, by kernel_rfl, by kernel_rfl⟩ <| fl_cons ⟨Tryd.f52, Tryd.func52, by kernel_rfl, by kernel_rfl⟩ <| fl_cons ⟨Tryd.f53, Tryd.func53, by kernel_rfl, by kernel_rfl⟩ <| fl_cons ⟨Tryd.f54, Tryd.func54, by kernel_rfl, by kernel_rfl⟩ <| fl_cons ⟨Tryd.f55, Tryd.func55, by kernel_rfl, by kernel_rfl⟩ <| fl_cons ⟨Tryd.f56, Tryd.func56, by kernel_rfl, by kernel_rfl⟩ <| fl_cons ⟨Tryd.f57, Tryd.func57, by kernel_rfl, by kernel_rfl⟩ <| fl_cons ⟨Tryd.f58, Tryd.func58, by kernel_rfl, by kernel_rfl⟩ <| fl_cons ⟨Tryd.f59, Tryd.func59, by kernel_rfl, by kernel_rfl⟩ <| fl_cons ⟨Tryd.f60, Tryd.func60, by kernel_rfl, by kernel_rfl⟩ <| fl_cons ⟨Tryd.f61, Tryd.func61, by kernel_rfl, by kernel_rfl⟩ <| fl_cons ⟨Tryd.f62, Tryd.func62, by kernel_rfl, by kernel_rfl⟩ <| fl_cons ⟨Tryd.f63, Tryd.func63, by kernel_rfl, by kernel_rfl⟩ <| fl_cons ⟨Tryd.f64, Tryd.func64, by kernel_rfl, by kernel_rfl⟩ <| fl_cons ⟨Tryd.f65, Tryd.func65, by kernel_rfl, by kernel_rfl⟩ <| fl_cons ⟨Tryd.f66, Tryd.func66, by kernel_rfl, by kernel_rfl⟩ <| fl_cons ⟨Tryd.f67, Tryd.func67, by kernel_rfl, by kernel_rfl⟩ <| fl_cons ⟨Tryd.f68, Tryd.func68, by kernel_rfl, by kernel_rfl⟩ <| fl_cons ⟨Tryd.f69, Tryd.func69, by kernel_rfl, by kernel_rfl⟩ <| fl_cons ⟨Tryd.f70, Tryd.func70, by kernel_rfl, by kernel_rfl⟩ <| fl_cons ⟨Tryd.f71, Tryd.func71, by kernel_rfl, by kernel_rfl⟩ <| fl_cons ⟨Tryd.f72, Tryd.func72, by kernel_rfl, by kernel_rfl⟩ <| fl_cons ⟨Tryd.f73, Tryd.func73, by kernel_rfl, by kernel_rfl⟩ <| fl_cons ⟨Tryd.f74, Tryd.func74, by kernel_rfl, by kernel_rfl⟩ <| fl_cons ⟨Tryd.f75, Tryd.func75, by kernel_rfl, by kernel_rfl⟩ <| fl_nil
theorem mixed : Tryd.prog.follows .mixedOrders = true := by kernel_rfl
end Go.Proofs.YtglidaifbpjpgaaDoor
