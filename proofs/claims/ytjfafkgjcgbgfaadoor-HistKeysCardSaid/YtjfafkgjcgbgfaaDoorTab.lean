import Derived.Test.YtjfafkgjcgbgfaaDoorProg
import Derived.Test.YtjfafkgjcgbgfaaDoorVc9
set_option maxRecDepth 20000
namespace Go.Proofs.YtjfafkgjcgbgfaaDoor
open Go Go.Vc
def T : Tab := [
  (0, ⟨.other, .tup [], 0, undef, 0, false⟩),
  (3, ⟨.int .i64, .one (.int .i64), 1, .int .i64 0, 8, false⟩),
  (4, ⟨.bool, .one .bool, 1, .bool false, 1, false⟩),
  (5, ⟨.int .u8, .one (.int .u8), 1, .int .u8 0, 1, false⟩),
  (9, ⟨.str, .one .str, 1, .string (⟨#[]⟩ : ByteArray), 16, false⟩),
  (23, ⟨.slice 33 8, .one .sl, 1, .slice none 0 0, 24, false⟩),
  (25, ⟨.int .i64, .one (.int .i64), 1, .int .i64 0, 8, false⟩),
  (26, ⟨.other, .tup [(false, [.int .i64]), (false, [.int .i64])], 0, undef, 0, false⟩),
  (33, ⟨.struct [(0, 3, 1), (1, 9, 1), (2, 9, 1), (3, 25, 1), (4, 4, 1), (5, 3, 1), (6, 3, 1), (7, 3, 1)], .agg [.int .i64, .str, .str, .int .i64, .bool, .int .i64, .int .i64, .int .i64], 8, .agg #[.int .i64 0, .string (⟨#[]⟩ : ByteArray), .string (⟨#[]⟩ : ByteArray), .int .i64 0, .bool false, .int .i64 0, .int .i64 0, .int .i64 0], 80, true⟩),
  (41, ⟨.slice 87 6, .one .sl, 1, .slice none 0 0, 24, false⟩),
  (43, ⟨.struct [(0, 40, 16), (16, 41, 1)], .agg [.int .i64, .int .i64, .int .i64, .int .i64, .int .i64, .int .i64, .int .i64, .int .i64, .int .i64, .int .i64, .int .i64, .int .i64, .int .i64, .int .i64, .int .i64, .int .i64, .sl], 17, .agg #[.int .i64 0, .int .i64 0, .int .i64 0, .int .i64 0, .int .i64 0, .int .i64 0, .int .i64 0, .int .i64 0, .int .i64 0, .int .i64 0, .int .i64 0, .int .i64 0, .int .i64 0, .int .i64 0, .int .i64 0, .int .i64 0, .slice none 0 0], 152, false⟩),
  (44, ⟨.slice 61 18, .one .sl, 1, .slice none 0 0, 24, false⟩),
  (47, ⟨.struct [(0, 44, 1), (1, 45, 1)], .agg [.sl, .sl], 2, .agg #[.slice none 0 0, .slice none 0 0], 48, false⟩),
  (49, ⟨.struct [(0, 43, 17), (17, 47, 2)], .agg [.int .i64, .int .i64, .int .i64, .int .i64, .int .i64, .int .i64, .int .i64, .int .i64, .int .i64, .int .i64, .int .i64, .int .i64, .int .i64, .int .i64, .int .i64, .int .i64, .sl, .sl, .sl], 19, .agg #[.int .i64 0, .int .i64 0, .int .i64 0, .int .i64 0, .int .i64 0, .int .i64 0, .int .i64 0, .int .i64 0, .int .i64 0, .int .i64 0, .int .i64 0, .int .i64 0, .int .i64 0, .int .i64 0, .int .i64 0, .int .i64 0, .slice none 0 0, .slice none 0 0, .slice none 0 0], 200, false⟩),
  (50, ⟨.other, .tup [(false, [.sl]), (false, [.int .i64])], 0, undef, 0, false⟩),
  (52, ⟨.slice 63 4, .one .sl, 1, .slice none 0 0, 24, false⟩),
  (53, ⟨.slice 115 1, .one .sl, 1, .slice none 0 0, 24, false⟩),
  (57, ⟨.slice 3 1, .one .sl, 1, .slice none 0 0, 24, false⟩),
  (61, ⟨.struct [(0, 52, 1), (1, 53, 1), (2, 3, 1), (3, 4, 1), (4, 56, 8), (12, 59, 6)], .agg [.sl, .sl, .int .i64, .bool, .int .u64, .int .u64, .int .u64, .int .i64, .int .i64, .int .i64, .int .i64, .bool, .int .i64, .int .i64, .int .i64, .int .i64, .int .i64, .sl], 18, .agg #[.slice none 0 0, .slice none 0 0, .int .i64 0, .bool false, .int .u64 0, .int .u64 0, .int .u64 0, .int .i64 0, .int .i64 0, .int .i64 0, .int .i64 0, .bool false, .int .i64 0, .int .i64 0, .int .i64 0, .int .i64 0, .int .i64 0, .slice none 0 0], 192, false⟩),
  (63, ⟨.struct [(0, 3, 1), (1, 3, 1), (2, 3, 1), (3, 4, 1)], .agg [.int .i64, .int .i64, .int .i64, .bool], 4, .agg #[.int .i64 0, .int .i64 0, .int .i64 0, .bool false], 32, true⟩),
  (65, ⟨.other, .tup [(false, [.str]), (false, [.int .i64])], 0, undef, 0, false⟩),
  (67, ⟨.other, .tup [(false, [.sl]), (false, [.int .i64]), (false, [.int .i64])], 0, undef, 0, false⟩),
  (69, ⟨.slice 9 1, .one .sl, 1, .slice none 0 0, 24, false⟩),
  (73, ⟨.other, .one .any, 1, Value.nilFunc, 8, false⟩),
  (79, ⟨.other, .tup [(false, [.sl]), (false, [.bool])], 0, undef, 0, false⟩),
  (81, ⟨.slice 113 1, .one .sl, 1, .slice none 0 0, 24, false⟩),
  (87, ⟨.struct [(0, 81, 1), (1, 57, 1), (2, 82, 1), (3, 85, 3)], .agg [.sl, .sl, .sl, .int .i64, .int .i64, .sl], 6, .agg #[.slice none 0 0, .slice none 0 0, .slice none 0 0, .int .i64 0, .int .i64 0, .slice none 0 0], 112, false⟩),
  (89, ⟨.slice 5 1, .one .sl, 1, .slice none 0 0, 24, false⟩),
  (91, ⟨.struct [(0, 88, 1), (1, 89, 1)], .agg [.ptr, .sl], 2, .agg #[.pointer none, .slice none 0 0], 32, false⟩),
  (93, ⟨.iface, .one .any, 1, Value.nilIface, 16, false⟩),
  (94, ⟨.other, .tup [(false, [.int .i64]), (false, [.any])], 0, undef, 0, false⟩),
  (99, ⟨.other, .tup [(false, [.str]), (false, [.str]), (false, [.bool])], 0, undef, 0, false⟩),
  (101, ⟨.other, .tup [(true, [.int .i64, .str, .str, .int .i64, .bool, .int .i64, .int .i64, .int .i64]), (false, [.bool])], 0, undef, 0, false⟩),
  (103, ⟨.map, .one .map, 1, .map none, 8, false⟩),
  (107, ⟨.other, .one .any, 1, Value.nilFunc, 8, false⟩),
  (110, ⟨.slice 112 3, .one .sl, 1, .slice none 0 0, 24, false⟩),
  (112, ⟨.struct [(0, 3, 1), (1, 3, 1), (2, 4, 1)], .agg [.int .i64, .int .i64, .bool], 3, .agg #[.int .i64 0, .int .i64 0, .bool false], 24, true⟩),
  (113, ⟨.slice 120 3, .one .sl, 1, .slice none 0 0, 24, false⟩),
  (115, ⟨.slice 117 3, .one .sl, 1, .slice none 0 0, 24, false⟩),
  (117, ⟨.struct [(0, 25, 1), (1, 4, 1), (2, 9, 1)], .agg [.int .i64, .bool, .str], 3, .agg #[.int .i64 0, .bool false, .string (⟨#[]⟩ : ByteArray)], 32, true⟩),
  (120, ⟨.struct [(0, 3, 1), (1, 9, 1), (2, 9, 1)], .agg [.int .i64, .str, .str], 3, .agg #[.int .i64 0, .string (⟨#[]⟩ : ByteArray), .string (⟨#[]⟩ : ByteArray)], 40, true⟩),
  (129, ⟨.struct [(0, 69, 1), (1, 4, 1)], .agg [.sl, .bool], 2, .agg #[.slice none 0 0, .bool false], 32, false⟩)]
theorem T_ok : TabOk Tryd.prog T :=
  tab_cons (tok_tup _ _ _ _ _ _ _) <|
  tab_cons (tok_mk (by kernel_rfl) (by kernel_rfl) (by kernel_rfl) rfl) <|
  tab_cons (tok_mk (by kernel_rfl) (by kernel_rfl) (by kernel_rfl) rfl) <|
  tab_cons (tok_mk (by kernel_rfl) (by kernel_rfl) (by kernel_rfl) rfl) <|
  tab_cons (tok_mk (by kernel_rfl) (by kernel_rfl) (by kernel_rfl) rfl) <|
  tab_cons (tok_mk (by kernel_rfl) (by kernel_rfl) (by kernel_rfl) rfl) <|
  tab_cons (tok_mk (by kernel_rfl) (by kernel_rfl) (by kernel_rfl) rfl) <|
  tab_cons (tok_tup _ _ _ _ _ _ _) <|
  tab_cons (tok_eq [.int .i64, .str, .str, .int .i64, .bool, .int .i64, .int .i64, .int .i64] (by kernel_rfl) (by kernel_rfl) (by kernel_rfl) rfl (by kernel_rfl) (by kernel_rfl)) <|
  tab_cons (tok_mk (by kernel_rfl) (by kernel_rfl) (by kernel_rfl) rfl) <|
  tab_cons (tok_mk (by kernel_rfl) (by kernel_rfl) (by kernel_rfl) rfl) <|
  tab_cons (tok_mk (by kernel_rfl) (by kernel_rfl) (by kernel_rfl) rfl) <|
  tab_cons (tok_mk (by kernel_rfl) (by kernel_rfl) (by kernel_rfl) rfl) <|
  tab_cons (tok_mk (by kernel_rfl) (by kernel_rfl) (by kernel_rfl) rfl) <|
  tab_cons (tok_tup _ _ _ _ _ _ _) <|
  tab_cons (tok_mk (by kernel_rfl) (by kernel_rfl) (by kernel_rfl) rfl) <|
  tab_cons (tok_mk (by kernel_rfl) (by kernel_rfl) (by kernel_rfl) rfl) <|
  tab_cons (tok_mk (by kernel_rfl) (by kernel_rfl) (by kernel_rfl) rfl) <|
  tab_cons (tok_mk (by kernel_rfl) (by kernel_rfl) (by kernel_rfl) rfl) <|
  tab_cons (tok_eq [.int .i64, .int .i64, .int .i64, .bool] (by kernel_rfl) (by kernel_rfl) (by kernel_rfl) rfl (by kernel_rfl) (by kernel_rfl)) <|
  tab_cons (tok_tup _ _ _ _ _ _ _) <|
  tab_cons (tok_tup _ _ _ _ _ _ _) <|
  tab_cons (tok_mk (by kernel_rfl) (by kernel_rfl) (by kernel_rfl) rfl) <|
  tab_cons (tok_mk (by kernel_rfl) (by kernel_rfl) (by kernel_rfl) rfl) <|
  tab_cons (tok_tup _ _ _ _ _ _ _) <|
  tab_cons (tok_mk (by kernel_rfl) (by kernel_rfl) (by kernel_rfl) rfl) <|
  tab_cons (tok_mk (by kernel_rfl) (by kernel_rfl) (by kernel_rfl) rfl) <|
  tab_cons (tok_mk (by kernel_rfl) (by kernel_rfl) (by kernel_rfl) rfl) <|
  tab_cons (tok_mk (by kernel_rfl) (by kernel_rfl) (by kernel_rfl) rfl) <|
  tab_cons (tok_mk (by kernel_rfl) (by kernel_rfl) (by kernel_rfl) rfl) <|
  tab_cons (tok_tup _ _ _ _ _ _ _) <|
  tab_cons (tok_tup _ _ _ _ _ _ _) <|
  tab_cons (tok_tup _ _ _ _ _ _ _) <|
  tab_cons (tok_mk (by kernel_rfl) (by kernel_rfl) (by kernel_rfl) rfl) <|
  tab_cons (tok_mk (by kernel_rfl) (by kernel_rfl) (by kernel_rfl) rfl) <|
  tab_cons (tok_mk (by kernel_rfl) (by kernel_rfl) (by kernel_rfl) rfl) <|
  tab_cons (tok_eq [.int .i64, .int .i64, .bool] (by kernel_rfl) (by kernel_rfl) (by kernel_rfl) rfl (by kernel_rfl) (by kernel_rfl)) <|
  tab_cons (tok_mk (by kernel_rfl) (by kernel_rfl) (by kernel_rfl) rfl) <|
  tab_cons (tok_mk (by kernel_rfl) (by kernel_rfl) (by kernel_rfl) rfl) <|
  tab_cons (tok_eq [.int .i64, .bool, .str] (by kernel_rfl) (by kernel_rfl) (by kernel_rfl) rfl (by kernel_rfl) (by kernel_rfl)) <|
  tab_cons (tok_eq [.int .i64, .str, .str] (by kernel_rfl) (by kernel_rfl) (by kernel_rfl) rfl (by kernel_rfl) (by kernel_rfl)) <|
  tab_cons (tok_mk (by kernel_rfl) (by kernel_rfl) (by kernel_rfl) rfl) <| tab_nil

def FL : List Nat := [10, 11, 12, 13, 14, 15, 16, 17, 18, 19, 20, 21, 22, 23, 24, 25, 26, 27, 28, 29, 30, 31, 32, 33, 34, 35, 36, 37, 38, 39, 40, 41, 42, 43, 45, 46, 47, 48, 49, 50, 51, 53, 54, 55, 56, 57, 58, 64, 68, 69]
theorem FL_ok : FOk Tryd.prog FL :=
  fl_cons ⟨Tryd.f10, Tryd.func10, by kernel_rfl, by kernel_rfl⟩ <| fl_cons ⟨Tryd.f11, Tryd.func11, by kernel_rfl, by kernel_rfl⟩ <| fl_cons ⟨Tryd.f12, Tryd.func12, by kernel_rfl, by kernel_rfl⟩ <| fl_cons ⟨Tryd.f13, Tryd.func13, by kernel_rfl, by kernel_rfl⟩ <| fl_cons ⟨Tryd.f14, Tryd.func14, by kernel_rfl, by kernel_rfl⟩ <| fl_cons ⟨Tryd.f15, Tryd.func15, by kernel_rfl, by kernel_rfl⟩ <| fl_cons ⟨Tryd.f16, Tryd.func16, by kernel_rfl, by kernel_rfl⟩ <| fl_cons ⟨Tryd.f17, Tryd.func17, by kernel_rfl, by kernel_rfl⟩ <| fl_cons ⟨Tryd.f18, Tryd.func18, by kernel_rfl, by kernel_rfl⟩ <| fl_cons ⟨Tryd.f19, Tryd.func19, by kernel_rfl, by kernel_rfl⟩ <| fl_cons ⟨Tryd.f20, Tryd.func20, by kernel_rfl, by kernel_rfl⟩ <| fl_cons ⟨Tryd.f21, Tryd.func21, by kernel_rfl, by kernel_rfl⟩ <| fl_cons ⟨Tryd.f22, Tryd.func22, by kernel_rfl, by kernel_rfl⟩ <| fl_cons ⟨Tryd.f23, Tryd.func23, by kernel_rfl, by kernel_rfl⟩ <| fl_cons ⟨Tryd.f24, Tryd.func24, by kernel_rfl, by kernel_rfl⟩ <| fl_cons ⟨Tryd.f25, Tryd.func25, by kernel_rfl, by kernel_rfl⟩ <| fl_cons ⟨Tryd.f26, Tryd.func26, by kernel_rfl, by kernel_rfl⟩ <| fl_cons ⟨Tryd.f27, Tryd.func27, by kernel_rfl, by kernel_rfl⟩ <| fl_cons ⟨Tryd.f28, Tryd.func28, by kernel_rfl, by kernel_rfl⟩ <| fl_cons ⟨Tryd.f29, Tryd.func29, by kernel_rfl, by kernel_rfl⟩ <| fl_cons ⟨Tryd.f30, Tryd.func30, by kernel_rfl, by kernel_rfl⟩ <| fl_cons ⟨Tryd.f31, Tryd.func31, by kernel_rfl, by kernel_rfl⟩ <| fl_cons ⟨Tryd.f32, Tryd.func32, by kernel_rfl, by kernel_rfl⟩ <| fl_cons ⟨Tryd.f33, Tryd.func33, by kernel_rfl, by kernel_rfl⟩ <| fl_cons ⟨Tryd.f34, Tryd.func34, by kernel_rfl, by kernel_rfl⟩ <| fl_cons ⟨Tryd.f35, Tryd.func35, by kernel_rfl, by kernel_rfl⟩ <| fl_cons ⟨Tryd.f36, Tryd.func36, by kernel_rfl, by kernel_rfl⟩ <| fl_cons ⟨Tryd.f37, Tryd.func37, by kernel_rfl, by kernel_rfl⟩ <| fl_cons ⟨Tryd.f38, Tryd.func38, by kernel_rfl, by kernel_rfl⟩ <| fl_cons ⟨Tryd.f39, Tryd.func39, by kernel_rfl, by kernel_rfl⟩ <| fl_cons ⟨Tryd.f40, Tryd.func40, by kernel_rfl, by kernel_rfl⟩ <| fl_cons ⟨Tryd.f41, Tryd.func41, by kernel_rfl, by kernel_rfl⟩ <| fl_cons ⟨Tryd.f42, Tryd.func42, by kernel_rfl, by kernel_rfl⟩ <| fl_cons ⟨Tryd.f43, Tryd.func43, by kernel_rfl, by kernel_rfl⟩ <| fl_cons ⟨Tryd.f45, Tryd.func45, by kernel_rfl, by kernel_rfl⟩ <| fl_cons ⟨Tryd.f46, Tryd.func46, by kernel_rfl, by kernel_rfl⟩ <| fl_cons ⟨Tryd.f47, Tryd.func47, by kernel_rfl, by kernel_rfl⟩ <| fl_cons ⟨Tryd.f48, Tryd.func48, by kernel_rfl, by kernel_rfl⟩ <| fl_cons ⟨Tryd.f49, Tryd.func49, by kernel_rfl, by kernel_rfl⟩ <| fl_cons ⟨Tryd.f50, Tryd.func50, by kernel_rfl, by kernel_rfl⟩ <| fl_cons ⟨Tryd.f51, Tryd.func51, by kernel_rfl, by kernel_rfl⟩ <| fl_cons ⟨Tryd.f53, Tryd.func53, by kernel_rfl, by kernel_rfl⟩ <| fl_cons ⟨Tryd.f54, Tryd.func54, by kernel_rfl, by kernel_rfl⟩ <| fl_cons ⟨Tryd.f55, Tryd.func55, by kernel_rfl, by kernel_rfl⟩ <| fl_cons ⟨Tryd.f56, Tryd.func56, by kernel_rfl, by kernel_rfl⟩ <| fl_cons ⟨Tryd.f57, Tryd.func57, by kernel_rfl, by kernel_rfl⟩ <| fl_cons ⟨Tryd.f58, Tryd.func58, by kernel_rfl, by kernel_rfl⟩ <| fl_cons ⟨Tryd.f64, Tryd.func64, by kernel_rfl, by kernel_rfl⟩ <| fl_cons ⟨Tryd.f68, Tryd.func68, by kernel_rfl, by kernel_rfl⟩ <| fl_cons ⟨Tryd.f69, Tryd.func69, by kernel_rfl, by kernel_rfl⟩ <| fl_nil
theorem mixed : Tryd.prog.follows .mixedOrders = true := by kernel_rfl
end Go.Proofs.YtjfafkgjcgbgfaaDoor
