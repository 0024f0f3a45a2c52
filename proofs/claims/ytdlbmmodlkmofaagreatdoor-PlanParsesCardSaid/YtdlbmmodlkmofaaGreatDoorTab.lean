import Derived.Test.YtdlbmmodlkmofaaGreatDoorProg
import Derived.Test.YtdlbmmodlkmofaaGreatDoorVc9
set_option maxRecDepth 20000
namespace Go.Proofs.YtdlbmmodlkmofaaGreatDoor
open Go Go.Vc
def T : Tab := [
  (0, ⟨.other, .tup [], 0, undef, 0, false⟩),
  (2, ⟨.int .i64, .one (.int .i64), 1, .int .i64 0, 8, false⟩),
  (3, ⟨.int .i64, .one (.int .i64), 1, .int .i64 0, 8, false⟩),
  (4, ⟨.bool, .one .bool, 1, .bool false, 1, false⟩),
  (5, ⟨.int .u8, .one (.int .u8), 1, .int .u8 0, 1, false⟩),
  (9, ⟨.str, .one .str, 1, .string (⟨#[]⟩ : ByteArray), 16, false⟩),
  (23, ⟨.struct [(0, 3, 1), (1, 3, 1), (2, 3, 1), (3, 3, 1)], .agg [.int .i64, .int .i64, .int .i64, .int .i64], 4, .agg #[.int .i64 0, .int .i64 0, .int .i64 0, .int .i64 0], 32, true⟩),
  (24, ⟨.slice 41 3, .one .sl, 1, .slice none 0 0, 24, false⟩),
  (25, ⟨.slice 46 3, .one .sl, 1, .slice none 0 0, 24, false⟩),
  (27, ⟨.struct [(0, 24, 1), (1, 25, 1)], .agg [.sl, .sl], 2, .agg #[.slice none 0 0, .slice none 0 0], 48, false⟩),
  (29, ⟨.struct [(0, 23, 4), (4, 27, 2)], .agg [.int .i64, .int .i64, .int .i64, .int .i64, .sl, .sl], 6, .agg #[.int .i64 0, .int .i64 0, .int .i64 0, .int .i64 0, .slice none 0 0, .slice none 0 0], 80, false⟩),
  (32, ⟨.int .i64, .one (.int .i64), 1, .int .i64 0, 8, false⟩),
  (33, ⟨.other, .tup [(false, [.str]), (false, [.int .i64])], 0, undef, 0, false⟩),
  (36, ⟨.other, .tup [(true, [.sl, .sl]), (false, [.int .i64]), (false, [.int .i64])], 0, undef, 0, false⟩),
  (41, ⟨.struct [(0, 3, 1), (1, 3, 1), (2, 3, 1)], .agg [.int .i64, .int .i64, .int .i64], 3, .agg #[.int .i64 0, .int .i64 0, .int .i64 0], 24, true⟩),
  (43, ⟨.struct [(0, 3, 1), (1, 3, 1), (2, 3, 1)], .agg [.int .i64, .int .i64, .int .i64], 3, .agg #[.int .i64 0, .int .i64 0, .int .i64 0], 24, true⟩),
  (44, ⟨.slice 43 3, .one .sl, 1, .slice none 0 0, 24, false⟩),
  (46, ⟨.struct [(0, 3, 1), (1, 3, 1), (2, 44, 1)], .agg [.int .i64, .int .i64, .sl], 3, .agg #[.int .i64 0, .int .i64 0, .slice none 0 0], 40, false⟩),
  (48, ⟨.other, .tup [(false, [.int .i64]), (false, [.int .i64])], 0, undef, 0, false⟩),
  (50, ⟨.slice 3 1, .one .sl, 1, .slice none 0 0, 24, false⟩),
  (52, ⟨.ptr 2, .one .ptr, 1, .pointer none, 8, false⟩),
  (53, ⟨.slice 5 1, .one .sl, 1, .slice none 0 0, 24, false⟩),
  (55, ⟨.struct [(0, 52, 1), (1, 53, 1)], .agg [.ptr, .sl], 2, .agg #[.pointer none, .slice none 0 0], 32, false⟩),
  (56, ⟨.slice 9 1, .one .sl, 1, .slice none 0 0, 24, false⟩),
  (58, ⟨.iface, .one .any, 1, Value.nilIface, 16, false⟩),
  (59, ⟨.other, .tup [(false, [.int .i64]), (false, [.any])], 0, undef, 0, false⟩),
  (70, ⟨.other, .tup [(false, [.str]), (false, [.str]), (false, [.bool])], 0, undef, 0, false⟩),
  (90, ⟨.other, .tup [(true, [.int .i64, .int .i64, .int .i64]), (false, [.bool])], 0, undef, 0, false⟩),
  (92, ⟨.other, .tup [(true, [.int .i64, .int .i64, .sl]), (false, [.bool])], 0, undef, 0, false⟩),
  (94, ⟨.other, .tup [(true, [.int .i64, .int .i64, .int .i64]), (false, [.bool])], 0, undef, 0, false⟩),
  (97, ⟨.other, .tup [(false, [.int .i64]), (false, [.bool])], 0, undef, 0, false⟩),
  (109, ⟨.other, .one .any, 1, .pointer none, 8, false⟩),
  (119, ⟨.array 24 5 1, .agg [.int .u8, .int .u8, .int .u8, .int .u8, .int .u8, .int .u8, .int .u8, .int .u8, .int .u8, .int .u8, .int .u8, .int .u8, .int .u8, .int .u8, .int .u8, .int .u8, .int .u8, .int .u8, .int .u8, .int .u8, .int .u8, .int .u8, .int .u8, .int .u8], 24, .agg #[.int .u8 0, .int .u8 0, .int .u8 0, .int .u8 0, .int .u8 0, .int .u8 0, .int .u8 0, .int .u8 0, .int .u8 0, .int .u8 0, .int .u8 0, .int .u8 0, .int .u8 0, .int .u8 0, .int .u8 0, .int .u8 0, .int .u8 0, .int .u8 0, .int .u8 0, .int .u8 0, .int .u8 0, .int .u8 0, .int .u8 0, .int .u8 0], 24, false⟩),
  (120, ⟨.int .u64, .one (.int .u64), 1, .int .u64 0, 8, false⟩),
  (123, ⟨.other, .tup [(false, [.sl]), (false, [.str])], 0, undef, 0, false⟩),
  (129, ⟨.other, .tup [(false, [.int .i32]), (false, [.int .i64])], 0, undef, 0, false⟩),
  (140, ⟨.int .i64, .one (.int .i64), 1, .int .i64 0, 8, false⟩),
  (141, ⟨.other, .tup [(false, [.int .i64]), (false, [.any])], 0, undef, 0, false⟩)]
theorem T_ok : TabOk Tryz.prog T :=
  tab_cons (tok_tup _ _ _ _ _ _ _) <|
  tab_cons (tok_mk (by kernel_rfl) (by kernel_rfl) (by kernel_rfl) rfl) <|
  tab_cons (tok_mk (by kernel_rfl) (by kernel_rfl) (by kernel_rfl) rfl) <|
  tab_cons (tok_mk (by kernel_rfl) (by kernel_rfl) (by kernel_rfl) rfl) <|
  tab_cons (tok_mk (by kernel_rfl) (by kernel_rfl) (by kernel_rfl) rfl) <|
  tab_cons (tok_mk (by kernel_rfl) (by kernel_rfl) (by kernel_rfl) rfl) <|
  tab_cons (tok_eq [.int .i64, .int .i64, .int .i64, .int .i64] (by kernel_rfl) (by kernel_rfl) (by kernel_rfl) rfl (by kernel_rfl) (by kernel_rfl)) <|
  tab_cons (tok_mk (by kernel_rfl) (by kernel_rfl) (by kernel_rfl) rfl) <|
  tab_cons (tok_mk (by kernel_rfl) (by kernel_rfl) (by kernel_rfl) rfl) <|
  tab_cons (tok_mk (by kernel_rfl) (by kernel_rfl) (by kernel_rfl) rfl) <|
  tab_cons (tok_mk (by kernel_rfl) (by kernel_rfl) (by kernel_rfl) rfl) <|
  tab_cons (tok_mk (by kernel_rfl) (by kernel_rfl) (by kernel_rfl) rfl) <|
  tab_cons (tok_tup _ _ _ _ _ _ _) <|
  tab_cons (tok_tup _ _ _ _ _ _ _) <|
  tab_cons (tok_eq [.int .i64, .int .i64, .int .i64] (by kernel_rfl) (by kernel_rfl) (by kernel_rfl) rfl (by kernel_rfl) (by kernel_rfl)) <|
  tab_cons (tok_eq [.int .i64, .int .i64, .int .i64] (by kernel_rfl) (by kernel_rfl) (by kernel_rfl) rfl (by kernel_rfl) (by kernel_rfl)) <|
  tab_cons (tok_mk (by kernel_rfl) (by kernel_rfl) (by kernel_rfl) rfl) <|
  tab_cons (tok_mk (by kernel_rfl) (by kernel_rfl) (by kernel_rfl) rfl) <|
  tab_cons (tok_tup _ _ _ _ _ _ _) <|
  tab_cons (tok_mk (by kernel_rfl) (by kernel_rfl) (by kernel_rfl) rfl) <|
  tab_cons (tok_mk (by kernel_rfl) (by kernel_rfl) (by kernel_rfl) rfl) <|
  tab_cons (tok_mk (by kernel_rfl) (by kernel_rfl) (by kernel_rfl) rfl) <|
  tab_cons (tok_mk (by kernel_rfl) (by kernel_rfl) (by kernel_rfl) rfl) <|
  tab_cons (tok_mk (by kernel_rfl) (by kernel_rfl) (by kernel_rfl) rfl) <|
  tab_cons (tok_mk (by kernel_rfl) (by kernel_rfl) (by kernel_rfl) rfl) <|
  tab_cons (tok_tup _ _ _ _ _ _ _) <|
  tab_cons (tok_tup _ _ _ _ _ _ _) <|
  tab_cons (tok_tup _ _ _ _ _ _ _) <|
  tab_cons (tok_tup _ _ _ _ _ _ _) <|
  tab_cons (tok_tup _ _ _ _ _ _ _) <|
  tab_cons (tok_tup _ _ _ _ _ _ _) <|
  tab_cons (tok_mk (by kernel_rfl) (by kernel_rfl) (by kernel_rfl) rfl) <|
  tab_cons (tok_mk (by kernel_rfl) (by kernel_rfl) (by kernel_rfl) rfl) <|
  tab_cons (tok_mk (by kernel_rfl) (by kernel_rfl) (by kernel_rfl) rfl) <|
  tab_cons (tok_tup _ _ _ _ _ _ _) <|
  tab_cons (tok_tup _ _ _ _ _ _ _) <|
  tab_cons (tok_mk (by kernel_rfl) (by kernel_rfl) (by kernel_rfl) rfl) <|
  tab_cons (tok_tup _ _ _ _ _ _ _) <| tab_nil

def FL : List Nat := [5, 6, 7, 8, 9, 10, 11, 12, 13, 14, 15, 16, 17, 18, 19, 20, 21, 22, 23, 24, 25, 26, 27, 28, 29, 30, 31, 32, 33, 34, 35, 36, 37, 38, 39, 40, 41, 42, 43, 44, 45, 47, 48, 49, 50, 51, 52, 53, 54, 55, 56, 57, 58, 59, 60, 61, 62, 63, 64, 65, 66, 69, 70, 71, 72, 73, 74, 75, 76, 77, 78, 80, 81, 82, 83, 84, 88, 89, 90, 99, 100, 104]
theorem FL_ok : FOk Tryz.prog FL :=
  fl_cons ⟨Tryz.f5, Tryz.func5, by kernel_rfl, by kernel_rfl⟩ <| fl_cons ⟨Tryz.f6, Tryz.func6, by kernel_rfl, by kernel_rfl⟩ <| fl_cons ⟨Tryz.f7, Tryz.func7, by kernel_rfl, by kernel_rfl⟩ <| fl_cons ⟨Tryz.f8, Tryz.func8, by kernel_rfl, by kernel_rfl⟩ <| fl_cons ⟨Tryz.f9, Tryz.func9, by kernel_rfl, by kernel_rfl⟩ <| fl_cons ⟨Tryz.f10, Tryz.func10, by kernel_rfl, by kernel_rfl⟩ <| fl_cons ⟨Tryz.f11, Tryz.func11, by kernel_rfl, by kernel_rfl⟩ <| fl_cons ⟨Tryz.f12, Tryz.func12, by kernel_rfl, by kernel_rfl⟩ <| fl_cons ⟨Tryz.f13, Tryz.func13, by kernel_rfl, by kernel_rfl⟩ <| fl_cons ⟨Tryz.f14, Tryz.func14, by kernel_rfl, by kernel_rfl⟩ <| fl_cons ⟨Tryz.f15, Tryz.func15, by kernel_rfl, by kernel_rfl⟩ <| fl_cons ⟨Tryz.f16, Tryz.func16, by kernel_rfl, by kernel_rfl⟩ <| fl_cons ⟨Tryz.f17, Tryz.func17, by kernel_rfl, by kernel_rfl⟩ <| fl_cons ⟨Tryz.f18, Tryz.func18, by kernel_rfl, by kernel_rfl⟩ <| fl_cons ⟨Tryz.f19, Tryz.func19, by kernel_rfl, by kernel_rfl⟩ <| fl_cons ⟨Tryz.f20, Tryz.func20, by kernel_rfl, by kernel_rfl⟩ <| fl_cons ⟨Tryz.f21, Tryz.func21, by kernel_rfl, by kernel_rfl⟩ <| fl_cons ⟨Tryz.f22, Tryz.func22, by kernel_rfl, by kernel_rfl⟩ <| fl_cons ⟨Tryz.f23, Tryz.func23, by kernel_rfl, by kernel_rfl⟩ <| fl_cons ⟨Tryz.f24, Tryz.func24, by kernel_rfl, by kernel_rfl⟩ <| fl_cons ⟨Tryz.f25, Tryz.func25, by kernel_rfl, by kernel_rfl⟩ <| fl_cons ⟨Tryz.f26, Tryz.func26, by kernel_rfl, by kernel_rfl⟩ <| fl_cons ⟨Tryz.f27, Tryz.func27, by kernel_rfl, by kernel_rfl⟩ <| fl_cons ⟨Tryz.f28, Tryz.func28, by kernel_rfl, by kernel_rfl⟩ <| fl_cons ⟨Tryz.f29, Tryz.func29, by kernel_rfl, by kernel_rfl⟩ <| fl_cons ⟨Tryz.f30, Tryz.func30, by kernel_rfl, by kernel_rfl⟩ <| fl_cons ⟨Tryz.f31, Tryz.func31, by kernel_rfl, by kernel_rfl⟩ <| fl_cons ⟨Tryz.f32, Tryz.func32, by kernel_rfl, by kernel_rfl⟩ <| fl_cons ⟨Tryz.f33, Tryz.func33, by kernel_rfl, by kernel_rfl⟩ <| fl_cons ⟨Tryz.f34, Tryz.func34, by kernel_rfl, by kernel_rfl⟩ <| fl_cons ⟨Tryz.f35, Tryz.func35, by kernel_rfl, by kernel_rfl⟩ <| fl_cons ⟨Tryz.f36, Tryz.func36, by kernel_rfl, by kernel_rfl⟩ <| fl_cons ⟨Tryz.f37, Tryz.func37, by kernel_rfl, by kernel_rfl⟩ <| fl_cons ⟨Tryz.f38, Tryz.func38, by kernel_rfl, by kernel_rfl⟩ <| fl_cons ⟨Tryz.f39, Tryz.func39, by kernel_rfl, by kernel_rfl⟩ <| fl_cons ⟨Tryz.f40, Tryz.func40, by kernel_rfl, by kernel_rfl⟩ <| fl_cons ⟨Tryz.f41, Tryz.func41, by kernel_rfl, by kernel_rfl⟩ <| fl_cons ⟨Tryz.f42, Tryz.func42, by kernel_rfl, by kernel_rfl⟩ <| fl_cons ⟨Tryz.f43, Tryz.func43, by kernel_rfl, by kernel_rfl⟩ <| fl_cons ⟨Tryz.f44, Tryz.func44, by kernel_rfl, by kernel_rfl⟩ <| fl_cons ⟨Tryz.f45, Tryz.func45, by kernel_rfl, by kernel_rfl⟩ <| fl_cons ⟨Tryz.f47, Tryz.func47, by kernel_rfl, by kernel_rfl⟩ <| fl_cons ⟨Tryz.f48, Tryz.func48, by kernel_rfl, by kernel_rfl⟩ <| fl_cons ⟨Tryz.f49, Tryz.func49, by kernel_rfl, by kernel_rfl⟩ <| fl_cons ⟨Tryz.f50, Tryz.func50, by kernel_rfl, by kernel_rfl⟩ <| fl_cons ⟨Tryz.f51, Tryz.func51, by kernel_rfl, by kernel_rfl⟩ <| fl_cons ⟨Tryz.f52, Tryz.func52, by kernel_rfl, by kernel_rfl⟩ <| fl_cons ⟨Tryz.f53, Tryz.func53, by kernel_rfl, by kernel_rfl⟩ <| fl_cons ⟨Tryz.f54, Tryz.func54, by kernel_rfl, by kernel_rfl⟩ <| fl_cons ⟨Tryz.f55, Tryz.func55, by kernel_rfl, by kernel_rfl⟩ <| fl_cons ⟨Tryz.f56, Tryz.func56, by kernel_rfl, by kernel_rfl⟩ <| fl_cons ⟨Tryz.f57, Tryz.func57, by kernel_rfl, by kernel_rfl⟩ <| fl_cons ⟨Tryz.f58, Tryz.func58, by kernel_rfl, by kernel_rfl⟩ <| fl_cons ⟨Tryz.f59, Tryz.func59, by kernel_rfl, by kernel_rfl⟩ <| fl_cons ⟨Tryz.f60, Tryz.func60, by kernel_rfl, by kernel_rfl⟩ <| fl_cons ⟨Tryz.f61, Tryz.func61, by kernel_rfl, by kernel_rfl⟩ <| fl_cons ⟨Tryz.f62, Tryz.func62, by kernel_rfl, by kernel_rfl⟩ <| fl_cons ⟨Tryz.f63, Tryz.func63, by kernel_rfl, by kernel_rfl⟩ <| fl_cons ⟨Tryz.f64, Tryz.func64, by kernel_rfl, by kernel_rfl⟩ <| fl_cons ⟨Tryz.f65, Tryz.func65, by kernel_rfl, by kernel_rfl⟩ <| fl_cons ⟨Tryz.f66, Tryz.func66, by kernel_rfl, by kernel_rfl⟩ <| fl_cons ⟨Tryz.f69, Tryz.func69, by kernel_rfl, by kernel_rfl⟩ <| fl_cons ⟨Tryz.f70, Tryz.func70, by kernel_rfl, by kernel_rfl⟩ <| fl_cons ⟨Tryz.f71, Tryz.func71, by kernel_rfl, by kernel_rfl⟩ <| fl_cons ⟨Tryz.f72, Tryz.func72, by kernel_rfl, by kernel_rfl⟩ <| fl_cons ⟨Tryz.f73, Tryz.func73, by kernel_rfl, by kernel_rfl⟩ <| fl_cons ⟨Tryz.f74, Tryz.func74, by kernel_rfl, by kernel_rfl⟩ <| fl_cons ⟨Tryz.f75, Tryz.func75, by kernel_rfl, by kernel_rfl⟩ <| fl_cons ⟨Tryz.f76, Tryz.func76, by kernel_rfl, by kernel_rfl⟩ <| fl_cons ⟨Tryz.f77, Tryz.func77, by kernel_rfl, by kernel_rfl⟩ <| fl_cons ⟨Tryz.f78, Tryz.func78, by kernel_rfl, by kernel_rfl⟩ <| fl_cons ⟨Tryz.f80, Tryz.func80, by kernel_rfl, by kernel_rfl⟩ <| fl_cons ⟨Tryz.f81, Tryz.func81, by kernel_rfl, by kernel_rfl⟩ <| fl_cons ⟨Tryz.f82, Tryz.func82, by kernel_rfl, by kernel_rfl⟩ <| fl_cons ⟨Tryz.f83, Tryz.func83, by kernel_rfl, by kernel_rfl⟩ <| fl_cons ⟨Tryz.f84, Tryz.func84, by kernel_rfl, by kernel_rfl⟩ <| fl_cons ⟨Tryz.f88, Tryz.func88, by kernel_rfl, by kernel_rfl⟩ <| fl_cons ⟨Tryz.f89, Tryz.func89, by kernel_rfl, by kernel_rfl⟩ <| fl_cons ⟨Tryz.f90, Tryz.func90, by kernel_rfl, by kernel_rfl⟩ <| fl_cons ⟨Tryz.f99, Tryz.func99, by kernel_rfl, by kernel_rfl⟩ <| fl_cons ⟨Tryz.f100, Tryz.func100, by kernel_rfl, by kernel_rfl⟩ <| fl_cons ⟨Tryz.f104, Tryz.func104, by kernel_rfl, by kernel_rfl⟩ <| fl_nil
theorem mixed : Tryz.prog.follows .mixedOrders = true := by kernel_rfl
end Go.Proofs.YtdlbmmodlkmofaaGreatDoor
