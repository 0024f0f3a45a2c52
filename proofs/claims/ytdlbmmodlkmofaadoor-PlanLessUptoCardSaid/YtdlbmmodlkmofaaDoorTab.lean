import Derived.Test.YtdlbmmodlkmofaaDoorProg
import Derived.Test.YtdlbmmodlkmofaaDoorVc9
set_option maxRecDepth 20000
namespace Go.Proofs.YtdlbmmodlkmofaaDoor
open Go Go.Vc
def T : Tab := [
  (0, ⟨.other, .tup [], 0, undef, 0, false⟩),
  (3, ⟨.int .i64, .one (.int .i64), 1, .int .i64 0, 8, false⟩),
  (4, ⟨.bool, .one .bool, 1, .bool false, 1, false⟩),
  (9, ⟨.str, .one .str, 1, .string (⟨#[]⟩ : ByteArray), 16, false⟩),
  (24, ⟨.struct [(0, 3, 1), (1, 3, 1), (2, 3, 1), (3, 3, 1)], .agg [.int .i64, .int .i64, .int .i64, .int .i64], 4, .agg #[.int .i64 0, .int .i64 0, .int .i64 0, .int .i64 0], 32, true⟩),
  (25, ⟨.slice 37 3, .one .sl, 1, .slice none 0 0, 24, false⟩),
  (26, ⟨.slice 42 3, .one .sl, 1, .slice none 0 0, 24, false⟩),
  (28, ⟨.struct [(0, 25, 1), (1, 26, 1)], .agg [.sl, .sl], 2, .agg #[.slice none 0 0, .slice none 0 0], 48, false⟩),
  (30, ⟨.struct [(0, 24, 4), (4, 28, 2)], .agg [.int .i64, .int .i64, .int .i64, .int .i64, .sl, .sl], 6, .agg #[.int .i64 0, .int .i64 0, .int .i64 0, .int .i64 0, .slice none 0 0, .slice none 0 0], 80, false⟩),
  (32, ⟨.int .i64, .one (.int .i64), 1, .int .i64 0, 8, false⟩),
  (37, ⟨.struct [(0, 3, 1), (1, 3, 1), (2, 3, 1)], .agg [.int .i64, .int .i64, .int .i64], 3, .agg #[.int .i64 0, .int .i64 0, .int .i64 0], 24, true⟩),
  (38, ⟨.other, .tup [(true, [.int .i64, .int .i64, .int .i64]), (false, [.bool])], 0, undef, 0, false⟩),
  (40, ⟨.slice 44 3, .one .sl, 1, .slice none 0 0, 24, false⟩),
  (42, ⟨.struct [(0, 3, 1), (1, 3, 1), (2, 40, 1)], .agg [.int .i64, .int .i64, .sl], 3, .agg #[.int .i64 0, .int .i64 0, .slice none 0 0], 40, false⟩),
  (44, ⟨.struct [(0, 3, 1), (1, 3, 1), (2, 3, 1)], .agg [.int .i64, .int .i64, .int .i64], 3, .agg #[.int .i64 0, .int .i64 0, .int .i64 0], 24, true⟩),
  (47, ⟨.slice 3 1, .one .sl, 1, .slice none 0 0, 24, false⟩),
  (49, ⟨.struct [(0, 47, 1), (1, 47, 1), (2, 3, 1), (3, 3, 1)], .agg [.sl, .sl, .int .i64, .int .i64], 4, .agg #[.slice none 0 0, .slice none 0 0, .int .i64 0, .int .i64 0], 64, false⟩),
  (50, ⟨.other, .tup [(false, [.int .i64]), (false, [.int .i64])], 0, undef, 0, false⟩),
  (52, ⟨.other, .tup [(false, [.sl]), (false, [.int .i64])], 0, undef, 0, false⟩),
  (57, ⟨.other, .one .any, 1, Value.nilFunc, 8, false⟩),
  (59, ⟨.slice 40 1, .one .sl, 1, .slice none 0 0, 24, false⟩),
  (60, ⟨.slice 28 2, .one .sl, 1, .slice none 0 0, 24, false⟩),
  (63, ⟨.other, .one .any, 1, Value.nilFunc, 8, false⟩),
  (69, ⟨.other, .tup [(false, [.str]), (false, [.int .i64])], 0, undef, 0, false⟩),
  (76, ⟨.other, .one (.fn 40), 1, Value.nilFunc, 8, false⟩),
  (85, ⟨.other, .tup [(true, [.int .i64, .int .i64, .int .i64]), (false, [.bool])], 0, undef, 0, false⟩),
  (97, ⟨.other, .one (.fn 63), 1, Value.nilFunc, 8, false⟩),
  (103, ⟨.struct [(0, 100, 1), (1, 101, 1)], .agg [.ptr, .sl], 2, .agg #[.pointer none, .slice none 0 0], 32, false⟩),
  (104, ⟨.slice 9 1, .one .sl, 1, .slice none 0 0, 24, false⟩),
  (107, ⟨.other, .tup [(false, [.int .i64]), (false, [.any])], 0, undef, 0, false⟩),
  (145, ⟨.int .u64, .one (.int .u64), 1, .int .u64 0, 8, false⟩)]
theorem T_ok : TabOk Tryd.prog T :=
  tab_cons (tok_tup _ _ _ _ _ _ _) <|
  tab_cons (tok_mk (by kernel_rfl) (by kernel_rfl) (by kernel_rfl) rfl) <|
  tab_cons (tok_mk (by kernel_rfl) (by kernel_rfl) (by kernel_rfl) rfl) <|
  tab_cons (tok_mk (by kernel_rfl) (by kernel_rfl) (by kernel_rfl) rfl) <|
  tab_cons (tok_eq [.int .i64, .int .i64, .int .i64, .int .i64] (by kernel_rfl) (by kernel_rfl) (by kernel_rfl) rfl (by kernel_rfl) (by kernel_rfl)) <|
  tab_cons (tok_mk (by kernel_rfl) (by kernel_rfl) (by kernel_rfl) rfl) <|
  tab_cons (tok_mk (by kernel_rfl) (by kernel_rfl) (by kernel_rfl) rfl) <|
  tab_cons (tok_mk (by kernel_rfl) (by kernel_rfl) (by kernel_rfl) rfl) <|
  tab_cons (tok_mk (by kernel_rfl) (by kernel_rfl) (by kernel_rfl) rfl) <|
  tab_cons (tok_mk (by kernel_rfl) (by kernel_rfl) (by kernel_rfl) rfl) <|
  tab_cons (tok_eq [.int .i64, .int .i64, .int .i64] (by kernel_rfl) (by kernel_rfl) (by kernel_rfl) rfl (by kernel_rfl) (by kernel_rfl)) <|
  tab_cons (tok_tup _ _ _ _ _ _ _) <|
  tab_cons (tok_mk (by kernel_rfl) (by kernel_rfl) (by kernel_rfl) rfl) <|
  tab_cons (tok_mk (by kernel_rfl) (by kernel_rfl) (by kernel_rfl) rfl) <|
  tab_cons (tok_eq [.int .i64, .int .i64, .int .i64] (by kernel_rfl) (by kernel_rfl) (by kernel_rfl) rfl (by kernel_rfl) (by kernel_rfl)) <|
  tab_cons (tok_mk (by kernel_rfl) (by kernel_rfl) (by kernel_rfl) rfl) <|
  tab_cons (tok_mk (by kernel_rfl) (by kernel_rfl) (by kernel_rfl) rfl) <|
  tab_cons (tok_tup _ _ _ _ _ _ _) <|
  tab_cons (tok_tup _ _ _ _ _ _ _) <|
  tab_cons (tok_mk (by kernel_rfl) (by kernel_rfl) (by kernel_rfl) rfl) <|
  tab_cons (tok_mk (by kernel_rfl) (by kernel_rfl) (by kernel_rfl) rfl) <|
  tab_cons (tok_mk (by kernel_rfl) (by kernel_rfl) (by kernel_rfl) rfl) <|
  tab_cons (tok_mk (by kernel_rfl) (by kernel_rfl) (by kernel_rfl) rfl) <|
  tab_cons (tok_tup _ _ _ _ _ _ _) <|
  tab_cons (tok_mk (by kernel_rfl) (by kernel_rfl) (by kernel_rfl) rfl) <|
  tab_cons (tok_tup _ _ _ _ _ _ _) <|
  tab_cons (tok_mk (by kernel_rfl) (by kernel_rfl) (by kernel_rfl) rfl) <|
  tab_cons (tok_mk (by kernel_rfl) (by kernel_rfl) (by kernel_rfl) rfl) <|
  tab_cons (tok_mk (by kernel_rfl) (by kernel_rfl) (by kernel_rfl) rfl) <|
  tab_cons (tok_tup _ _ _ _ _ _ _) <|
  tab_cons (tok_mk (by kernel_rfl) (by kernel_rfl) (by kernel_rfl) rfl) <| tab_nil

def FL : List Nat := [12, 13, 14, 15, 16, 17, 18, 19, 20, 21, 22, 23, 24, 25, 26, 27, 28, 29, 30, 31, 32, 33, 34, 35, 36, 37, 38, 39, 40, 41, 42, 43, 44, 45, 46, 47, 48, 49, 50, 51, 52, 53, 54, 55, 56, 57, 58, 59, 60, 61, 62, 63, 64, 65, 66, 67, 68, 69, 70, 71, 72, 73, 74, 75, 76, 77, 78, 79, 80, 81, 82, 83, 84, 85, 86, 87, 88, 89, 90, 91, 92, 96, 97, 98, 99, 100, 101, 105, 106, 107, 108, 109, 115, 116, 117, 123, 124]
theorem FL_ok : FOk Tryd.prog FL :=
  fl_cons ⟨Tryd.f12, Tryd.func12, by kernel_rfl, by kernel_rfl⟩ <| fl_cons ⟨Tryd.f13, Tryd.func13, by kernel_rfl, by kernel_rfl⟩ <| fl_cons ⟨Tryd.f14, Tryd.func14, by kernel_rfl, by kernel_rfl⟩ <| fl_cons ⟨Tryd.f15, Tryd.func15, by kernel_rfl, by kernel_rfl⟩ <| fl_cons ⟨Tryd.f16, Tryd.func16, by kernel_rfl, by kernel_rfl⟩ <| fl_cons ⟨Tryd.f17, Tryd.func17, by kernel_rfl, by kernel_rfl⟩ <| fl_cons ⟨Tryd.f18, Tryd.func18, by kernel_rfl, by kernel_rfl⟩ <| fl_cons ⟨Tryd.f19, Tryd.func19, by kernel_rfl, by kernel_rfl⟩ <| fl_cons ⟨Tryd.f20, Tryd.func20, by kernel_rfl, by kernel_rfl⟩ <| fl_cons ⟨Tryd.f21, Tryd.func21, by kernel_rfl, by kernel_rfl⟩ <| fl_cons ⟨Tryd.f22, Tryd.func22, by kernel_rfl, by kernel_rfl⟩ <| fl_cons ⟨Tryd.f23, Tryd.func23, by kernel_rfl, by kernel_rfl⟩ <| fl_cons ⟨Tryd.f24, Tryd.func24, by kernel_rfl, by kernel_rfl⟩ <| fl_cons ⟨Tryd.f25, Tryd.func25, by kernel_rfl, by kernel_rfl⟩ <| fl_cons ⟨Tryd.f26, Tryd.func26, by kernel_rfl, by kernel_rfl⟩ <| fl_cons ⟨Tryd.f27, Tryd.func27, by kernel_rfl, by kernel_rfl⟩ <| fl_cons ⟨Tryd.f28, Tryd.func28, by kernel_rfl, by kernel_rfl⟩ <| fl_cons ⟨Tryd.f29, Tryd.func29, by kernel_rfl, by kernel_rfl⟩ <| fl_cons ⟨Tryd.f30, Tryd.func30, by kernel_rfl, by kernel_rfl⟩ <| fl_cons ⟨Tryd.f31, Tryd.func31, by kernel_rfl, by kernel_rfl⟩ <| fl_cons ⟨Tryd.f32, Tryd.func32, by kernel_rfl, by kernel_rfl⟩ <| fl_cons ⟨Tryd.f33, Tryd.func33, by kernel_rfl, by kernel_rfl⟩ <| fl_cons ⟨Tryd.f34, Tryd.func34, by kernel_rfl, by kernel_rfl⟩ <| fl_cons ⟨Tryd.f35, Tryd.func35, by kernel_rfl, by kernel_rfl⟩ <| fl_cons ⟨Tryd.f36, Tryd.func36, by kernel_rfl, by kernel_rfl⟩ <| fl_cons ⟨Tryd.f37, Tryd.func37, by kernel_rfl, by kernel_rfl⟩ <| fl_cons ⟨Tryd.f38, Tryd.func38, by kernel_rfl, by kernel_rfl⟩ <| fl_cons ⟨Tryd.f39, Tryd.func39, by kernel_rfl, by kernel_rfl⟩ <| fl_cons ⟨Tryd.f40, Tryd.func40, by kernel_rfl, by kernel_rfl⟩ <| fl_cons ⟨Tryd.f41, Tryd.func41, by kernel_rfl, by kernel_rfl⟩ <| fl_cons ⟨Tryd.f42, Tryd.func42, by kernel_rfl, by kernel_rfl⟩ <| fl_cons ⟨Tryd.f43, Tryd.func43, by kernel_rfl, by kernel_rfl⟩ <| fl_cons ⟨Tryd.f44, Tryd.func44, by kernel_rfl, by kernel_rfl⟩ <| fl_cons ⟨Tryd.f45, Tryd.func45, by kernel_rfl, by kernel_rfl⟩ <| fl_cons ⟨Tryd.f46, Tryd.func46, by kernel_rfl, by kernel_rfl⟩ <| fl_cons ⟨Tryd.f47, Tryd.func47, by kernel_rfl, by kernel_rfl⟩ <| fl_cons ⟨Tryd.f48, Tryd.func48, by kernel_rfl, by kernel_rfl⟩ <| fl_cons ⟨Tryd.f49, Tryd.func49, by kernel_rfl, by kernel_rfl⟩ <| fl_cons ⟨Tryd.f50, Tryd.func50, by kernel_rfl, by kernel_rfl⟩ <| fl_cons ⟨Tryd.f51, Tryd.func51, by kernel_rfl, by kernel_rfl⟩ <| fl_cons ⟨Tryd.f52, Tryd.func52, by kernel_rfl, by kernel_rfl⟩ <| fl_cons ⟨Tryd.f53, Tryd.func53, by kernel_rfl, by kernel_rfl⟩ <| fl_cons ⟨Tryd.f54, Tryd.func54, by kernel_rfl, by kernel_rfl⟩ <| fl_cons ⟨Tryd.f55, Tryd.func55, by kernel_rfl, by kernel_rfl⟩ <| fl_cons ⟨Tryd.f56, Tryd.func56, by kernel_rfl, by kernel_rfl⟩ <| fl_cons ⟨Tryd.f57, Tryd.func57, by kernel_rfl, by kernel_rfl⟩ <| fl_cons ⟨Tryd.f58, Tryd.func58, by kernel_rfl, by kernel_rfl⟩ <| fl_cons ⟨Tryd.f59, Tryd.func59, by kernel_rfl, by kernel_rfl⟩ <| fl_cons ⟨Tryd.f60, Tryd.func60, by kernel_rfl, by kernel_rfl⟩ <| fl_cons ⟨Tryd.f61, Tryd.func61, by kernel_rfl, by kernel_rfl⟩ <| fl_cons ⟨Tryd.f62, Tryd.func62, by kernel_rfl, by kernel_rfl⟩ <| fl_cons ⟨Tryd.f63, Tryd.func63, by kernel_rfl, by kernel_rfl⟩ <| fl_cons ⟨Tryd.f64, Tryd.func64, by kernel_rfl, by kernel_rfl⟩ <| fl_cons ⟨Tryd.f65, Tryd.func65, by kernel_rfl, by kernel_rfl⟩ <| fl_cons ⟨Tryd.f66, Tryd.func66, by kernel_rfl, by kernel_rfl⟩ <| fl_cons ⟨Tryd.f67, Tryd.func67, by kernel_rfl, by kernel_rfl⟩ <| fl_cons ⟨Tryd.f68, Tryd.func68, by kernel_rfl, by kernel_rfl⟩ <| fl_cons ⟨Tryd.f69, Tryd.func69, by kernel_rfl, by kernel_rfl⟩ <| fl_cons ⟨Tryd.f70, Tryd.func70, by kernel_rfl, by kernel_rfl⟩ <| fl_cons ⟨Tryd.f71, Tryd.func71, by kernel_rfl, by kernel_rfl⟩ <| fl_cons ⟨Tryd.f72, Tryd.func72, by kernel_rfl, by kernel_rfl⟩ <| fl_cons ⟨Tryd.f73, Tryd.func73, by kernel_rfl, by kernel_rfl⟩ <| fl_cons ⟨Tryd.f74, Tryd.func74, by kernel_rfl, by kernel_rfl⟩ <| fl_cons ⟨Tryd.f75, Tryd.func75, by kernel_rfl, by kernel_rfl⟩ <| fl_cons ⟨Tryd.f76, Tryd.func76, by kernel_rfl, by kernel_rfl⟩ <| fl_cons ⟨Tryd.f77, Tryd.func77, by kernel_rfl, by kernel_rfl⟩ <| fl_cons ⟨Tryd.f78, Tryd.func78, by kernel_rfl, by kernel_rfl⟩ <| fl_cons ⟨Tryd.f79, Tryd.func79, by kernel_rfl, by kernel_rfl⟩ <| fl_cons ⟨Tryd.f80, Tryd.func80, by kernel_rfl, by kernel_rfl⟩ <| fl_cons ⟨Tryd.f81, Tryd.func81, by kernel_rfl, by kernel_rfl⟩ <| fl_cons ⟨Tryd.f82, Tryd.func82, by kernel_rfl, by kernel_rfl⟩ <| fl_cons ⟨Tryd.f83, Tryd.func83, by kernel_rfl, by kernel_rfl⟩ <| fl_cons ⟨Tryd.f84, Tryd.func84, by kernel_rfl, by kernel_rfl⟩ <| fl_cons ⟨Tryd.f85, Tryd.func85, by kernel_rfl, by kernel_rfl⟩ <| fl_cons ⟨Tryd.f86, Tryd.func86, by kernel_rfl, by kernel_rfl⟩ <| fl_cons ⟨Tryd.f87, Tryd.func87, by kernel_rfl, by kernel_rfl⟩ <| fl_cons ⟨Tryd.f88, Tryd.func88, by kernel_rfl, by kernel_rfl⟩ <| fl_cons ⟨Tryd.f89, Tryd.func89, by kernel_rfl, by kernel_rfl⟩ <| fl_cons ⟨Tryd.f90, Tryd.func90, by kernel_rfl, by kernel_rfl⟩ <| fl_cons ⟨Tryd.f91, Tryd.func91, by kernel_rfl, by kernel_rfl⟩ <| fl_cons ⟨Tryd.f92, Tryd.func92, by kernel_rfl, by kernel_rfl⟩ <| fl_cons ⟨Tryd.f96, Tryd.func96, by kernel_rfl, by kernel_rfl⟩ <| fl_cons ⟨Tryd.f97, Tryd.func97, by kernel_rfl, by kernel_rfl⟩ <| fl_cons ⟨Tryd.f98, Tryd.func98, by kernel_rfl, by kernel_rfl⟩ <| fl_cons ⟨Tryd.f99, Tryd.func99, by kernel_rfl, by kernel_rfl⟩ <| fl_cons ⟨Tryd.f100, Tryd.func100, by kernel_rfl, by kernel_rfl⟩ <| fl_cons ⟨Tryd.f101, Tryd.func101, by kernel_rfl, by kernel_rfl⟩ <| fl_cons ⟨Tryd.f105, Tryd.func105, by kernel_rfl, by kernel_rfl⟩ <| fl_cons ⟨Tryd.f106, Tryd.func106, by kernel_rfl, by kernel_rfl⟩ <| fl_cons ⟨Tryd.f107, Tryd.func107, by kernel_rfl, by kernel_rfl⟩ <| fl_cons ⟨Tryd.f108, Tryd.func108, by kernel_rfl, by kernel_rfl⟩ <| fl_cons ⟨Tryd.f109, Tryd.func109, by kernel_rfl, by kernel_rfl⟩ <| fl_cons ⟨Tryd.f115, Tryd.func115, by kernel_rfl, by kernel_rfl⟩ <| fl_cons ⟨Tryd.f116, Tryd.func116, by kernel_rfl, by kernel_rfl⟩ <| fl_cons ⟨Tryd.f117, Tryd.func117, by kernel_rfl, by kernel_rfl⟩ <| fl_cons ⟨Tryd.f123, Tryd.func123, by kernel_rfl, by kernel_rfl⟩ <| fl_cons ⟨Tryd.f124, Tryd.func124, by kernel_rfl, by kernel_rfl⟩ <| fl_nil
theorem mixed : Tryd.prog.follows .mixedOrders = true := by kernel_rfl
end Go.Proofs.YtdlbmmodlkmofaaDoor
