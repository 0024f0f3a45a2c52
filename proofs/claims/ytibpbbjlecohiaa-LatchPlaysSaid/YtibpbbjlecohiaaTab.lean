import Derived.Test.YtibpbbjlecohiaaProg
import Derived.Test.YtibpbbjlecohiaaVc9
set_option maxRecDepth 20000
namespace Go.Proofs.Ytibpbbjlecohiaa
open Go Go.Vc
def T : Tab := [
  (0, ⟨.other, .tup [], 0, undef, 0, false⟩),
  (2, ⟨.int .i64, .one (.int .i64), 1, .int .i64 0, 8, false⟩),
  (3, ⟨.int .i64, .one (.int .i64), 1, .int .i64 0, 8, false⟩),
  (4, ⟨.bool, .one .bool, 1, .bool false, 1, false⟩),
  (24, ⟨.struct [(0, 3, 1), (1, 3, 1), (2, 3, 1), (3, 3, 1)], .agg [.int .i64, .int .i64, .int .i64, .int .i64], 4, .agg #[.int .i64 0, .int .i64 0, .int .i64 0, .int .i64 0], 32, true⟩),
  (26, ⟨.ptr 5, .one .ptr, 1, .pointer none, 8, false⟩),
  (27, ⟨.int .i64, .one (.int .i64), 1, .int .i64 0, 8, false⟩),
  (28, ⟨.other, .tup [(false, [.ptr]), (false, [.int .i64])], 0, undef, 0, false⟩),
  (32, ⟨.struct [(0, 3, 1), (1, 3, 1), (2, 3, 1), (3, 3, 1)], .agg [.int .i64, .int .i64, .int .i64, .int .i64], 4, .agg #[.int .i64 0, .int .i64 0, .int .i64 0, .int .i64 0], 32, true⟩),
  (33, ⟨.other, .tup [(false, [.bool]), (false, [.int .i64])], 0, undef, 0, false⟩),
  (35, ⟨.slice 3 1, .one .sl, 1, .slice none 0 0, 24, false⟩),
  (36, ⟨.other, .tup [(false, [.sl]), (false, [.int .i64])], 0, undef, 0, false⟩),
  (42, ⟨.struct [(0, 4, 1), (1, 35, 1), (2, 2, 1), (3, 27, 1)], .agg [.bool, .sl, .int .i64, .int .i64], 4, .agg #[.bool false, .slice none 0 0, .int .i64 0, .int .i64 0], 48, false⟩),
  (44, ⟨.slice 47 3, .one .sl, 1, .slice none 0 0, 24, false⟩),
  (47, ⟨.struct [(0, 3, 1), (1, 3, 1), (2, 3, 1)], .agg [.int .i64, .int .i64, .int .i64], 3, .agg #[.int .i64 0, .int .i64 0, .int .i64 0], 24, true⟩),
  (49, ⟨.slice 63 1, .one .sl, 1, .slice none 0 0, 24, false⟩),
  (51, ⟨.struct [(0, 24, 4), (4, 49, 1), (5, 35, 1)], .agg [.int .i64, .int .i64, .int .i64, .int .i64, .sl, .sl], 6, .agg #[.int .i64 0, .int .i64 0, .int .i64 0, .int .i64 0, .slice none 0 0, .slice none 0 0], 80, false⟩),
  (52, ⟨.slice 62 4, .one .sl, 1, .slice none 0 0, 24, false⟩),
  (53, ⟨.slice 2 1, .one .sl, 1, .slice none 0 0, 24, false⟩),
  (55, ⟨.struct [(0, 35, 1), (1, 52, 1), (2, 53, 1), (3, 35, 1)], .agg [.sl, .sl, .sl, .sl], 4, .agg #[.slice none 0 0, .slice none 0 0, .slice none 0 0, .slice none 0 0], 96, false⟩),
  (56, ⟨.other, .tup [(true, [.sl, .sl, .sl, .sl]), (false, [.int .i64])], 0, undef, 0, false⟩),
  (62, ⟨.struct [(0, 3, 1), (1, 3, 1), (2, 4, 1), (3, 27, 1)], .agg [.int .i64, .int .i64, .bool, .int .i64], 4, .agg #[.int .i64 0, .int .i64 0, .bool false, .int .i64 0], 32, true⟩),
  (63, ⟨.slice 94 3, .one .sl, 1, .slice none 0 0, 24, false⟩),
  (84, ⟨.slice 97 2, .one .sl, 1, .slice none 0 0, 24, false⟩),
  (85, ⟨.slice 99 3, .one .sl, 1, .slice none 0 0, 24, false⟩),
  (86, ⟨.slice 95 1, .one .sl, 1, .slice none 0 0, 24, false⟩),
  (87, ⟨.map, .one .map, 1, .map none, 8, false⟩),
  (89, ⟨.struct [(0, 84, 1), (1, 85, 1), (2, 86, 1), (3, 53, 1), (4, 87, 1)], .agg [.sl, .sl, .sl, .sl, .map], 5, .agg #[.slice none 0 0, .slice none 0 0, .slice none 0 0, .slice none 0 0, .map none], 104, false⟩),
  (94, ⟨.struct [(0, 3, 1), (1, 3, 1), (2, 3, 1)], .agg [.int .i64, .int .i64, .int .i64], 3, .agg #[.int .i64 0, .int .i64 0, .int .i64 0], 24, true⟩),
  (95, ⟨.slice 106 3, .one .sl, 1, .slice none 0 0, 24, false⟩),
  (97, ⟨.struct [(0, 3, 1), (1, 95, 1)], .agg [.int .i64, .sl], 2, .agg #[.int .i64 0, .slice none 0 0], 32, false⟩),
  (99, ⟨.struct [(0, 35, 1), (1, 3, 1), (2, 95, 1)], .agg [.sl, .int .i64, .sl], 3, .agg #[.slice none 0 0, .int .i64 0, .slice none 0 0], 56, false⟩),
  (100, ⟨.other, .tup [(false, [.int .i64]), (false, [.int .i64]), (false, [.int .i64]), (false, [.int .i64])], 0, undef, 0, false⟩),
  (103, ⟨.array 2 3 1, .agg [.int .i64, .int .i64], 2, .agg #[.int .i64 0, .int .i64 0], 16, false⟩),
  (106, ⟨.struct [(0, 3, 1), (1, 4, 1), (2, 3, 1)], .agg [.int .i64, .bool, .int .i64], 3, .agg #[.int .i64 0, .bool false, .int .i64 0], 24, true⟩),
  (110, ⟨.other, .tup [(false, [.int .i64]), (false, [.int .i64])], 0, undef, 0, false⟩),
  (114, ⟨.ptr 6, .one .ptr, 1, .pointer none, 8, false⟩),
  (116, ⟨.struct [(0, 26, 1), (1, 55, 4), (5, 49, 1)], .agg [.ptr, .sl, .sl, .sl, .sl, .sl], 6, .agg #[.pointer none, .slice none 0 0, .slice none 0 0, .slice none 0 0, .slice none 0 0, .slice none 0 0], 128, false⟩),
  (117, ⟨.slice 118 1, .one .sl, 1, .slice none 0 0, 24, false⟩),
  (118, ⟨.ptr 3, .one .ptr, 1, .pointer none, 8, false⟩),
  (120, ⟨.struct [(0, 114, 1), (1, 3, 1), (2, 3, 1)], .agg [.ptr, .int .i64, .int .i64], 3, .agg #[.pointer none, .int .i64 0, .int .i64 0], 24, false⟩),
  (125, ⟨.struct [(0, 4, 1), (1, 4, 1), (2, 35, 1)], .agg [.bool, .bool, .sl], 3, .agg #[.bool false, .bool false, .slice none 0 0], 32, false⟩),
  (127, ⟨.other, .tup [(true, [.int .i64, .int .i64, .int .i64]), (false, [.bool])], 0, undef, 0, false⟩),
  (128, ⟨.other, .tup [(false, [.ptr]), (false, [.int .i64])], 0, undef, 0, false⟩),
  (130, ⟨.slice 4 1, .one .sl, 1, .slice none 0 0, 24, false⟩),
  (131, ⟨.other, .tup [(false, [.bool]), (false, [.sl]), (false, [.int .i64])], 0, undef, 0, false⟩),
  (134, ⟨.other, .tup [(false, [.int .i64]), (false, [.bool])], 0, undef, 0, false⟩),
  (136, ⟨.map, .one .map, 1, .map none, 8, false⟩),
  (138, ⟨.map, .one .map, 1, .map none, 8, false⟩),
  (149, ⟨.slice 155 2, .one .sl, 1, .slice none 0 0, 24, false⟩),
  (150, ⟨.slice 153 1, .one .sl, 1, .slice none 0 0, 24, false⟩),
  (152, ⟨.struct [(0, 4, 1), (1, 149, 1), (2, 149, 1), (3, 150, 1), (4, 53, 1)], .agg [.bool, .sl, .sl, .sl, .sl], 5, .agg #[.bool false, .slice none 0 0, .slice none 0 0, .slice none 0 0, .slice none 0 0], 104, false⟩),
  (153, ⟨.slice 158 3, .one .sl, 1, .slice none 0 0, 24, false⟩),
  (155, ⟨.struct [(0, 153, 1), (1, 153, 1)], .agg [.sl, .sl], 2, .agg #[.slice none 0 0, .slice none 0 0], 48, false⟩),
  (158, ⟨.struct [(0, 3, 1), (1, 3, 1), (2, 3, 1)], .agg [.int .i64, .int .i64, .int .i64], 3, .agg #[.int .i64 0, .int .i64 0, .int .i64 0], 24, true⟩),
  (164, ⟨.slice 103 2, .one .sl, 1, .slice none 0 0, 24, false⟩),
  (230, ⟨.other, .one .any, 1, Value.nilFunc, 8, false⟩),
  (231, ⟨.map, .one .map, 1, .map none, 8, false⟩),
  (233, ⟨.other, .one .any, 1, Value.nilFunc, 8, false⟩),
  (235, ⟨.other, .one .any, 1, Value.nilFunc, 8, false⟩)]
theorem T_ok : TabOk Try.prog T :=
  tab_cons (tok_tup _ _ _ _ _ _ _) <|
  tab_cons (tok_mk (by kernel_rfl) (by kernel_rfl) (by kernel_rfl) rfl) <|
  tab_cons (tok_mk (by kernel_rfl) (by kernel_rfl) (by kernel_rfl) rfl) <|
  tab_cons (tok_mk (by kernel_rfl) (by kernel_rfl) (by kernel_rfl) rfl) <|
  tab_cons (tok_eq [.int .i64, .int .i64, .int .i64, .int .i64] (by kernel_rfl) (by kernel_rfl) (by kernel_rfl) rfl (by kernel_rfl) (by kernel_rfl)) <|
  tab_cons (tok_mk (by kernel_rfl) (by kernel_rfl) (by kernel_rfl) rfl) <|
  tab_cons (tok_mk (by kernel_rfl) (by kernel_rfl) (by kernel_rfl) rfl) <|
  tab_cons (tok_tup _ _ _ _ _ _ _) <|
  tab_cons (tok_eq [.int .i64, .int .i64, .int .i64, .int .i64] (by kernel_rfl) (by kernel_rfl) (by kernel_rfl) rfl (by kernel_rfl) (by kernel_rfl)) <|
  tab_cons (tok_tup _ _ _ _ _ _ _) <|
  tab_cons (tok_mk (by kernel_rfl) (by kernel_rfl) (by kernel_rfl) rfl) <|
  tab_cons (tok_tup _ _ _ _ _ _ _) <|
  tab_cons (tok_mk (by kernel_rfl) (by kernel_rfl) (by kernel_rfl) rfl) <|
  tab_cons (tok_mk (by kernel_rfl) (by kernel_rfl) (by kernel_rfl) rfl) <|
  tab_cons (tok_eq [.int .i64, .int .i64, .int .i64] (by kernel_rfl) (by kernel_rfl) (by kernel_rfl) rfl (by kernel_rfl) (by kernel_rfl)) <|
  tab_cons (tok_mk (by kernel_rfl) (by kernel_rfl) (by kernel_rfl) rfl) <|
  tab_cons (tok_mk (by kernel_rfl) (by kernel_rfl) (by kernel_rfl) rfl) <|
  tab_cons (tok_mk (by kernel_rfl) (by kernel_rfl) (by kernel_rfl) rfl) <|
  tab_cons (tok_mk (by kernel_rfl) (by kernel_rfl) (by kernel_rfl) rfl) <|
  tab_cons (tok_mk (by kernel_rfl) (by kernel_rfl) (by kernel_rfl) rfl) <|
  tab_cons (tok_tup _ _ _ _ _ _ _) <|
  tab_cons (tok_eq [.int .i64, .int .i64, .bool, .int .i64] (by kernel_rfl) (by kernel_rfl) (by kernel_rfl) rfl (by kernel_rfl) (by kernel_rfl)) <|
  tab_cons (tok_mk (by kernel_rfl) (by kernel_rfl) (by kernel_rfl) rfl) <|
  tab_cons (tok_mk (by kernel_rfl) (by kernel_rfl) (by kernel_rfl) rfl) <|
  tab_cons (tok_mk (by kernel_rfl) (by kernel_rfl) (by kernel_rfl) rfl) <|
  tab_cons (tok_mk (by kernel_rfl) (by kernel_rfl) (by kernel_rfl) rfl) <|
  tab_cons (tok_mk (by kernel_rfl) (by kernel_rfl) (by kernel_rfl) rfl) <|
  tab_cons (tok_mk (by kernel_rfl) (by kernel_rfl) (by kernel_rfl) rfl) <|
  tab_cons (tok_eq [.int .i64, .int .i64, .int .i64] (by kernel_rfl) (by kernel_rfl) (by kernel_rfl) rfl (by kernel_rfl) (by kernel_rfl)) <|
  tab_cons (tok_mk (by kernel_rfl) (by kernel_rfl) (by kernel_rfl) rfl) <|
  tab_cons (tok_mk (by kernel_rfl) (by kernel_rfl) (by kernel_rfl) rfl) <|
  tab_cons (tok_mk (by kernel_rfl) (by kernel_rfl) (by kernel_rfl) rfl) <|
  tab_cons (tok_tup _ _ _ _ _ _ _) <|
  tab_cons (tok_mk (by kernel_rfl) (by kernel_rfl) (by kernel_rfl) rfl) <|
  tab_cons (tok_eq [.int .i64, .bool, .int .i64] (by kernel_rfl) (by kernel_rfl) (by kernel_rfl) rfl (by kernel_rfl) (by kernel_rfl)) <|
  tab_cons (tok_tup _ _ _ _ _ _ _) <|
  tab_cons (tok_mk (by kernel_rfl) (by kernel_rfl) (by kernel_rfl) rfl) <|
  tab_cons (tok_mk (by kernel_rfl) (by kernel_rfl) (by kernel_rfl) rfl) <|
  tab_cons (tok_mk (by kernel_rfl) (by kernel_rfl) (by kernel_rfl) rfl) <|
  tab_cons (tok_mk (by kernel_rfl) (by kernel_rfl) (by kernel_rfl) rfl) <|
  tab_cons (tok_mk (by kernel_rfl) (by kernel_rfl) (by kernel_rfl) rfl) <|
  tab_cons (tok_mk (by kernel_rfl) (by kernel_rfl) (by kernel_rfl) rfl) <|
  tab_cons (tok_tup _ _ _ _ _ _ _) <|
  tab_cons (tok_tup _ _ _ _ _ _ _) <|
  tab_cons (tok_mk (by kernel_rfl) (by kernel_rfl) (by kernel_rfl) rfl) <|
  tab_cons (tok_tup _ _ _ _ _ _ _) <|
  tab_cons (tok_tup _ _ _ _ _ _ _) <|
  tab_cons (tok_mk (by kernel_rfl) (by kernel_rfl) (by kernel_rfl) rfl) <|
  tab_cons (tok_mk (by kernel_rfl) (by kernel_rfl) (by kernel_rfl) rfl) <|
  tab_cons (tok_mk (by kernel_rfl) (by kernel_rfl) (by kernel_rfl) rfl) <|
  tab_cons (tok_mk (by kernel_rfl) (by kernel_rfl) (by kernel_rfl) rfl) <|
  tab_cons (tok_mk (by kernel_rfl) (by kernel_rfl) (by kernel_rfl) rfl) <|
  tab_cons (tok_mk (by kernel_rfl) (by kernel_rfl) (by kernel_rfl) rfl) <|
  tab_cons (tok_mk (by kernel_rfl) (by kernel_rfl) (by kernel_rfl) rfl) <|
  tab_cons (tok_eq [.int .i64, .int .i64, .int .i64] (by kernel_rfl) (by kernel_rfl) (by kernel_rfl) rfl (by kernel_rfl) (by kernel_rfl)) <|
  tab_cons (tok_mk (by kernel_rfl) (by kernel_rfl) (by kernel_rfl) rfl) <|
  tab_cons (tok_mk (by kernel_rfl) (by kernel_rfl) (by kernel_rfl) rfl) <|
  tab_cons (tok_mk (by kernel_rfl) (by kernel_rfl) (by kernel_rfl) rfl) <|
  tab_cons (tok_mk (by kernel_rfl) (by kernel_rfl) (by kernel_rfl) rfl) <|
  tab_cons (tok_mk (by kernel_rfl) (by kernel_rfl) (by kernel_rfl) rfl) <| tab_nil

def FL : List Nat := [17, 18, 19, 22, 23, 24, 25, 26, 28, 29, 43, 44, 45, 46, 47, 48, 49, 50, 51, 52, 53, 54, 55, 56, 57, 58, 59, 60, 61, 62, 63, 65, 66, 67, 68, 69, 70, 71, 72, 73, 74, 78, 80, 84, 85, 86, 87, 88, 89, 90, 91, 92, 93, 94, 95, 96, 97, 98, 99, 100, 101, 102, 110, 111, 112, 113, 114, 115, 116, 117, 155, 156, 157, 158, 159, 160, 161, 162, 163]
theorem FL_ok : FOk Try.prog FL :=
  fl_cons ⟨Try.f17, Try.func17, by kernel_rfl, by kernel_rfl⟩ <| fl_cons ⟨Try.f18, Try.func18, by kernel_rfl, by kernel_rfl⟩ <| fl_cons ⟨Try.f19, Try.func19, by kernel_rfl, by kernel_rfl⟩ <| fl_cons ⟨Try.f22, Try.func22, by kernel_rfl, by kernel_rfl⟩ <| fl_cons ⟨Try.f23, Try.func23, by kernel_rfl, by kernel_rfl⟩ <| fl_cons ⟨Try.f24, Try.func24, by kernel_rfl, by kernel_rfl⟩ <| fl_cons ⟨Try.f25, Try.func25, by kernel_rfl, by kernel_rfl⟩ <| fl_cons ⟨Try.f26, Try.func26, by kernel_rfl, by kernel_rfl⟩ <| fl_cons ⟨Try.f28, Try.func28, by kernel_rfl, by kernel_rfl⟩ <| fl_cons ⟨Try.f29, Try.func29, by kernel_rfl, by kernel_rfl⟩ <| fl_cons ⟨Try.f43, Try.func43, by kernel_rfl, by kernel_rfl⟩ <| fl_cons ⟨Try.f44, Try.func44, by kernel_rfl, by kernel_rfl⟩ <| fl_cons ⟨Try.f45, Try.func45, by kernel_rfl, by kernel_rfl⟩ <| fl_cons ⟨Try.f46, Try.func46, by kernel_rfl, by kernel_rfl⟩ <| fl_cons ⟨Try.f47, Try.func47, by kernel_rfl, by kernel_rfl⟩ <| fl_cons ⟨Try.f48, Try.func48, by kernel_rfl, by kernel_rfl⟩ <| fl_cons ⟨Try.f49, Try.func49, by kernel_rfl, by kernel_rfl⟩ <| fl_cons ⟨Try.f50, Try.func50, by kernel_rfl, by kernel_rfl⟩ <| fl_cons ⟨Try.f51, Try.func51, by kernel_rfl, by kernel_rfl⟩ <| fl_cons ⟨Try.f52, Try.func52, by kernel_rfl, by kernel_rfl⟩ <| fl_cons ⟨Try.f53, Try.func53, by kernel_rfl, by kernel_rfl⟩ <| fl_cons ⟨Try.f54, Try.func54, by kernel_rfl, by kernel_rfl⟩ <| fl_cons ⟨Try.f55, Try.func55, by kernel_rfl, by kernel_rfl⟩ <| fl_cons ⟨Try.f56, Try.func56, by kernel_rfl, by kernel_rfl⟩ <| fl_cons ⟨Try.f57, Try.func57, by kernel_rfl, by kernel_rfl⟩ <| fl_cons ⟨Try.f58, Try.func58, by kernel_rfl, by kernel_rfl⟩ <| fl_cons ⟨Try.f59, Try.func59, by kernel_rfl, by kernel_rfl⟩ <| fl_cons ⟨Try.f60, Try.func60, by kernel_rfl, by kernel_rfl⟩ <| fl_cons ⟨Try.f61, Try.func61, by kernel_rfl, by kernel_rfl⟩ <| fl_cons ⟨Try.f62, Try.func62, by kernel_rfl, by kernel_rfl⟩ <| fl_cons ⟨Try.f63, Try.func63, by kernel_rfl, by kernel_rfl⟩ <| fl_cons ⟨Try.f65, Try.func65, by kernel_rfl, by kernel_rfl⟩ <| fl_cons ⟨Try.f66, Try.func66, by kernel_rfl, by kernel_rfl⟩ <| fl_cons ⟨Try.f67, Try.func67, by kernel_rfl, by kernel_rfl⟩ <| fl_cons ⟨Try.f68, Try.func68, by kernel_rfl, by kernel_rfl⟩ <| fl_cons ⟨Try.f69, Try.func69, by kernel_rfl, by kernel_rfl⟩ <| fl_cons ⟨Try.f70, Try.func70, by kernel_rfl, by kernel_rfl⟩ <| fl_cons ⟨Try.f71, Try.func71, by kernel_rfl, by kernel_rfl⟩ <| fl_cons ⟨Try.f72, Try.func72, by kernel_rfl, by kernel_rfl⟩ <| fl_cons ⟨Try.f73, Try.func73, by kernel_rfl, by kernel_rfl⟩ <| fl_cons ⟨Try.f74, Try.func74, by kernel_rfl, by kernel_rfl⟩ <| fl_cons ⟨Try.f78, Try.func78, by kernel_rfl, by kernel_rfl⟩ <| fl_cons ⟨Try.f80, Try.func80, by kernel_rfl, by kernel_rfl⟩ <| fl_cons ⟨Try.f84, Try.func84, by kernel_rfl, by kernel_rfl⟩ <| fl_cons ⟨Try.f85, Try.func85, by kernel_rfl, by kernel_rfl⟩ <| fl_cons ⟨Try.f86, Try.func86, by kernel_rfl, by kernel_rfl⟩ <| fl_cons ⟨Try.f87, Try.func87, by kernel_rfl, by kernel_rfl⟩ <| fl_cons ⟨Try.f88, Try.func88, by kernel_rfl, by kernel_rfl⟩ <| fl_cons ⟨Try.f89, Try.func89, by kernel_rfl, by kernel_rfl⟩ <| fl_cons ⟨Try.f90, Try.func90, by kernel_rfl, by kernel_rfl⟩ <| fl_cons ⟨Try.f91, Try.func91, by kernel_rfl, by kernel_rfl⟩ <| fl_cons ⟨Try.f92, Try.func92, by kernel_rfl, by kernel_rfl⟩ <| fl_cons ⟨Try.f93, Try.func93, by kernel_rfl, by kernel_rfl⟩ <| fl_cons ⟨Try.f94, Try.func94, by kernel_rfl, by kernel_rfl⟩ <| fl_cons ⟨Try.f95, Try.func95, by kernel_rfl, by kernel_rfl⟩ <| fl_cons ⟨Try.f96, Try.func96, by kernel_rfl, by kernel_rfl⟩ <| fl_cons ⟨Try.f97, Try.func97, by kernel_rfl, by kernel_rfl⟩ <| fl_cons ⟨Try.f98, Try.func98, by kernel_rfl, by kernel_rfl⟩ <| fl_cons ⟨Try.f99, Try.func99, by kernel_rfl, by kernel_rfl⟩ <| fl_cons ⟨Try.f100, Try.func100, by kernel_rfl, by kernel_rfl⟩ <| fl_cons ⟨Try.f101, Try.func101, by kernel_rfl, by kernel_rfl⟩ <| fl_cons ⟨Try.f102, Try.func102, by kernel_rfl, by kernel_rfl⟩ <| fl_cons ⟨Try.f110, Try.func110, by kernel_rfl, by kernel_rfl⟩ <| fl_cons ⟨Try.f111, Try.func111, by kernel_rfl, by kernel_rfl⟩ <| fl_cons ⟨Try.f112, Try.func112, by kernel_rfl, by kernel_rfl⟩ <| fl_cons ⟨Try.f113, Try.func113, by kernel_rfl, by kernel_rfl⟩ <| fl_cons ⟨Try.f114, Try.func114, by kernel_rfl, by kernel_rfl⟩ <| fl_cons ⟨Try.f115, Try.func115, by kernel_rfl, by kernel_rfl⟩ <| fl_cons ⟨Try.f116, Try.func116, by kernel_rfl, by kernel_rfl⟩ <| fl_cons ⟨Try.f117, Try.func117, by kernel_rfl, by kernel_rfl⟩ <| fl_cons ⟨Try.f155, Try.func155, by kernel_rfl, by kernel_rfl⟩ <| fl_cons ⟨Try.f156, Try.func156, by kernel_rfl, by kernel_rfl⟩ <| fl_cons ⟨Try.f157, Try.func157, by kernel_rfl, by kernel_rfl⟩ <| fl_cons ⟨Try.f158, Try.func158, by kernel_rfl, by kernel_rfl⟩ <| fl_cons ⟨Try.f159, Try.func159, by kernel_rfl, by kernel_rfl⟩ <| fl_cons ⟨Try.f160, Try.func160, by kernel_rfl, by kernel_rfl⟩ <| fl_cons ⟨Try.f161, Try.func161, by kernel_rfl, by kernel_rfl⟩ <| fl_cons ⟨Try.f162, Try.func162, by kernel_rfl, by kernel_rfl⟩ <| fl_cons ⟨Try.f163, Try.func163, by kernel_rfl, by kernel_rfl⟩ <| fl_nil
theorem mixed : Try.prog.follows .mixedOrders = true := by kernel_rfl
end Go.Proofs.Ytibpbbjlecohiaa
