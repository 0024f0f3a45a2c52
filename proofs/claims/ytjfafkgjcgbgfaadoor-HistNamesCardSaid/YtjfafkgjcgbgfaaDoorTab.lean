import Derived.Test.YtjfafkgjcgbgfaaDoorProg
import Derived.Test.YtjfafkgjcgbgfaaDoorVc9
set_option maxRecDepth 20000
namespace Go.Proofs.YtjfafkgjcgbgfaaDoor
open Go Go.Vc
def T : Tab := [
  (0, ⟨.other, .tup [], 0, undef, 0, false⟩),
  (3, ⟨.int .i64, .one (.int .i64), 1, .int .i64 0, 8, false⟩),
  (4, ⟨.bool, .one .bool, 1, .bool false, 1, false⟩),
  (5, ⟨.int .u8, .one (.int .u8), 1, .int .u8 0, 1, false⟩),
  (9, ⟨.str, .one .str, 1, .string (⟨#[]⟩ : ByteArray), 16, false⟩),
  (23, ⟨.slice 33 8, .one .sl, 1, .slice none 0 0, 24, false⟩),
  (25, ⟨.int .i64, .one (.int .i64), 1, .int .i64 0, 8, false⟩),
  (26, ⟨.other, .tup [(false, [.int .i64]), (false, [.int .i64])], 0, undef, 0, false⟩),
  (33, ⟨.struct [(0, 3, 1), (1, 9, 1), (2, 9, 1), (3, 25, 1), (4, 4, 1), (5, 3, 1), (6, 3, 1), (7, 3, 1)], .agg [.int .i64, .str, .str, .int .i64, .bool, .int .i64, .int .i64, .int .i64], 8, .agg #[.int .i64 0, .string (⟨#[]⟩ : ByteArray), .string (⟨#[]⟩ : ByteArray), .int .i64 0, .bool false, .int .i64 0, .int .i64 0, .int .i64 0], 80, true⟩),
  (67, ⟨.other, .tup [(false, [.sl]), (false, [.int .i64]), (false, [.int .i64])], 0, undef, 0, false⟩),
  (69, ⟨.slice 9 1, .one .sl, 1, .slice none 0 0, 24, false⟩),
  (89, ⟨.slice 5 1, .one .sl, 1, .slice none 0 0, 24, false⟩),
  (94, ⟨.other, .tup [(false, [.int .i64]), (false, [.any])], 0, undef, 0, false⟩),
  (99, ⟨.other, .tup [(false, [.str]), (false, [.str]), (false, [.bool])], 0, undef, 0, false⟩),
  (101, ⟨.other, .tup [(true, [.int .i64, .str, .str, .int .i64, .bool, .int .i64, .int .i64, .int .i64]), (false, [.bool])], 0, undef, 0, false⟩),
  (129, ⟨.struct [(0, 69, 1), (1, 4, 1)], .agg [.sl, .bool], 2, .agg #[.slice none 0 0, .bool false], 32, false⟩)]
theorem T_ok : TabOk Tryd.prog T :=
  tab_cons (tok_tup _ _ _ _ _ _ _) <|
  tab_cons (tok_mk (by kernel_rfl) (by kernel_rfl) (by kernel_rfl) rfl) <|
  tab_cons (tok_mk (by kernel_rfl) (by kernel_rfl) (by kernel_rfl) rfl) <|
  tab_cons (tok_mk (by kernel_rfl) (by kernel_rfl) (by kernel_rfl) rfl) <|
  tab_cons (tok_mk (by kernel_rfl) (by kernel_rfl) (by kernel_rfl) rfl) <|
  tab_cons (tok_mk (by kernel_rfl) (by kernel_rfl) (by kernel_rfl) rfl) <|
  tab_cons (tok_mk (by kernel_rfl) (by kernel_rfl) (by kernel_rfl) rfl) <|
  tab_cons (tok_tup _ _ _ _ _ _ _) <|
  tab_cons (tok_eq [.int .i64, .str, .str, .int .i64, .bool, .int .i64, .int .i64, .int .i64] (by kernel_rfl) (by kernel_rfl) (by kernel_rfl) rfl (by kernel_rfl) (by kernel_rfl)) <|
  tab_cons (tok_tup _ _ _ _ _ _ _) <|
  tab_cons (tok_mk (by kernel_rfl) (by kernel_rfl) (by kernel_rfl) rfl) <|
  tab_cons (tok_mk (by kernel_rfl) (by kernel_rfl) (by kernel_rfl) rfl) <|
  tab_cons (tok_tup _ _ _ _ _ _ _) <|
  tab_cons (tok_tup _ _ _ _ _ _ _) <|
  tab_cons (tok_tup _ _ _ _ _ _ _) <|
  tab_cons (tok_mk (by kernel_rfl) (by kernel_rfl) (by kernel_rfl) rfl) <| tab_nil

def FL : List Nat := [10, 11, 12, 13, 14, 15, 16, 17, 18, 22, 27, 28, 29, 36, 37, 38, 45, 46, 53, 54, 55, 56, 57, 58, 68, 69]
theorem FL_ok : FOk Tryd.prog FL :=
  fl_cons ⟨Tryd.f10, Tryd.func10, by kernel_rfl, by kernel_rfl⟩ <| fl_cons ⟨Tryd.f11, Tryd.func11, by kernel_rfl, by kernel_rfl⟩ <| fl_cons ⟨Tryd.f12, Tryd.func12, by kernel_rfl, by kernel_rfl⟩ <| fl_cons ⟨Tryd.f13, Tryd.func13, by kernel_rfl, by kernel_rfl⟩ <| fl_cons ⟨Tryd.f14, Tryd.func14, by kernel_rfl, by kernel_rfl⟩ <| fl_cons ⟨Tryd.f15, Tryd.func15, by kernel_rfl, by kernel_rfl⟩ <| fl_cons ⟨Tryd.f16, Tryd.func16, by kernel_rfl, by kernel_rfl⟩ <| fl_cons ⟨Tryd.f17, Tryd.func17, by kernel_rfl, by kernel_rfl⟩ <| fl_cons ⟨Tryd.f18, Tryd.func18, by kernel_rfl, by kernel_rfl⟩ <| fl_cons ⟨Tryd.f22, Tryd.func22, by kernel_rfl, by kernel_rfl⟩ <| fl_cons ⟨Tryd.f27, Tryd.func27, by kernel_rfl, by kernel_rfl⟩ <| fl_cons ⟨Tryd.f28, Tryd.func28, by kernel_rfl, by kernel_rfl⟩ <| fl_cons ⟨Tryd.f29, Tryd.func29, by kernel_rfl, by kernel_rfl⟩ <| fl_cons ⟨Tryd.f36, Tryd.func36, by kernel_rfl, by kernel_rfl⟩ <| fl_cons ⟨Tryd.f37, Tryd.func37, by kernel_rfl, by kernel_rfl⟩ <| fl_cons ⟨Tryd.f38, Tryd.func38, by kernel_rfl, by kernel_rfl⟩ <| fl_cons ⟨Tryd.f45, Tryd.func45, by kernel_rfl, by kernel_rfl⟩ <| fl_cons ⟨Tryd.f46, Tryd.func46, by kernel_rfl, by kernel_rfl⟩ <| fl_cons ⟨Tryd.f53, Tryd.func53, by kernel_rfl, by kernel_rfl⟩ <| fl_cons ⟨Tryd.f54, Tryd.func54, by kernel_rfl, by kernel_rfl⟩ <| fl_cons ⟨Tryd.f55, Tryd.func55, by kernel_rfl, by kernel_rfl⟩ <| fl_cons ⟨Tryd.f56, Tryd.func56, by kernel_rfl, by kernel_rfl⟩ <| fl_cons ⟨Tryd.f57, Tryd.func57, by kernel_rfl, by kernel_rfl⟩ <| fl_cons ⟨Tryd.f58, Tryd.func58, by kernel_rfl, by kernel_rfl⟩ <| fl_cons ⟨Tryd.f68, Tryd.func68, by kernel_rfl, by kernel_rfl⟩ <| fl_cons ⟨Tryd.f69, Tryd.func69, by kernel_rfl, by kernel_rfl⟩ <| fl_nil
theorem mixed : Tryd.prog.follows .mixedOrders = true := by kernel_rfl
end Go.Proofs.YtjfafkgjcgbgfaaDoor
