import Derived.Test.YtjfafkgjcgbgfaaProg
import Derived.Test.YtjfafkgjcgbgfaaVc9
set_option maxRecDepth 20000
namespace Go.Proofs.Ytjfafkgjcgbgfaa
open Go Go.Vc
def T : Tab := [
  (3, ⟨.int .i64, .one (.int .i64), 1, .int .i64 0, 8, false⟩),
  (4, ⟨.bool, .one .bool, 1, .bool false, 1, false⟩),
  (9, ⟨.str, .one .str, 1, .string (⟨#[]⟩ : ByteArray), 16, false⟩),
  (22, ⟨.int .i64, .one (.int .i64), 1, .int .i64 0, 8, false⟩),
  (24, ⟨.struct [(0, 3, 1), (1, 9, 1), (2, 9, 1), (3, 22, 1), (4, 4, 1), (5, 3, 1), (6, 3, 1), (7, 3, 1)], .agg [.int .i64, .str, .str, .int .i64, .bool, .int .i64, .int .i64, .int .i64], 8, .agg #[.int .i64 0, .string (⟨#[]⟩ : ByteArray), .string (⟨#[]⟩ : ByteArray), .int .i64 0, .bool false, .int .i64 0, .int .i64 0, .int .i64 0], 80, true⟩),
  (33, ⟨.slice 58 6, .one .sl, 1, .slice none 0 0, 24, false⟩),
  (35, ⟨.struct [(0, 32, 16), (16, 33, 1)], .agg [.int .i64, .int .i64, .int .i64, .int .i64, .int .i64, .int .i64, .int .i64, .int .i64, .int .i64, .int .i64, .int .i64, .int .i64, .int .i64, .int .i64, .int .i64, .int .i64, .sl], 17, .agg #[.int .i64 0, .int .i64 0, .int .i64 0, .int .i64 0, .int .i64 0, .int .i64 0, .int .i64 0, .int .i64 0, .int .i64 0, .int .i64 0, .int .i64 0, .int .i64 0, .int .i64 0, .int .i64 0, .int .i64 0, .int .i64 0, .slice none 0 0], 152, false⟩),
  (36, ⟨.slice 72 18, .one .sl, 1, .slice none 0 0, 24, false⟩),
  (39, ⟨.struct [(0, 36, 1), (1, 37, 1)], .agg [.sl, .sl], 2, .agg #[.slice none 0 0, .slice none 0 0], 48, false⟩),
  (41, ⟨.struct [(0, 35, 17), (17, 39, 2)], .agg [.int .i64, .int .i64, .int .i64, .int .i64, .int .i64, .int .i64, .int .i64, .int .i64, .int .i64, .int .i64, .int .i64, .int .i64, .int .i64, .int .i64, .int .i64, .int .i64, .sl, .sl, .sl], 19, .agg #[.int .i64 0, .int .i64 0, .int .i64 0, .int .i64 0, .int .i64 0, .int .i64 0, .int .i64 0, .int .i64 0, .int .i64 0, .int .i64 0, .int .i64 0, .int .i64 0, .int .i64 0, .int .i64 0, .int .i64 0, .int .i64 0, .slice none 0 0, .slice none 0 0, .slice none 0 0], 200, false⟩),
  (43, ⟨.slice 24 8, .one .sl, 1, .slice none 0 0, 24, false⟩),
  (44, ⟨.other, .tup [(false, [.sl]), (false, [.int .i64])], 0, undef, 0, false⟩),
  (49, ⟨.struct [(0, 3, 1), (1, 9, 1), (2, 9, 1)], .agg [.int .i64, .str, .str], 3, .agg #[.int .i64 0, .string (⟨#[]⟩ : ByteArray), .string (⟨#[]⟩ : ByteArray)], 40, true⟩),
  (50, ⟨.slice 49 3, .one .sl, 1, .slice none 0 0, 24, false⟩),
  (51, ⟨.slice 50 1, .one .sl, 1, .slice none 0 0, 24, false⟩),
  (52, ⟨.slice 3 1, .one .sl, 1, .slice none 0 0, 24, false⟩),
  (58, ⟨.struct [(0, 51, 1), (1, 52, 1), (2, 53, 1), (3, 56, 3)], .agg [.sl, .sl, .sl, .int .i64, .int .i64, .sl], 6, .agg #[.slice none 0 0, .slice none 0 0, .slice none 0 0, .int .i64 0, .int .i64 0, .slice none 0 0], 112, false⟩),
  (60, ⟨.struct [(0, 3, 1), (1, 3, 1), (2, 3, 1), (3, 4, 1)], .agg [.int .i64, .int .i64, .int .i64, .bool], 4, .agg #[.int .i64 0, .int .i64 0, .int .i64 0, .bool false], 32, true⟩),
  (61, ⟨.slice 60 4, .one .sl, 1, .slice none 0 0, 24, false⟩),
  (63, ⟨.struct [(0, 22, 1), (1, 4, 1), (2, 9, 1)], .agg [.int .i64, .bool, .str], 3, .agg #[.int .i64 0, .bool false, .string (⟨#[]⟩ : ByteArray)], 32, true⟩),
  (64, ⟨.slice 63 3, .one .sl, 1, .slice none 0 0, 24, false⟩),
  (65, ⟨.slice 64 1, .one .sl, 1, .slice none 0 0, 24, false⟩),
  (72, ⟨.struct [(0, 61, 1), (1, 65, 1), (2, 3, 1), (3, 4, 1), (4, 68, 8), (12, 70, 6)], .agg [.sl, .sl, .int .i64, .bool, .int .u64, .int .u64, .int .u64, .int .i64, .int .i64, .int .i64, .int .i64, .bool, .int .i64, .int .i64, .int .i64, .int .i64, .int .i64, .sl], 18, .agg #[.slice none 0 0, .slice none 0 0, .int .i64 0, .bool false, .int .u64 0, .int .u64 0, .int .u64 0, .int .i64 0, .int .i64 0, .int .i64 0, .int .i64 0, .bool false, .int .i64 0, .int .i64 0, .int .i64 0, .int .i64 0, .int .i64 0, .slice none 0 0], 192, false⟩),
  (73, ⟨.other, .tup [(false, [.sl]), (false, [.bool])], 0, undef, 0, false⟩),
  (75, ⟨.other, .tup [(false, [.int .i64]), (false, [.int .i64])], 0, undef, 0, false⟩),
  (78, ⟨.slice 80 3, .one .sl, 1, .slice none 0 0, 24, false⟩),
  (80, ⟨.struct [(0, 3, 1), (1, 3, 1), (2, 4, 1)], .agg [.int .i64, .int .i64, .bool], 3, .agg #[.int .i64 0, .int .i64 0, .bool false], 24, true⟩)]
theorem T_ok : TabOk Try.prog T :=
  tab_cons (tok_mk (by kernel_rfl) (by kernel_rfl) (by kernel_rfl) rfl) <|
  tab_cons (tok_mk (by kernel_rfl) (by kernel_rfl) (by kernel_rfl) rfl) <|
  tab_cons (tok_mk (by kernel_rfl) (by kernel_rfl) (by kernel_rfl) rfl) <|
  tab_cons (tok_mk (by kernel_rfl) (by kernel_rfl) (by kernel_rfl) rfl) <|
  tab_cons (tok_eq [.int .i64, .str, .str, .int .i64, .bool, .int .i64, .int .i64, .int .i64] (by kernel_rfl) (by kernel_rfl) (by kernel_rfl) rfl (by kernel_rfl) (by kernel_rfl)) <|
  tab_cons (tok_mk (by kernel_rfl) (by kernel_rfl) (by kernel_rfl) rfl) <|
  tab_cons (tok_mk (by kernel_rfl) (by kernel_rfl) (by kernel_rfl) rfl) <|
  tab_cons (tok_mk (by kernel_rfl) (by kernel_rfl) (by kernel_rfl) rfl) <|
  tab_cons (tok_mk (by kernel_rfl) (by kernel_rfl) (by kernel_rfl) rfl) <|
  tab_cons (tok_mk (by kernel_rfl) (by kernel_rfl) (by kernel_rfl) rfl) <|
  tab_cons (tok_mk (by kernel_rfl) (by kernel_rfl) (by kernel_rfl) rfl) <|
  tab_cons (tok_tup _ _ _ _ _ _ _) <|
  tab_cons (tok_eq [.int .i64, .str, .str] (by kernel_rfl) (by kernel_rfl) (by kernel_rfl) rfl (by kernel_rfl) (by kernel_rfl)) <|
  tab_cons (tok_mk (by kernel_rfl) (by kernel_rfl) (by kernel_rfl) rfl) <|
  tab_cons (tok_mk (by kernel_rfl) (by kernel_rfl) (by kernel_rfl) rfl) <|
  tab_cons (tok_mk (by kernel_rfl) (by kernel_rfl) (by kernel_rfl) rfl) <|
  tab_cons (tok_mk (by kernel_rfl) (by kernel_rfl) (by kernel_rfl) rfl) <|
  tab_cons (tok_eq [.int .i64, .int .i64, .int .i64, .bool] (by kernel_rfl) (by kernel_rfl) (by kernel_rfl) rfl (by kernel_rfl) (by kernel_rfl)) <|
  tab_cons (tok_mk (by kernel_rfl) (by kernel_rfl) (by kernel_rfl) rfl) <|
  tab_cons (tok_eq [.int .i64, .bool, .str] (by kernel_rfl) (by kernel_rfl) (by kernel_rfl) rfl (by kernel_rfl) (by kernel_rfl)) <|
  tab_cons (tok_mk (by kernel_rfl) (by kernel_rfl) (by kernel_rfl) rfl) <|
  tab_cons (tok_mk (by kernel_rfl) (by kernel_rfl) (by kernel_rfl) rfl) <|
  tab_cons (tok_mk (by kernel_rfl) (by kernel_rfl) (by kernel_rfl) rfl) <|
  tab_cons (tok_tup _ _ _ _ _ _ _) <|
  tab_cons (tok_tup _ _ _ _ _ _ _) <|
  tab_cons (tok_mk (by kernel_rfl) (by kernel_rfl) (by kernel_rfl) rfl) <|
  tab_cons (tok_eq [.int .i64, .int .i64, .bool] (by kernel_rfl) (by kernel_rfl) (by kernel_rfl) rfl (by kernel_rfl) (by kernel_rfl)) <| tab_nil

def FL : List Nat := [5, 6, 7, 8, 9, 10, 11, 12, 13, 14, 15, 16, 17]
theorem FL_ok : FOk Try.prog FL :=
  fl_cons ⟨Try.f5, Try.func5, by kernel_rfl, by kernel_rfl⟩ <| fl_cons ⟨Try.f6, Try.func6, by kernel_rfl, by kernel_rfl⟩ <| fl_cons ⟨Try.f7, Try.func7, by kernel_rfl, by kernel_rfl⟩ <| fl_cons ⟨Try.f8, Try.func8, by kernel_rfl, by kernel_rfl⟩ <| fl_cons ⟨Try.f9, Try.func9, by kernel_rfl, by kernel_rfl⟩ <| fl_cons ⟨Try.f10, Try.func10, by kernel_rfl, by kernel_rfl⟩ <| fl_cons ⟨Try.f11, Try.func11, by kernel_rfl, by kernel_rfl⟩ <| fl_cons ⟨Try.f12, Try.func12, by kernel_rfl, by kernel_rfl⟩ <| fl_cons ⟨Try.f13, Try.func13, by kernel_rfl, by kernel_rfl⟩ <| fl_cons ⟨Try.f14, Try.func14, by kernel_rfl, by kernel_rfl⟩ <| fl_cons ⟨Try.f15, Try.func15, by kernel_rfl, by kernel_rfl⟩ <| fl_cons ⟨Try.f16, Try.func16, by kernel_rfl, by kernel_rfl⟩ <| fl_cons ⟨Try.f17, Try.func17, by kernel_rfl, by kernel_rfl⟩ <| fl_nil
theorem mixed : Try.prog.follows .mixedOrders = true := by kernel_rfl
end Go.Proofs.Ytjfafkgjcgbgfaa
