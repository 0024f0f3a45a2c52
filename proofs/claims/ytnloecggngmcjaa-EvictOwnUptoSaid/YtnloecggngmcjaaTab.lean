import Derived.Test.YtnloecggngmcjaaProg
import Derived.Test.YtnloecggngmcjaaVc7
set_option maxRecDepth 20000
namespace Go.Proofs.Ytnloecggngmcjaa
open Go Go.Vc
def T : Tab := [
  (0, ⟨.other, .tup [], 0, undef, 0, false⟩),
  (3, ⟨.int .i64, .one (.int .i64), 1, .int .i64 0, 8, false⟩),
  (4, ⟨.bool, .one .bool, 1, .bool false, 1, false⟩),
  (5, ⟨.int .u8, .one (.int .u8), 1, .int .u8 0, 1, false⟩),
  (22, ⟨.slice 30 2, .one .sl, 1, .slice none 0 0, 24, false⟩),
  (24, ⟨.struct [(0, 3, 1), (1, 3, 1), (2, 3, 1), (3, 22, 1)], .agg [.int .i64, .int .i64, .int .i64, .sl], 4, .agg #[.int .i64 0, .int .i64 0, .int .i64 0, .slice none 0 0], 48, false⟩),
  (25, ⟨.ptr 4, .one .ptr, 1, .pointer none, 8, false⟩),
  (26, ⟨.ptr 5, .one .ptr, 1, .pointer none, 8, false⟩),
  (27, ⟨.other, .tup [(false, [.ptr]), (false, [.ptr]), (false, [.bool])], 0, undef, 0, false⟩),
  (30, ⟨.struct [(0, 3, 1), (1, 3, 1)], .agg [.int .i64, .int .i64], 2, .agg #[.int .i64 0, .int .i64 0], 16, true⟩),
  (31, ⟨.int .i64, .one (.int .i64), 1, .int .i64 0, 8, false⟩),
  (34, ⟨.other, .tup [(false, [.int .i64]), (false, [.bool])], 0, undef, 0, false⟩),
  (36, ⟨.slice 3 1, .one .sl, 1, .slice none 0 0, 24, false⟩),
  (39, ⟨.other, .tup [(false, [.ptr]), (false, [.int .i64])], 0, undef, 0, false⟩),
  (46, ⟨.slice 36 1, .one .sl, 1, .slice none 0 0, 24, false⟩),
  (50, ⟨.ptr 4, .one .ptr, 1, .pointer none, 8, false⟩),
  (51, ⟨.slice 50 1, .one .sl, 1, .slice none 0 0, 24, false⟩),
  (53, ⟨.struct [(0, 3, 1), (1, 3, 1), (2, 50, 1), (3, 51, 1)], .agg [.int .i64, .int .i64, .ptr, .sl], 4, .agg #[.int .i64 0, .int .i64 0, .pointer none, .slice none 0 0], 48, false⟩),
  (54, ⟨.slice 25 1, .one .sl, 1, .slice none 0 0, 24, false⟩),
  (57, ⟨.other, .tup [(false, [.ptr]), (false, [.int .i64])], 0, undef, 0, false⟩),
  (60, ⟨.struct [(0, 50, 1), (1, 50, 1), (2, 3, 1), (3, 4, 1)], .agg [.ptr, .ptr, .int .i64, .bool], 4, .agg #[.pointer none, .pointer none, .int .i64 0, .bool false], 32, false⟩),
  (62, ⟨.slice 4 1, .one .sl, 1, .slice none 0 0, 24, false⟩),
  (64, ⟨.struct [(0, 3, 1), (1, 3, 1), (2, 3, 1), (3, 36, 1), (4, 62, 1)], .agg [.int .i64, .int .i64, .int .i64, .sl, .sl], 5, .agg #[.int .i64 0, .int .i64 0, .int .i64 0, .slice none 0 0, .slice none 0 0], 72, false⟩)]
theorem T_ok : TabOk Try.prog T :=
  tab_cons (tok_tup _ _ _ _ _ _ _) <|
  tab_cons (tok_mk (by kernel_rfl) (by kernel_rfl) (by kernel_rfl) rfl) <|
  tab_cons (tok_mk (by kernel_rfl) (by kernel_rfl) (by kernel_rfl) rfl) <|
  tab_cons (tok_mk (by kernel_rfl) (by kernel_rfl) (by kernel_rfl) rfl) <|
  tab_cons (tok_mk (by kernel_rfl) (by kernel_rfl) (by kernel_rfl) rfl) <|
  tab_cons (tok_mk (by kernel_rfl) (by kernel_rfl) (by kernel_rfl) rfl) <|
  tab_cons (tok_mk (by kernel_rfl) (by kernel_rfl) (by kernel_rfl) rfl) <|
  tab_cons (tok_mk (by kernel_rfl) (by kernel_rfl) (by kernel_rfl) rfl) <|
  tab_cons (tok_tup _ _ _ _ _ _ _) <|
  tab_cons (tok_eq [.int .i64, .int .i64] (by kernel_rfl) (by kernel_rfl) (by kernel_rfl) rfl (by kernel_rfl) (by kernel_rfl)) <|
  tab_cons (tok_mk (by kernel_rfl) (by kernel_rfl) (by kernel_rfl) rfl) <|
  tab_cons (tok_tup _ _ _ _ _ _ _) <|
  tab_cons (tok_mk (by kernel_rfl) (by kernel_rfl) (by kernel_rfl) rfl) <|
  tab_cons (tok_tup _ _ _ _ _ _ _) <|
  tab_cons (tok_mk (by kernel_rfl) (by kernel_rfl) (by kernel_rfl) rfl) <|
  tab_cons (tok_mk (by kernel_rfl) (by kernel_rfl) (by kernel_rfl) rfl) <|
  tab_cons (tok_mk (by kernel_rfl) (by kernel_rfl) (by kernel_rfl) rfl) <|
  tab_cons (tok_mk (by kernel_rfl) (by kernel_rfl) (by kernel_rfl) rfl) <|
  tab_cons (tok_mk (by kernel_rfl) (by kernel_rfl) (by kernel_rfl) rfl) <|
  tab_cons (tok_tup _ _ _ _ _ _ _) <|
  tab_cons (tok_mk (by kernel_rfl) (by kernel_rfl) (by kernel_rfl) rfl) <|
  tab_cons (tok_mk (by kernel_rfl) (by kernel_rfl) (by kernel_rfl) rfl) <|
  tab_cons (tok_mk (by kernel_rfl) (by kernel_rfl) (by kernel_rfl) rfl) <| tab_nil

def FL : List Nat := [10, 11, 12, 13, 14, 15, 16, 17, 18, 19, 20, 21, 22, 23, 24, 25, 26, 27, 28, 29, 30, 31, 32, 33, 34, 35, 36, 37, 38]
theorem FL_ok : FOk Try.prog FL :=
  fl_cons ⟨Try.f10, Try.func10, by kernel_rfl, by kernel_rfl⟩ <| fl_cons ⟨Try.f11, Try.func11, by kernel_rfl, by kernel_rfl⟩ <| fl_cons ⟨Try.f12, Try.func12, by kernel_rfl, by kernel_rfl⟩ <| fl_cons ⟨Try.f13, Try.func13, by kernel_rfl, by kernel_rfl⟩ <| fl_cons ⟨Try.f14, Try.func14, by kernel_rfl, by kernel_rfl⟩ <| fl_cons ⟨Try.f15, Try.func15, by kernel_rfl, by kernel_rfl⟩ <| fl_cons ⟨Try.f16, Try.func16, by kernel_rfl, by kernel_rfl⟩ <| fl_cons ⟨Try.f17, Try.func17, by kernel_rfl, by kernel_rfl⟩ <| fl_cons ⟨Try.f18, Try.func18, by kernel_rfl, by kernel_rfl⟩ <| fl_cons ⟨Try.f19, Try.func19, by kernel_rfl, by kernel_rfl⟩ <| fl_cons ⟨Try.f20, Try.func20, by kernel_rfl, by kernel_rfl⟩ <| fl_cons ⟨Try.f21, Try.func21, by kernel_rfl, by kernel_rfl⟩ <| fl_cons ⟨Try.f22, Try.func22, by kernel_rfl, by kernel_rfl⟩ <| fl_cons ⟨Try.f23, Try.func23, by kernel_rfl, by kernel_rfl⟩ <| fl_cons ⟨Try.f24, Try.func24, by kernel_rfl, by kernel_rfl⟩ <| fl_cons ⟨Try.f25, Try.func25, by kernel_rfl, by kernel_rfl⟩ <| fl_cons ⟨Try.f26, Try.func26, by kernel_rfl, by kernel_rfl⟩ <| fl_cons ⟨Try.f27, Try.func27, by kernel_rfl, by kernel_rfl⟩ <| fl_cons ⟨Try.f28, Try.func28, by kernel_rfl, by kernel_rfl⟩ <| fl_cons ⟨Try.f29, Try.func29, by kernel_rfl, by kernel_rfl⟩ <| fl_cons ⟨Try.f30, Try.func30, by kernel_rfl, by kernel_rfl⟩ <| fl_cons ⟨Try.f31, Try.func31, by kernel_rfl, by kernel_rfl⟩ <| fl_cons ⟨Try.f32, Try.func32, by kernel_rfl, by kernel_rfl⟩ <| fl_cons ⟨Try.f33, Try.func33, by kernel_rfl, by kernel_rfl⟩ <| fl_cons ⟨Try.f34, Try.func34, by kernel_rfl, by kernel_rfl⟩ <| fl_cons ⟨Try.f35, Try.func35, by kernel_rfl, by kernel_rfl⟩ <| fl_cons ⟨Try.f36, Try.func36, by kernel_rfl, by kernel_rfl⟩ <| fl_cons ⟨Try.f37, Try.func37, by kernel_rfl, by kernel_rfl⟩ <| fl_cons ⟨Try.f38, Try.func38, by kernel_rfl, by kernel_rfl⟩ <| fl_nil
theorem mixed : Try.prog.follows .mixedOrders = true := by kernel_rfl
end Go.Proofs.Ytnloecggngmcjaa
