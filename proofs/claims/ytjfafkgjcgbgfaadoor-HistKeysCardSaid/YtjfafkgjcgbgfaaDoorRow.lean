/- What the rows of this seat share: the readings of their arguments. -/
import Derived.Test.YtjfafkgjcgbgfaaDoorRows
import Derived.Test.YtjfafkgjcgbgfaaDoorCards
import Derived.Test.YtjfafkgjcgbgfaaDoorTie
import Derived.Test.YtjfafkgjcgbgfaaDoorChecked
import Derived.Test.YtjfafkgjcgbgfaaDoorHjA
import Derived.Test.YtjfafkgjcgbgfaaDoorRg
import Derived.Test.YtjfafkgjcgbgfaaDoorOps
import Derived.SevenTiedAt
import Derived.LaidMore
import Derived.Lay
set_option maxRecDepth 20000
namespace Go.Proofs.YtjfafkgjcgbgfaaDoor
open Go Go.Vc Go.RowKit Go.ChangeShapes Go.WideShapes Go.ChangeAt
theorem own : ownKnob Tryd.prog.godebug = none := by kernel_rfl
theorem laid : laidOutB Tryd.prog = true := by kernel_rfl

section
variable {H : Type} {enc : TypeId × Value → H} {w : World}
theorem moves_open {q : Option Addr} {l c : Nat} (g : Rdg enc Tryd.prog w 23 [.slice q l c]) : l ≤ c ∧ l * 80 ≤ 140737488351232 ∧ ∃ ms : List Mv, RE En.mv w q l ms := by
  have hb : Tryd.prog.bytesOf 33 = 80 := by kernel_rfl
  have hc : Tryd.prog.cellsOf 33 = 8 := by kernel_rfl
  have hk : flatK Tryd.prog 3 33 = some [.int .i64, .str, .str, .int .i64, .bool, .int .i64, .int .i64, .int .i64] := by kernel_rfl
  obtain ⟨h1, _, h3, h4⟩ := g.slice Tryd.underlying23
  rw [hb] at h3
  refine ⟨h1, h3, RE.of' fun i hi => ?_⟩
  obtain ⟨a, us, ha, _, hr, hg⟩ := h4 i hi
  rw [hc] at hr
  have : exKs [.int .i64, .str, .str, .int .i64, .bool, .int .i64, .int .i64, .int .i64] fun vs => us = vs := areK_ex (hg.kinds 3 hk) rfl
  obtain ⟨k, s, t, e, b, l, f, o, rfl⟩ := this
  exact ⟨a, ⟨k, s, t, e, b, l, f, o⟩, ha, hr⟩
end
end Go.Proofs.YtjfafkgjcgbgfaaDoor
