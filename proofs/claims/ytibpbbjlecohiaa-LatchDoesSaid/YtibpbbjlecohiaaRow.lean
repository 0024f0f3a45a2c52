/- What the rows of this seat share: the readings of their arguments. -/
import Derived.Test.YtibpbbjlecohiaaRows
import Derived.Test.YtibpbbjlecohiaaChecked
import Derived.Test.YtibpbbjlecohiaaLaF
import Derived.Test.YtibpbbjlecohiaaRg
import Derived.Test.YtibpbbjlecohiaaOps
set_option maxRecDepth 20000
namespace Go.Proofs.Ytibpbbjlecohiaa
open Go Go.Vc Go.RowKit Go.ChangeShapes Go.WideShapes Go.ChangeAt
theorem own : ownKnob Try.prog.godebug = none := by kernel_rfl
theorem laid : laidOutB Try.prog = true := by kernel_rfl

section
variable {H : Type} {enc : TypeId × Value → H} {w : World}
theorem ops_open {q : Option Addr} {l c : Nat} (g : Rdg enc Try.prog w 25 [.slice q l c]) : l ≤ c ∧ l * 32 ≤ 140737488351232 ∧ ∃ xs : List OpV, RE En.op w q l xs := by
  obtain ⟨h1, _, h3, h4⟩ := g.slice Try.underlying25
  have hb : Try.prog.bytesOf 32 = 32 := by kernel_rfl
  have hc : Try.prog.cellsOf 32 = 4 := by kernel_rfl
  have hk : flatK Try.prog 2 32 = some [.int .i64, .int .i64, .int .i64, .int .i64] := by kernel_rfl
  rw [hb] at h3
  refine ⟨h1, h3, RE.of' fun i hi => ?_⟩
  obtain ⟨a, us, ha, _, hr, hg⟩ := h4 i hi
  rw [hc] at hr
  have : exKs [.int .i64, .int .i64, .int .i64, .int .i64] fun vs => us = vs := areK_ex (hg.kinds 2 hk) rfl
  obtain ⟨x, y, z, u, rfl⟩ := this
  exact ⟨a, ⟨x, y, z, u⟩, ha, hr⟩
theorem script_open {a b c d : Int} {q : Option Addr} {l k : Nat} (g : Rdg enc Try.prog w 40 [.int .i64 a, .int .i64 b, .int .i64 c, .int .i64 d, .slice q l k]) : l ≤ k ∧ l * 32 ≤ 140737488351232 ∧ ∃ xs : List OpV, RE En.op w q l xs := by
  have hc1 : Try.prog.cellsOf 25 = 1 := by kernel_rfl
  have f1 : Rdg enc Try.prog w 25 ((([.int .i64 a, .int .i64 b, .int .i64 c, .int .i64 d, .slice q l k] : List Value).drop 4).take (Try.prog.cellsOf 25)) := g.field Try.underlying40 (i := 1) rfl
  rw [hc1] at f1
  exact ops_open f1
end
end Go.Proofs.Ytibpbbjlecohiaa
