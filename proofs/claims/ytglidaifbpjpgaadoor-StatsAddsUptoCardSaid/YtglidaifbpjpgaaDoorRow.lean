/- What the rows of this seat share: the readings of their arguments. -/
import Derived.Test.YtglidaifbpjpgaaDoorRows
import Derived.Test.YtglidaifbpjpgaaDoorCards
import Derived.Test.YtglidaifbpjpgaaDoorTie
import Derived.Test.YtglidaifbpjpgaaDoorChecked
import Derived.Test.YtglidaifbpjpgaaDoorStH
import Derived.Test.YtglidaifbpjpgaaDoorRg
import Derived.Test.YtglidaifbpjpgaaDoorOps
import Derived.Test.YtglidaifbpjpgaaDoorShelf
import Derived.SevenTiedAt
import Derived.LaidMore
import Derived.Lib.LaidTab
set_option maxRecDepth 20000
namespace Go.Proofs.YtglidaifbpjpgaaDoor
open Go Go.Vc Go.RowKit Go.ChangeShapes Go.WideShapes Go.ChangeAt
theorem own : ownKnob Tryd.prog.godebug = none := by kernel_rfl
theorem laid : laidOutB Tryd.prog = true := by kernel_rfl

section
variable {H : Type} {enc : TypeId × Value → H} {w : World}
theorem int_wf {z : Int} (g : Rdg enc Tryd.prog w 3 [.int .i64 z]) : -9223372036854775808 ≤ z ∧ z ≤ 9223372036854775807 := by
  obtain ⟨n, e, h⟩ := areK_int (g.kinds 1 (by kernel_rfl))
  cases e
  exact wf64 h
theorem ints_open {q : Option Addr} {l c : Nat} (g : Rdg enc Tryd.prog w 28 [.slice q l c]) : l ≤ c ∧ l ≤ 17592186043904 ∧ (q = none → l = 0) ∧ ∃ xs : List Int, RE En.int w q l xs := by
  obtain ⟨h1, _, h3, xs, hx, _⟩ := g.ints Tryd.underlying28 (by kernel_rfl) (by kernel_rfl) (by kernel_rfl)
  refine ⟨h1, h3, fun hq => ?_, xs, hx⟩
  rcases Nat.eq_zero_or_pos l with h0 | h0
  · exact h0
  · obtain ⟨a, _, ha, _⟩ := hx.ex h0
    rw [hq] at ha; cases ha
theorem moves_open {q : Option Addr} {l c : Nat} (g : Rdg enc Tryd.prog w 27 [.slice q l c]) : l ≤ 1759218604440 ∧ ∃ ms : List Mv, RE En.mv w q l ms := by
  have hb : Tryd.prog.bytesOf 96 = 80 := by kernel_rfl
  have hc : Tryd.prog.cellsOf 96 = 8 := by kernel_rfl
  have hk : flatK Tryd.prog 3 96 = some [.int .i64, .str, .str, .int .i64, .bool, .int .i64, .int .i64, .int .i64] := by kernel_rfl
  obtain ⟨_, _, h3, h4⟩ := g.slice Tryd.underlying27
  rw [hb] at h3
  refine ⟨by omega, RE.of' fun i hi => ?_⟩
  obtain ⟨a, us, ha, _, hr, hg⟩ := h4 i hi
  rw [hc] at hr
  have : exKs [.int .i64, .str, .str, .int .i64, .bool, .int .i64, .int .i64, .int .i64] fun vs => us = vs := areK_ex (hg.kinds 3 hk) rfl
  obtain ⟨k, s, t, e, b, l, f, o, rfl⟩ := this
  exact ⟨a, ⟨k, s, t, e, b, l, f, o⟩, ha, hr⟩
end
theorem table {W : World} (h : laidMetH Tryd.prog Rows.statsRatiosRow.laid W) : Lib.TabIs Tryd.prog W "internal/strconv.uint64pow10" .u64 Lib.pow10Tab := by
  rw [MakeChecks.laidMetH_plain _ _ _ (by kernel_rfl)] at h
  obtain ⟨ps, ⟨_, _, _, _, _, _, _, _, _, _, ⟨_, _, _, _, _, _, _, _, _, _, ⟨g', t', cs, fuel, p, q, hg', ht', hvar, hd, _, _⟩, _⟩, _⟩, _⟩ := h
  have hg : Tryd.prog.globalNamed "internal/strconv.uint64pow10" = some g' := hg'
  obtain rfl := Option.some.inj ((show Tryd.prog.globalNamed "internal/strconv.uint64pow10" = some 0 by kernel_rfl).symm.trans hg)
  obtain rfl := Option.some.inj ((show (Tryd.prog.globals[0]?).map (·.type) = some 146 by kernel_rfl).symm.trans ht')
  have := Lib.cells_of_tab (zs := Lib.pow10Tab) (k := .u64) Tryd.underlying146 (e := 85) (n := 20) Tryd.underlying85 (by kernel_rfl) (by kernel_rfl) hd
  unfold Lib.TabIs
  rw [hvar]
  congr 1
  exact Array.toList_inj.1 (by simpa using this)
end Go.Proofs.YtglidaifbpjpgaaDoor
