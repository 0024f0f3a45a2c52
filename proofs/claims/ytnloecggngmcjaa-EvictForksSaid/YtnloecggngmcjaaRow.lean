/- What the evict laws' rows share: a script's reading gives its steps' cells. -/
import Derived.Test.YtnloecggngmcjaaRows
import Derived.Test.YtnloecggngmcjaaChecked
import Derived.Test.YtnloecggngmcjaaEvI
import Derived.Test.YtnloecggngmcjaaFr
set_option maxRecDepth 20000
namespace Go.Proofs.Ytnloecggngmcjaa
open Go Go.Vc Go.RowKit Go.ChangeShapes Go.WideShapes Go.ChangeAt Go.Vc.Ring
theorem own : ownKnob Try.prog.godebug = none := by kernel_rfl
theorem laid : laidOutB Try.prog = true := by kernel_rfl

section
variable {H : Type} {enc : TypeId × Value → H} {w : World} {base : Nat} {spare : Nat → Bool} {held : Bool}
theorem ops_trod {q : Option Addr} {l c n : Nat} {y : DataW H × List MemPlace} (h : DataW.trod enc Try.prog w base spare held n 22 [.slice q l c] = some y) : Ops w q l ∧ l ≤ 9223372036854775807 := by
  have hk : flatK Try.prog 3 30 = some [.int .i64, .int .i64] := by kernel_rfl
  have hc : Try.prog.cellsOf 30 = 2 := by kernel_rfl
  obtain ⟨h1, h2⟩ := slice_elems Try.underlying22 3 hk h
  refine ⟨fun i hi => ?_, by simp only [maxLen] at h1; omega⟩
  obtain ⟨a, vs, _, _, rfl, ha, _, hr, _⟩ := h2 i hi
  have : exKs [.int .i64, .int .i64] fun us => vs = us := areK_ex ha rfl
  obtain ⟨x, y, rfl⟩ := this
  rw [hc] at hr
  exact ⟨a, x, y, rfl, hr⟩
theorem script_open {r : Reach} {b0 : Nat} {v : Value} {d : DataW H} {p : List MemPlace} (hv : Value.okWide Try.prog w r b0 24 v) (h : DataW.Trod enc Try.prog w base spare held 24 v d p) :
    ∃ k n kp q l c, v = .agg #[.int .i64 k, .int .i64 n, .int .i64 kp, .slice q l c] ∧ Ops w q l ∧ l ≤ 9223372036854775807 := by
  have hk : flatK Try.prog 3 24 = some [.int .i64, .int .i64, .int .i64, .sl] := by kernel_rfl
  obtain ⟨k, n, kp, q, l, c, rfl⟩ := kinds_agg' Try.underlying24 hv h 3 hk
  obtain ⟨m, y, hf⟩ := field_trod (i := 3) (cs := [.int .i64 k, .int .i64 n, .int .i64 kp, .slice q l c]) Try.underlying24 h rfl
  have hc : Try.prog.cellsOf 22 = 1 := by kernel_rfl
  have hf' : DataW.trod enc Try.prog w base spare held m 22 [.slice q l c] = some y := by simpa [hc] using hf
  exact ⟨k, n, kp, q, l, c, rfl, ops_trod hf'⟩
theorem slice_open {r : Reach} {b0 : Nat} {v : Value} {d : DataW H} {p : List MemPlace} (hv : Value.okWide Try.prog w r b0 22 v) (h : DataW.Trod enc Try.prog w base spare held 22 v d p) : ∃ q l c, v = .slice q l c := by
  obtain ⟨q, l, c, rfl⟩ := okWide_slice Try.underlying22 hv
  exact ⟨q, l, c, rfl⟩
theorem slice_ops {q : Option Addr} {l c : Nat} {d : DataW H} {p : List MemPlace} (h : DataW.Trod enc Try.prog w base spare held 22 (.slice q l c) d p) : Ops w q l ∧ l ≤ 9223372036854775807 := by
  obtain ⟨n, hn⟩ := h
  exact ops_trod (y := (d, p)) hn
end
end Go.Proofs.Ytnloecggngmcjaa
