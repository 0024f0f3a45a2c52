/- The readings of moves, with the bound, and the table of the powers of ten. -/
import Derived.Test.YtjfafkgjcgbgfaaDoorRowB
import Derived.Test.YtjfafkgjcgbgfaaDoorHjV
import Derived.SevenTiedAt
import Derived.LaidMore
import Derived.Lay
import Derived.Lib.LaidTab
set_option maxRecDepth 20000
namespace Go.Proofs.YtjfafkgjcgbgfaaDoor
open Go Go.Vc Go.RowKit Go.ChangeShapes Go.WideShapes Go.ChangeAt

section
variable {H : Type} {enc : TypeId × Value → H} {w : World}
theorem Rb.str {P : Program} {t : TypeId} {s : ByteArray} {B : Nat} (h : Rb enc P w t [.string s] B) (ht : P.underlying t = some .string) : s.size ≤ B := by
  obtain ⟨base, spare, held, n, y, hy, hfit⟩ := h
  cases n with
  | zero => simp [DataW.trod] at hy
  | succ n =>
    unfold DataW.trod at hy
    rw [ht] at hy
    simp only at hy
    split at hy
    · cases hy
      simp only [Rows.uptoBulk] at hfit
      rw [s_size]; omega
    · cases hy
theorem moves_bulk {q : Option Addr} {l c : Nat} (g : Rb enc Tryd.prog w 23 [.slice q l c] 1048576) : l ≤ 1048576 ∧ ∃ ms : List Mv, RE En.mv w q l ms ∧ Small ms := by
  have hc : Tryd.prog.cellsOf 33 = 8 := by kernel_rfl
  have hc9 : Tryd.prog.cellsOf 9 = 1 := by kernel_rfl
  have hk : flatK Tryd.prog 3 33 = some [.int .i64, .str, .str, .int .i64, .bool, .int .i64, .int .i64, .int .i64] := by kernel_rfl
  obtain ⟨h1, bs, hb, hs, hx⟩ := g.slice Tryd.underlying23
  obtain ⟨ms, hl, hp⟩ := list_of (R := fun i (m : Mv) => (∃ a, q = some a ∧ reads w (a.add (i * 8)) (En.mv.enc m)) ∧ m.key.size ≤ 1048576 ∧ m.val.size ≤ 1048576) (l := l) (fun i hi => by
    obtain ⟨b, hbi⟩ := get_ex (l := bs) (i := i) (by omega)
    obtain ⟨a, us, ha, _, hr, hg⟩ := hx i b hbi
    rw [hc] at hr
    have hbs : b ≤ bs.sum := sum_at hbi
    have : exKs [.int .i64, .str, .str, .int .i64, .bool, .int .i64, .int .i64, .int .i64] fun vs => us = vs := areK_ex (hg.kinds 3 hk) rfl
    obtain ⟨k, s, t, e, b', l, f, o, rfl⟩ := this
    have f1 : Rb enc Tryd.prog w 9 ((([.int .i64 k, .string s, .string t, .int .i64 e, .bool b', .int .i64 l, .int .i64 f, .int .i64 o] : List Value).drop 1).take (Tryd.prog.cellsOf 9)) b := hg.field Tryd.underlying33 (i := 1) rfl
    have f2 : Rb enc Tryd.prog w 9 ((([.int .i64 k, .string s, .string t, .int .i64 e, .bool b', .int .i64 l, .int .i64 f, .int .i64 o] : List Value).drop 2).take (Tryd.prog.cellsOf 9)) b := hg.field Tryd.underlying33 (i := 2) rfl
    rw [hc9] at f1 f2
    have y1 := Rb.str (show Rb enc Tryd.prog w 9 [.string s] b from f1) Tryd.underlying9
    have y2 := Rb.str (show Rb enc Tryd.prog w 9 [.string t] b from f2) Tryd.underlying9
    exact ⟨⟨k, s, t, e, b', l, f, o⟩, ⟨a, ha, hr⟩, by show s.size ≤ _; omega, by show t.size ≤ _; omega⟩)
  exact ⟨h1, ms, ⟨hl, fun i m hi => (hp i m hi).1⟩, fun m hm => by obtain ⟨i, hi⟩ := List.getElem?_of_mem hm; exact (hp i m hi).2⟩
end
theorem table {W : World} (h : laidMetH Tryd.prog Rows.histPrintsUptoRow.laid W) : Lib.TabIs Tryd.prog W "internal/strconv.uint64pow10" .u64 Lib.pow10Tab := by
  rw [MakeChecks.laidMetH_plain _ _ _ (by kernel_rfl)] at h
  obtain ⟨ps, ⟨_, _, _, _, _, _, _, _, _, _, ⟨_, _, _, _, _, _, _, _, _, _, ⟨g', t', cs, fuel, p, q, hg', ht', hvar, hd, _, _⟩, _⟩, _⟩, _⟩ := h
  have hg : Tryd.prog.globalNamed "internal/strconv.uint64pow10" = some g' := hg'
  obtain rfl := Option.some.inj ((show Tryd.prog.globalNamed "internal/strconv.uint64pow10" = some 1 by kernel_rfl).symm.trans hg)
  obtain rfl := Option.some.inj ((show (Tryd.prog.globals[1]?).map (·.type) = some 183 by kernel_rfl).symm.trans ht')
  have := Lib.cells_of_tab (zs := Lib.pow10Tab) (k := .u64) Tryd.underlying183 (e := 54) (n := 20) Tryd.underlying54 (by kernel_rfl) (by kernel_rfl) hd
  unfold Lib.TabIs
  rw [hvar]
  congr 1
  exact Array.toList_inj.1 (by simpa using this)
end Go.Proofs.YtjfafkgjcgbgfaaDoor
