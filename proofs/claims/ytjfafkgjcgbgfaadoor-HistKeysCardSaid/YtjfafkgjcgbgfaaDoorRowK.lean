/- The readings of moves, with the bound of their keys. -/
import Derived.Test.YtjfafkgjcgbgfaaDoorRow
import Derived.Test.YtjfafkgjcgbgfaaDoorHjZ
import Derived.SevenTiedAt
import Derived.LaidMore
import Derived.Lay
set_option maxRecDepth 20000
namespace Go.Proofs.YtjfafkgjcgbgfaaDoor
open Go Go.Vc Go.RowKit Go.ChangeShapes Go.WideShapes Go.ChangeAt

section
variable {H : Type} {enc : TypeId × Value → H} {w : World}
theorem moves_keyed {q : Option Addr} {l c : Nat} (g : Rdg enc Tryd.prog w 23 [.slice q l c]) : l * 80 ≤ 140737488351232 ∧ ∃ ms : List Mv, RE En.mv w q l ms ∧ ∀ m ∈ ms, m.key.size ≤ maxLen := by
  have hb : Tryd.prog.bytesOf 33 = 80 := by kernel_rfl
  have hc : Tryd.prog.cellsOf 33 = 8 := by kernel_rfl
  have hc9 : Tryd.prog.cellsOf 9 = 1 := by kernel_rfl
  have hk : flatK Tryd.prog 3 33 = some [.int .i64, .str, .str, .int .i64, .bool, .int .i64, .int .i64, .int .i64] := by kernel_rfl
  obtain ⟨_, _, h3, h4⟩ := g.slice Tryd.underlying23
  rw [hb] at h3
  obtain ⟨ms, hl, hp⟩ := list_of (R := fun i (m : Mv) => (∃ a, q = some a ∧ reads w (a.add (i * 8)) (En.mv.enc m)) ∧ m.key.size ≤ maxLen) (l := l) (fun i hi => by
    obtain ⟨a, us, ha, _, hr, hg⟩ := h4 i hi
    rw [hc] at hr
    have : exKs [.int .i64, .str, .str, .int .i64, .bool, .int .i64, .int .i64, .int .i64] fun vs => us = vs := areK_ex (hg.kinds 3 hk) rfl
    obtain ⟨k, s, t, e, b', l, f, o, rfl⟩ := this
    have f1 : Rdg enc Tryd.prog w 9 ((([.int .i64 k, .string s, .string t, .int .i64 e, .bool b', .int .i64 l, .int .i64 f, .int .i64 o] : List Value).drop 1).take (Tryd.prog.cellsOf 9)) := hg.field Tryd.underlying33 (i := 1) rfl
    rw [hc9] at f1
    have y1 := Rdg.str (show Rdg enc Tryd.prog w 9 [.string s] from f1) Tryd.underlying9
    exact ⟨⟨k, s, t, e, b', l, f, o⟩, ⟨a, ha, hr⟩, by show s.size ≤ _; simp only [maxLen]; omega⟩)
  exact ⟨h3, ms, ⟨hl, fun i m hi => (hp i m hi).1⟩, fun m hm => by obtain ⟨i, hi⟩ := List.getElem?_of_mem hm; exact (hp i m hi).2⟩
end
end Go.Proofs.YtjfafkgjcgbgfaaDoor
