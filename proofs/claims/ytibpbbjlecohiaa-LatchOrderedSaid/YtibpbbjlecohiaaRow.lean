/- What the rows of this seat share: the readings of their arguments. -/
import Derived.Test.YtibpbbjlecohiaaRows
import Derived.Test.YtibpbbjlecohiaaChecked
import Derived.Test.YtibpbbjlecohiaaLeE
import Derived.Test.YtibpbbjlecohiaaRg
import Derived.Test.YtibpbbjlecohiaaOps
set_option maxRecDepth 20000
namespace Go.Proofs.Ytibpbbjlecohiaa
open Go Go.Vc Go.RowKit Go.ChangeShapes Go.WideShapes Go.ChangeAt
theorem own : ownKnob Try.prog.godebug = none := by kernel_rfl
theorem laid : laidOutB Try.prog = true := by kernel_rfl

section
variable {H : Type} {enc : TypeId × Value → H} {w : World}
theorem ints_open {q : Option Addr} {l c : Nat} (g : Rdg enc Try.prog w 35 [.slice q l c]) : l ≤ c ∧ l * 8 ≤ 140737488351232 ∧ ∃ xs : List Int, RE En.int w q l xs := by
  obtain ⟨h1, _, h3, h4⟩ := g.slice Try.underlying35
  have hb : Try.prog.bytesOf 3 = 8 := by kernel_rfl
  have hc : Try.prog.cellsOf 3 = 1 := by kernel_rfl
  have hk : flatK Try.prog 2 3 = some [.int .i64] := by kernel_rfl
  rw [hb] at h3
  refine ⟨h1, h3, RE.of' fun i hi => ?_⟩
  obtain ⟨a, us, ha, _, hr, hg⟩ := h4 i hi
  rw [hc] at hr
  have : exKs [.int .i64] fun vs => us = vs := areK_ex (hg.kinds 2 hk) rfl
  obtain ⟨x, rfl⟩ := this
  exact ⟨a, x, ha, hr⟩
theorem acts1_open {q : Option Addr} {l c : Nat} (g : Rdg enc Try.prog w 63 [.slice q l c]) : l ≤ c ∧ l * 24 ≤ 140737488351232 ∧ ∃ xs : List Full.Act, RE Full.En.act w q l xs := by
  obtain ⟨h1, _, h3, h4⟩ := g.slice Try.underlying63
  have hb : Try.prog.bytesOf 94 = 24 := by kernel_rfl
  have hc : Try.prog.cellsOf 94 = 3 := by kernel_rfl
  have hk : flatK Try.prog 2 94 = some [.int .i64, .int .i64, .int .i64] := by kernel_rfl
  rw [hb] at h3
  refine ⟨h1, h3, RE.of' fun i hi => ?_⟩
  obtain ⟨a, us, ha, _, hr, hg⟩ := h4 i hi
  rw [hc] at hr
  have : exKs [.int .i64, .int .i64, .int .i64] fun vs => us = vs := areK_ex (hg.kinds 2 hk) rfl
  obtain ⟨x, y, z, rfl⟩ := this
  exact ⟨a, (x, y, z), ha, hr⟩
theorem acts_open {q : Option Addr} {l c : Nat} (g : Rdg enc Try.prog w 49 [.slice q l c]) : l ≤ c ∧ l * 24 ≤ 140737488351232 ∧ ∃ acts : List (List Full.Act), Full.ActsR w (q, l, c) acts ∧ ∀ ys ∈ acts, ys.length ≤ 10000000000000 := by
  obtain ⟨h1, _, h3, h4⟩ := g.slice Try.underlying49
  have hb : Try.prog.bytesOf 63 = 24 := by kernel_rfl
  have hc : Try.prog.cellsOf 63 = 1 := by kernel_rfl
  have hk : flatK Try.prog 2 63 = some [.sl] := by kernel_rfl
  rw [hb] at h3
  obtain ⟨xs, hl, hx⟩ := list_of (R := fun i (x : Hd × List Full.Act) => (∃ a, q = some a ∧ reads w (a.add (i * 1)) (En.hd.enc x.1)) ∧ RE Full.En.act w x.1.1 x.1.2.1 x.2 ∧ x.1.2.1 ≤ 10000000000000) (l := l) (fun i hi => by
    obtain ⟨a, us, ha, _, hr, hg⟩ := h4 i hi
    rw [hc] at hr
    have : exKs [.sl] fun vs => us = vs := areK_ex (hg.kinds 2 hk) rfl
    obtain ⟨q', l', c', rfl⟩ := this
    obtain ⟨_, f2, ys, f3⟩ := acts1_open hg
    exact ⟨((q', l', c'), ys), ⟨a, ha, hr⟩, f3, by show l' ≤ _; omega⟩)
  refine ⟨h1, h3, xs.map Prod.snd, ⟨xs.map Prod.fst, ⟨by simp [hl], fun i x hi => ?_⟩, by simp, fun i x y hi hy => ?_⟩, fun ys hy => ?_⟩
  · simp only [List.getElem?_map, Option.map_eq_some_iff] at hi
    obtain ⟨z, hz, rfl⟩ := hi
    exact (hx i z hz).1
  · simp only [List.getElem?_map, Option.map_eq_some_iff] at hi hy
    obtain ⟨z, hz, rfl⟩ := hi
    obtain ⟨z', hz', rfl⟩ := hy
    rw [hz] at hz'; cases hz'
    exact (hx i z hz).2.1
  · obtain ⟨z, hz, rfl⟩ := List.mem_map.1 hy
    obtain ⟨i, hi⟩ := List.getElem?_of_mem hz
    have h5 := (hx i z hi).2
    have := h5.1.len
    omega
theorem plays_open {a b c d : Int} {q1 q2 : Option Addr} {l1 c1 l2 c2 : Nat} (g : Rdg enc Try.prog w 51 [.int .i64 a, .int .i64 b, .int .i64 c, .int .i64 d, .slice q1 l1 c1, .slice q2 l2 c2]) :
    (l1 ≤ c1 ∧ l1 * 24 ≤ 140737488351232 ∧ ∃ acts : List (List Full.Act), Full.ActsR w (q1, l1, c1) acts ∧ ∀ ys ∈ acts, ys.length ≤ 10000000000000) ∧ (l2 ≤ c2 ∧ l2 * 8 ≤ 140737488351232 ∧ ∃ xs : List Int, RE En.int w q2 l2 xs) := by
  have hc1 : Try.prog.cellsOf 49 = 1 := by kernel_rfl
  have hc2 : Try.prog.cellsOf 35 = 1 := by kernel_rfl
  have f1 : Rdg enc Try.prog w 49 ((([.int .i64 a, .int .i64 b, .int .i64 c, .int .i64 d, .slice q1 l1 c1, .slice q2 l2 c2] : List Value).drop 4).take (Try.prog.cellsOf 49)) := g.field Try.underlying51 (i := 1) rfl
  have f2 : Rdg enc Try.prog w 35 ((([.int .i64 a, .int .i64 b, .int .i64 c, .int .i64 d, .slice q1 l1 c1, .slice q2 l2 c2] : List Value).drop 5).take (Try.prog.cellsOf 35)) := g.field Try.underlying51 (i := 2) rfl
  rw [hc1] at f1
  rw [hc2] at f2
  exact ⟨acts_open f1, ints_open f2⟩
theorem u8_range {n : Int} (h : (Lit.int .u8 n).wf = true) : 0 ≤ n ∧ n ≤ 255 := by
  simp [Lit.wf, IntKind.min, IntKind.max, IntKind.signed, IntKind.bits] at h
  omega
end
end Go.Proofs.Ytibpbbjlecohiaa
