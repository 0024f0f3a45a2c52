/- What the rows of this seat share: the readings of their arguments. -/
import Derived.Test.YtdlbmmodlkmofaaGreatDoorRows
import Derived.Test.YtdlbmmodlkmofaaGreatDoorCards
import Derived.Test.YtdlbmmodlkmofaaGreatDoorTie
import Derived.Test.YtdlbmmodlkmofaaGreatDoorChecked
import Derived.Test.YtdlbmmodlkmofaaGreatDoorPzN
import Derived.Test.YtdlbmmodlkmofaaGreatDoorRg
import Derived.Test.YtdlbmmodlkmofaaGreatDoorOps
import Derived.SevenTiedAt
import Derived.LaidMore
import Derived.Lay
import Derived.Lib.LaidTab
set_option maxRecDepth 20000
namespace Go.Proofs.YtdlbmmodlkmofaaGreatDoor
open Go Go.Vc Go.RowKit Go.ChangeShapes Go.WideShapes Go.ChangeAt
theorem own : ownKnob Tryz.prog.godebug = none := by kernel_rfl
theorem laid : laidOutB Tryz.prog = true := by kernel_rfl

section
variable {H : Type} {enc : TypeId × Value → H} {w : World}
theorem t3s_open {t e : TypeId} {q : Option Addr} {l c : Nat} (g : Rdg enc Tryz.prog w t [.slice q l c]) (ht : Tryz.prog.underlying t = some (.slice e)) (hb : Tryz.prog.bytesOf e = 24) (hc : Tryz.prog.cellsOf e = 3) (hk : flatK Tryz.prog 2 e = some [.int .i64, .int .i64, .int .i64]) : l ≤ c ∧ l * 24 ≤ 140737488351232 ∧ ∃ fs : List T3, RE En.t3 w q l fs := by
  obtain ⟨h1, _, h3, h4⟩ := g.slice ht
  rw [hb] at h3
  refine ⟨h1, h3, RE.of' fun i hi => ?_⟩
  obtain ⟨a, us, ha, _, hr, hg⟩ := h4 i hi
  rw [hc] at hr
  have : exKs [.int .i64, .int .i64, .int .i64] fun vs => us = vs := areK_ex (hg.kinds 2 hk) rfl
  obtain ⟨x, y, z, rfl⟩ := this
  exact ⟨a, (x, y, z), ha, hr⟩
theorem faults_open {q : Option Addr} {l c : Nat} (g : Rdg enc Tryz.prog w 24 [.slice q l c]) : l ≤ c ∧ l * 24 ≤ 140737488351232 ∧ ∃ fs : List T3, RE En.t3 w q l fs :=
  t3s_open g Tryz.underlying24 (by kernel_rfl) (by kernel_rfl) (by kernel_rfl)
theorem fates_open {q : Option Addr} {l c : Nat} (g : Rdg enc Tryz.prog w 44 [.slice q l c]) : l ≤ c ∧ l * 24 ≤ 140737488351232 ∧ ∃ fs : List T3, RE En.t3 w q l fs :=
  t3s_open g Tryz.underlying44 (by kernel_rfl) (by kernel_rfl) (by kernel_rfl)
theorem crashes_open {q : Option Addr} {l c : Nat} (g : Rdg enc Tryz.prog w 25 [.slice q l c]) : l ≤ c ∧ l * 40 ≤ 140737488351232 ∧ ∃ cs : List Cr, CrsR w q l cs := by
  obtain ⟨h1, _, h3, h4⟩ := g.slice Tryz.underlying25
  have hb : Tryz.prog.bytesOf 46 = 40 := by kernel_rfl
  have hc : Tryz.prog.cellsOf 46 = 3 := by kernel_rfl
  have hc1 : Tryz.prog.cellsOf 44 = 1 := by kernel_rfl
  have hk : flatK Tryz.prog 3 46 = some [.int .i64, .int .i64, .sl] := by kernel_rfl
  rw [hb] at h3
  refine ⟨h1, h3, ?_⟩
  obtain ⟨xs, hl, hx⟩ := list_of (R := fun i (x : CrH × Cr) => (∃ a, q = some a ∧ reads w (a.add (i * 3)) (En.crh.enc x.1)) ∧ x.1.step = x.2.step ∧ x.1.rest = x.2.rest ∧ RE En.t3 w x.1.q x.1.l x.2.fates ∧ x.1.l * 24 ≤ 140737488351232 ∧ x.1.l ≤ x.1.c) (l := l) (fun i hi => by
    obtain ⟨a, us, ha, _, hr, hg⟩ := h4 i hi
    rw [hc] at hr
    have : exKs [.int .i64, .int .i64, .sl] fun vs => us = vs := areK_ex (hg.kinds 3 hk) rfl
    obtain ⟨x, y, q', l', c', rfl⟩ := this
    have hf : Rdg enc Tryz.prog w 44 ((([.int .i64 x, .int .i64 y, .slice q' l' c'] : List Value).drop 2).take (Tryz.prog.cellsOf 44)) := hg.field Tryz.underlying46 (i := 2) rfl
    rw [hc1] at hf
    obtain ⟨f1, f2, fs, f3⟩ := fates_open (show Rdg enc Tryz.prog w 44 [.slice q' l' c'] from hf)
    exact ⟨(⟨x, y, q', l', c'⟩, ⟨x, y, fs⟩), ⟨a, ha, hr⟩, rfl, rfl, f3, f2, f1⟩)
  refine ⟨xs.map Prod.snd, ⟨xs.map Prod.fst, ⟨by simp [hl], fun i x hi => ?_⟩, by simp, fun i x y hi hy => ?_⟩⟩
  · simp only [List.getElem?_map, Option.map_eq_some_iff] at hi
    obtain ⟨z, hz, rfl⟩ := hi
    exact (hx i z hz).1
  · simp only [List.getElem?_map, Option.map_eq_some_iff] at hi hy
    obtain ⟨z, hz, rfl⟩ := hi
    obtain ⟨z', hz', rfl⟩ := hy
    rw [hz] at hz'; cases hz'
    exact (hx i z hz).2
theorem plan_open {q1 q2 : Option Addr} {l1 c1 l2 c2 : Nat} (g : Rdg enc Tryz.prog w 27 [.slice q1 l1 c1, .slice q2 l2 c2]) : (l1 ≤ c1 ∧ l1 * 24 ≤ 140737488351232 ∧ ∃ fs : List T3, RE En.t3 w q1 l1 fs) ∧ (l2 ≤ c2 ∧ l2 * 40 ≤ 140737488351232 ∧ ∃ cs : List Cr, CrsR w q2 l2 cs) := by
  have hc1 : Tryz.prog.cellsOf 24 = 1 := by kernel_rfl
  have hc2 : Tryz.prog.cellsOf 25 = 1 := by kernel_rfl
  have f1 : Rdg enc Tryz.prog w 24 ((([.slice q1 l1 c1, .slice q2 l2 c2] : List Value).drop 0).take (Tryz.prog.cellsOf 24)) := g.field Tryz.underlying27 (i := 0) rfl
  have f2 : Rdg enc Tryz.prog w 25 ((([.slice q1 l1 c1, .slice q2 l2 c2] : List Value).drop 1).take (Tryz.prog.cellsOf 25)) := g.field Tryz.underlying27 (i := 1) rfl
  rw [hc1] at f1
  rw [hc2] at f2
  exact ⟨faults_open f1, crashes_open f2⟩
theorem asking_open {a b c d : Int} {q1 q2 : Option Addr} {l1 c1 l2 c2 : Nat} (g : Rdg enc Tryz.prog w 29 [.int .i64 a, .int .i64 b, .int .i64 c, .int .i64 d, .slice q1 l1 c1, .slice q2 l2 c2]) : (l1 ≤ c1 ∧ l1 * 24 ≤ 140737488351232 ∧ ∃ fs : List T3, RE En.t3 w q1 l1 fs) ∧ (l2 ≤ c2 ∧ l2 * 40 ≤ 140737488351232 ∧ ∃ cs : List Cr, CrsR w q2 l2 cs) := by
  have hc1 : Tryz.prog.cellsOf 27 = 2 := by kernel_rfl
  have f1 : Rdg enc Tryz.prog w 27 ((([.int .i64 a, .int .i64 b, .int .i64 c, .int .i64 d, .slice q1 l1 c1, .slice q2 l2 c2] : List Value).drop 4).take (Tryz.prog.cellsOf 27)) := g.field Tryz.underlying29 (i := 1) rfl
  rw [hc1] at f1
  exact plan_open f1
end
end Go.Proofs.YtdlbmmodlkmofaaGreatDoor
