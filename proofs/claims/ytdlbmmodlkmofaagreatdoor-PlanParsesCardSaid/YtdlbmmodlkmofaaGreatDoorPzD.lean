import Derived.Test.YtdlbmmodlkmofaaGreatDoorPzC
import Derived.Test.YtdlbmmodlkmofaaGreatDoorShelf
set_option maxRecDepth 20000
namespace Go.Proofs.YtdlbmmodlkmofaaGreatDoor
open Go Go.Vc Go.RowKit
theorem writeStr (B b : Nat) (bs : List Value) (s : ByteArray) (w : World) (h : Lib.IsBuilderF 55 5 B b bs w) (hlen : bs.length + s.size ≤ 140737488355328) (hBw : B ≤ w.heap.size) :
    Calls Tryz.prog 16 #[.pointer (some ⟨b, 0, none⟩), .string s] w fun e w' => e = .returned (.tuple #[.int .i64 s.size, .nilIface]) ∧ (Lib.BuilderAtF 55 5 B b (.pointer (some ⟨b, 0, none⟩)) (bs ++ Lib.strCells s) w' ∧ Below B w w' ∧ Lib.OthersKept 5 (some b) w w') :=
  Any.Builder_WriteString_k (ρ := Tryz.lays156_ren) { Tryz.lays156 with } Tryz.Builder_Extra_156 B b bs s w h hlen hBw
/-! # Check -/
structure Pn where
  faults : List T3
  crashes : List Cr
def fsR (fs : List T3) : Bool := decide (fs.length ≤ 64) && fs.all fR && adj (fun a b => decide (fOrd a b < 0)) fs
def csR (g : Gm) (cs : List Cr) : Bool := decide (cs.length ≤ 16) && cs.all (cR g) && adj (fun a b => decide (a.step ≤ b.step)) cs
def chk (g : Gm) (fs : List T3) (cs : List Cr) : Int := if gC g ≠ 0 then gC g else if fsR fs = false then 40 else if csR g cs = false then 41 else 0
theorem check14 {w : World} (g : Gm) {q1 q2 : Option Addr} {l1 c1 l2 c2 : Nat} {fs : List T3} {cs : List Cr} (h1 : RE En.t3 w q1 l1 fs) (h2 : CrsR w q2 l2 cs) (hl1 : l1 ≤ 9223372036854775807) (hl2 : l2 ≤ 9223372036854775807) :
    Calls Tryz.prog 14 #[.agg (gv g).toArray, .agg #[.slice q1 l1 c1, .slice q2 l2 c2]] w (Ret fun v w' => v = .int .i64 (chk g fs cs) ∧ Chg none_ w w') := by
  refine f14.calls _ _ _ _ _ _ _ _ _ _ ?_
  unfold f14.wp
  have e1 := h1.len
  have e2 := h2.len
  refine newBox fun w1 B1 k1 _ => newBox fun w2 B2 k2 _ => ?_
  have G := (k2.blk B1 (fun x => x))
  have k02 := k1.trans k2
  refine ⟨_, _, _, _, G.reads0, Calls.use (geom35 w2 g) ?_⟩
  rintro _ w3 ⟨rfl, k3⟩
  have k03 := k02.trans k3
  have B3 := k3.blk B2 (fun x => x)
  refine ⟨_, rfl, bc (fun h => ⟨by rw [chk, if_pos (by simpa using h)], k03⟩) (fun h => ?_)⟩
  have hg : gC g = 0 := by simpa using h
  refine ⟨_, _, _, (B3.cell 0).trans rfl, bc (fun h => ⟨?_, k03⟩) (fun h64 => ?_)⟩
  · have := of_decide_eq_true h
    have : fsR fs = false := by simp [fsR]; intro; omega
    simp [chk, hg, this]
  have h64 := of_decide_eq_false h64
  refine ⟨_, _, _, (B3.cell 0).trans rfl, Calls.use (any36 (h1.chg k03) hl1) ?_⟩
  rintro _ w4 ⟨rfl, k4⟩
  have k04 := k03.trans k4
  have B4 := k4.blk B3 (fun x => x)
  refine ⟨_, rfl, bc (fun h => ⟨?_, k04⟩) (fun hall => ?_)⟩
  · have h : fs.all fR = false := by simpa using h
    have : fsR fs = false := by rw [fsR, h]; simp
    simp [chk, hg, this]
  have hall : fs.all fR = true := by simpa using hall
  refine ⟨_, _, _, (B4.cell 0).trans rfl, Calls.use (rises39 (h1.chg k04) hl1) ?_⟩
  rintro _ w5 ⟨rfl, k5⟩
  have k05 := k04.trans k5
  have B5 := k5.blk B4 (fun x => x)
  refine ⟨_, rfl, bc (fun h => ⟨?_, k05⟩) (fun hadj => ?_)⟩
  · have h : adj (fun a b => decide (fOrd a b < 0)) fs = false := by simpa using h
    have : fsR fs = false := by rw [fsR, h]; simp
    simp [chk, hg, this]
  have hadj : adj (fun a b => decide (fOrd a b < 0)) fs = true := by simpa using hadj
  have hfs : fsR fs = true := by rw [fsR, hall, hadj]; simp; omega
  refine ⟨_, _, _, (B5.cell0 1).trans rfl, bc (fun h => ⟨?_, k05⟩) (fun h16 => ?_)⟩
  · have := of_decide_eq_true h
    have : csR g cs = false := by simp [csR]; intro; omega
    simp [chk, hg, hfs, this]
  have h16 := of_decide_eq_false h16
  have G5 := k5.blk (k4.blk (k3.blk G (fun x => x)) (fun x => x)) (fun x => x)
  refine ⟨_, _, _, (B5.cell0 1).trans rfl, Calls.use (any41 G5 (h2.chg k05) hl2) ?_⟩
  rintro _ w6 ⟨rfl, k6⟩
  have k06 := k05.trans k6
  have B6 := k6.blk B5 (fun x => x)
  refine ⟨_, rfl, bc (fun h => ⟨?_, k06⟩) (fun hall => ?_)⟩
  · have h : cs.all (cR g) = false := by simpa using h
    have : csR g cs = false := by rw [csR, h]; simp
    simp [chk, hg, hfs, this]
  have hall : cs.all (cR g) = true := by simpa using hall
  refine ⟨_, _, _, (B6.cell0 1).trans rfl, Calls.use (sorted44 (h2.chg k06) hl2) ?_⟩
  rintro _ w7 ⟨rfl, k7⟩
  have k07 := k06.trans k7
  refine ⟨_, rfl, bc (fun h => ⟨?_, k07⟩) (fun hadj => ⟨?_, k07⟩)⟩
  · have h : adj (fun a b => decide (a.step ≤ b.step)) cs = false := by simpa using h
    have : csR g cs = false := by rw [csR, h]; simp
    simp [chk, hg, hfs, this]
  · have hadj : adj (fun a b => decide (a.step ≤ b.step)) cs = true := by simpa using hadj
    have : csR g cs = true := by rw [csR, hall, hadj]; simp; omega
    simp [chk, hg, hfs, this]
end Go.Proofs.YtdlbmmodlkmofaaGreatDoor
