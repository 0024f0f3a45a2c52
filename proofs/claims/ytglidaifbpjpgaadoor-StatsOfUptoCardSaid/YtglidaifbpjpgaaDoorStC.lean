import Derived.Test.YtglidaifbpjpgaaDoorStB
set_option maxRecDepth 20000
namespace Go.Proofs.YtglidaifbpjpgaaDoor
open Go Go.Vc Go.RowKit
def Hs.can (h : Hs) (n : Int) : Bool := decide (0 ≤ n) && decide (n ≤ 2147483647) && decide (h.tot < 2147483647)
def addCs (bs cs : List Int) (n : Int) : List Int := cs.set (bs.countP (· < n)) (cs[bs.countP (· < n)]?.getD 0 + 1)
def Hs.add (h : Hs) (n : Int) : Hs := if h.can n then { h with cs := addCs h.bs h.cs n, tot := h.tot + 1, sum := h.sum + n } else h
theorem HG.get {bs cs : List Int} {tot sum : Int} (g : HG bs cs tot sum) (n : Int) : ∃ x, cs[bs.countP (· < n)]? = some x ∧ 0 ≤ x ∧ x ≤ tot := by
  have h1 : bs.countP (· < n) ≤ bs.length := List.countP_le_length
  obtain ⟨x, hx⟩ := get_ex (l := cs) (i := bs.countP (· < n)) (by rw [g.len]; omega)
  have hm := List.mem_of_getElem? hx
  have := (sum_mem g.pos).2 x hm
  rw [g.all] at this
  exact ⟨x, hx, g.pos x hm, this⟩
theorem HG.add {bs cs : List Int} {tot sum n : Int} (g : HG bs cs tot sum) (h0 : 0 ≤ n) (h1 : n ≤ 2147483647) (h2 : tot < 2147483647) : HG bs (addCs bs cs n) (tot + 1) (sum + n) := by
  obtain ⟨x, hx, hx0, hx1⟩ := g.get n
  have e : addCs bs cs n = cs.set (bs.countP (· < n)) (x + 1) := by simp only [addCs, hx]; rfl
  rw [e]
  refine ⟨g.ok, by simp [g.len], fun y hy => ?_, ?_, ?_, ?_, ?_, ?_⟩
  · rcases mem_set hy with rfl | hy
    · omega
    · exact g.pos y hy
  · rw [sum_set hx, g.all]; omega
  · have := g.t0; omega
  · omega
  · have := g.s0; omega
  · have := g.s1; omega
theorem add20 {w : World} {base : Nat} {h : Hs} (H : HI w base h) (n : Int) :
    Calls Tryd.prog 20 #[.pointer (some (ad h.b)), .int .i64 n] w (Ret fun v w' => v = .bool (h.can n) ∧ HI w' base (h.add n) ∧ Chg h.own w w') := by
  refine f20.calls _ _ ?_
  unfold f20.wp
  refine Calls.use (made38 H) ?_
  rintro _ _ ⟨rfl, rfl⟩
  refine ⟨_, rfl, bcF rfl (bc (fun hlt => ?_) (fun h0 => bc (fun hgt => ?_) (fun h1 => onPtr_mk ⟨_, (H.blk.cell0 2).trans rfl, bc (fun hge => ?_) (fun h2 => ?_)⟩)))⟩
  · have e : h.can n = false := by simp at hlt; simp [Hs.can]; omega
    rw [e, show h.add n = h by simp [Hs.add, e]]; exact ⟨rfl, H, Chg.refl _ _⟩
  · have e : h.can n = false := by simp at hgt; simp [Hs.can]; omega
    rw [e, show h.add n = h by simp [Hs.add, e]]; exact ⟨rfl, H, Chg.refl _ _⟩
  · have e : h.can n = false := by simp at hge; simp [Hs.can]; omega
    rw [e, show h.add n = h by simp [Hs.add, e]]; exact ⟨rfl, H, Chg.refl _ _⟩
  have h0 : 0 ≤ n := by simp at h0; omega
  have h1 : n ≤ 2147483647 := by simp at h1; omega
  have h2 : h.tot < 2147483647 := by simp at h2; omega
  have e : h.can n = true := by simp [Hs.can]; omega
  have g := H.good
  have hl := g.ok.2.1
  obtain ⟨x, hx, hx0, hx1⟩ := g.get n
  have ea : addCs h.bs h.cs n = h.cs.set (h.bs.countP (· < n)) (x + 1) := by simp only [addCs, hx]; rfl
  have hk : h.bs.countP (· < n) < h.bs.length + 1 := Nat.lt_succ_of_le List.countP_le_length
  have eadd : h.add n = { h with cs := h.cs.set (h.bs.countP (· < n)) (x + 1), tot := h.tot + 1, sum := h.sum + n } := by simp [Hs.add, e, ea]
  rw [e]
  generalize h.add n = h' at *
  refine onPtr_mk ⟨_, _, _, (H.blk.cell 0).trans rfl, ?_⟩
  rcases H.sb.ex with ⟨_, h3, _⟩ | ⟨gb, off, cur, hq, _, hcb, _, _, _, hcell⟩
  · have := g.ok.1; omega
  rw [hq]
  have bs1 := Tryd.slices_BinarySearch_int gb off h.bs.length h.c1 h.bs n w (Nat.le_refl _) (by omega) (fun j hj => by
    rw [hcb.cell, hcell j (.int .i64 (h.bs.getD j 0)) ?_]
    have := En.int.flat_get (xs := h.bs) (i := j) (x := h.bs.getD j 0) (j := 0) (v := .int .i64 (h.bs.getD j 0)) (by rw [List.getElem?_eq_getElem hj]; simp [List.getD, List.getElem?_eq_getElem hj]) rfl
    simpa [En.int] using this) (by rw [List.take_length]; exact g.ok.pair.imp (fun h => Int.le_of_lt h))
  refine Calls.mono bs1 ?_
  rintro _ w2 ⟨rfl, m, rfl⟩
  rw [List.take_length]
  have k2 := (Chg.refl none_ w).drewN m
  have H2 := H.chgN k2
  generalize w.drewN m = w2 at *
  clear bs1
  refine ⟨_, _, rfl, onPtr_mk ⟨_, _, _, (H2.blk.cell0 1).trans rfl, ?_⟩⟩
  obtain ⟨a, ha, hcan⟩ := H2.sc.can hk
  obtain ⟨a', ha', hr⟩ := H2.sc.re.get _ _ hx
  rw [ha] at ha'
  cases ha'
  rw [ha]
  refine onPtr_mk ⟨by omega, by omega, x, reads_one' hr, onPtr_mk ⟨by omega, by omega, ?_, fun w3 e3 => ?_⟩⟩
  · have := hcan 0 1 (Nat.le_refl _); rwa [add_zero'] at this
  rw [wrapS (x := x + 1) (by omega) (by omega)] at e3
  obtain ⟨s3, k3⟩ := H2.sc.set ha (x' := x + 1) hk e3
  have b3 := k3.blk H2.blk (fun h => H2.d2 h.symm)
  have sb3 := H2.sb.chg k3 (fun g hg h => H2.d3 (hg.trans h))
  refine onPtr_mk ⟨_, (b3.cell0 2).trans rfl, onPtr_mk ⟨b3.canStore0 (by simp), fun w4 e4 => ?_⟩⟩
  have ht0 := g.t0
  rw [wrapS (x := h.tot + 1) (by omega) (by omega)] at e4
  obtain ⟨b4, k4⟩ := b3.put e4
  refine onPtr_mk ⟨_, (b4.cell0 3).trans rfl, onPtr_mk ⟨b4.canStore0 (by simp), fun w5 e5 => ?_⟩⟩
  have hs0 := g.s0
  have hs1 := g.s1
  rw [wrapS (x := h.sum + n) (by omega) (by omega)] at e5
  obtain ⟨b5, k5⟩ := b4.put e5
  have k35 : Chg (fun k => k = h.b) w3 w5 := k4.trans k5
  subst eadd
  refine ⟨rfl, ⟨b5, sb3.chg k35 (fun g hg h => H.d1 (hg.trans (congrArg some h))), s3.chg k35 (fun g hg h => H.d2 (hg.trans (congrArg some h))), H.base, H.n1, H.d1, H.d2, H.d3, ?_⟩, ?_⟩
  · rw [← ea]; exact g.add h0 h1 h2
  · exact ((k2.of_none _).trans (k3.mono fun k _ hk => .inr (.inr hk))).trans (k35.mono fun k _ hk => .inl hk)
end Go.Proofs.YtglidaifbpjpgaaDoor
