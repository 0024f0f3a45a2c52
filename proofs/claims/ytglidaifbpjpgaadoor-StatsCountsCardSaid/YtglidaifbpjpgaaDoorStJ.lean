import Derived.Test.YtglidaifbpjpgaaDoorStI
set_option maxRecDepth 20000
namespace Go.Proofs.YtglidaifbpjpgaaDoor
open Go Go.Vc Go.RowKit
theorem ratios3 (w : World) (z0 z1 z2 : Int) (hI : badR z0 z1 z2 = false → ItoaAt w (z0.toNat / z1.toNat)) :
    Calls Tryd.prog 3 #[.int .i64 z0, .int .i64 z1, .int .i64 z2] w (Ret fun v w' => v = .bool true ∧ Chg none_ w w') := by
  refine f3.calls _ _ _ ?_
  unfold f3.wp
  refine Calls.use (ratio10 w z0 z1 z2 hI) ?_
  rintro _ w1 ⟨rfl, k1⟩
  refine ⟨_, _, rfl, Calls.use (ratio11 w1 z0 z1 z2) ?_⟩
  rintro _ w2 ⟨rfl, k2⟩
  refine ⟨_, _, rfl, Calls.use (awake12 w2) ?_⟩
  rintro _ w3 ⟨rfl, k3⟩
  exact ⟨_, rfl, bcT rfl (bcT (by simp) ⟨by simp, (k1.trans k2).trans k3⟩)⟩
theorem steps4 {w : World} {q q2 : Option Addr} {l c l2 c2 : Nat} {ms : List Mv} {ns : List Int} (z : Int) (h : RE En.mv w q l ms) (hl : l ≤ 1759218604440) (h2 : RE En.int w q2 l2 ns) (hl2 : l2 ≤ 17592186044416) (hc2 : l2 ≤ c2) :
    Calls Tryd.prog 4 #[.slice q l c, .int .i64 z, .slice q2 l2 c2] w (Ret fun v w' => v = .bool true ∧ Chg none_ w w') := by
  refine f4.calls _ _ _ _ _ _ _ ?_
  unfold f4.wp
  refine Calls.use (awake12 w) ?_
  rintro _ w1 ⟨rfl, k1⟩
  refine ⟨_, rfl, bcF rfl fun w2 e2 => ?_⟩
  have B2 := new_blk e2
  have k2 := (Chg.refl none_ w1).new' e2
  have s2 : SE En.int w2 w1.heap.size 3 (some ⟨w1.heap.size, 0, none⟩) 0 0 [] := SE.lit B2 (Nat.le_refl _) (fun n v hv => by simp [En.flat] at hv) rfl (Nat.le_refl _) (Nat.zero_le _) (by simp)
  obtain ⟨q3, c3, w3, hr, s3, k3, _⟩ := s2.append (t := 28) (ty := 28) (m := l2) (c2 := c2) elemInt ((h2.chg k1).chg k2) (by simp only [maxLen]; omega) (by omega) k2.size
  simp only [Nat.zero_add, List.nil_append] at hr s3
  have k13 : Chg none_ w1 w3 := Chg.up k2 k3 (fun k hk => by simp [qB] at hk; omega)
  have k03 := k1.trans k13
  refine ⟨q3, _, c3, w3, hr, Calls.use (steps13 (h.chg k03) hl z) ?_⟩
  rintro _ w4 ⟨q4, c4, rfl, s4, k4⟩
  have s3' := s3.chgN k4
  refine ⟨_, _, _, rfl, Calls.use (spread14 s3'.re s3'.le (by omega)) ?_⟩
  rintro _ _ ⟨rfl, rfl⟩
  have k04 := k03.trans k4
  refine ⟨_, _, rfl, Calls.use (spread15 (h2.chg k04) hc2 (by omega)) ?_⟩
  rintro _ _ ⟨rfl, rfl⟩
  refine ⟨_, _, rfl, Calls.use (steps17 (h.chg k04) hl z) ?_⟩
  rintro _ w5 ⟨q5, c5, rfl, s5, k5⟩
  have hle : (stepsL z ms).length ≤ l := by rw [← h.len]; exact List.length_filterMap_le _ _
  refine ⟨_, _, _, rfl, Calls.use (sameInts16 (s4.chgN k5).re s5.re (by omega)) ?_⟩
  rintro _ w6 ⟨rfl, k6⟩
  have k06 := (k04.trans k5).trans k6
  refine ⟨_, rfl, bcT (by simp) (bcT (by simp) (bcT (by simp) (Calls.use (sameInts16 ((s3'.chgN k5).chgN k6).re (h2.chg k06) (by omega)) ?_)))⟩
  rintro _ w7 ⟨rfl, k7⟩
  exact ⟨_, rfl, by simp, k06.trans k7⟩
end Go.Proofs.YtglidaifbpjpgaaDoor
