import Derived.Test.YtdlbmmodlkmofaaGreatDoorPzL
set_option maxRecDepth 20000
namespace Go.Proofs.YtdlbmmodlkmofaaGreatDoor
open Go Go.Vc Go.RowKit
theorem sameFaults49 {w : World} {q1 q2 : Option Addr} {l c1 m c2 : Nat} {xs : List T3} (h1 : RE En.t3 w q1 l xs) (h2 : RE En.t3 w q2 m xs) (hl : l ≤ 9223372036854775807) :
    Calls Tryz.prog 25 #[.slice q1 l c1, .slice q2 m c2] w (Ret fun v w' => v = .bool true ∧ Chg none_ w w') := by
  refine f25.calls _ _ _ _ _ _ ?_
  unfold f25.wp
  have e1 := h1.len
  obtain rfl : l = m := e1.symm.trans h2.len
  refine bcF (by simp) ⟨fun x w' => ∃ i : Nat, x = i ∧ i ≤ l ∧ Chg none_ w w', fun x _ => l - x.toNat, ⟨0, rfl, Nat.zero_le _, Chg.refl _ _⟩, ?_⟩
  rintro x w1 ⟨i, rfl, hi, k1⟩
  refine bc (fun hlt => ?_) (fun hge => ⟨rfl, k1⟩)
  have hi' : i < l := by simpa using hlt
  obtain ⟨a, u, rfl, hu, hru⟩ := (h1.chg k1.drew).ex hi'
  obtain ⟨b, v, rfl, hv, hrv⟩ := (h2.chg k1.drew).ex hi'
  rw [hu] at hv; cases hv
  rw [wrapS (x := (i : Int) + 1) (by omega) (by omega)]
  exact onPtr_mk ⟨by omega, by omega, _, _, _, hru, onPtr_mk ⟨by omega, by omega, _, _, _, hrv, bcF (by simp) ⟨⟨i + 1, by omega, hi', k1.drew⟩, meas hi'⟩⟩⟩
theorem sameFates25 {w : World} {q1 q2 : Option Addr} {l c1 m c2 : Nat} {xs : List T3} (h1 : RE En.t3 w q1 l xs) (h2 : RE En.t3 w q2 m xs) (hl : l ≤ 9223372036854775807) :
    Calls Tryz.prog 26 #[.slice q1 l c1, .slice q2 m c2] w (Ret fun v w' => v = .bool true ∧ Chg none_ w w') := by
  refine f26.calls _ _ _ _ _ _ ?_
  unfold f26.wp
  have e1 := h1.len
  obtain rfl : l = m := e1.symm.trans h2.len
  refine bcF (by simp) ⟨fun x w' => ∃ i : Nat, x = i ∧ i ≤ l ∧ Chg none_ w w', fun x _ => l - x.toNat, ⟨0, rfl, Nat.zero_le _, Chg.refl _ _⟩, ?_⟩
  rintro x w1 ⟨i, rfl, hi, k1⟩
  refine bc (fun hlt => ?_) (fun hge => ⟨rfl, k1⟩)
  have hi' : i < l := by simpa using hlt
  obtain ⟨a, u, rfl, hu, hru⟩ := (h1.chg k1.drew).ex hi'
  obtain ⟨b, v, rfl, hv, hrv⟩ := (h2.chg k1.drew).ex hi'
  rw [hu] at hv; cases hv
  rw [wrapS (x := (i : Int) + 1) (by omega) (by omega)]
  exact onPtr_mk ⟨by omega, by omega, _, _, _, hru, onPtr_mk ⟨by omega, by omega, _, _, _, hrv, bcF (by simp) ⟨⟨i + 1, by omega, hi', k1.drew⟩, meas hi'⟩⟩⟩
theorem cR_iff (g : Gm) (c : Cr) : cR g c = true ↔ 0 ≤ c.step ∧ c.step ≤ 2147483647 ∧ (c.rest = 1 ∨ c.rest = 2) ∧ fatesR g.n g.page c.fates = true := by
  simp only [cR, Bool.and_eq_true, decide_eq_true_eq, Bool.or_eq_true, beq_iff_eq, and_assoc]
theorem crashes48 {w : World} {q : Option Addr} {l c : Nat} {cs : List Cr} (g : Gm) (h : CrsR w q l cs) (hl : l ≤ 9223372036854775807) :
    Calls Tryz.prog 49 #[.agg (gv g).toArray, .slice q l c] w (Ret fun v w' => v = .bool (csR g cs) ∧ Chg none_ w w') := by
  refine f49.calls _ _ _ _ _ _ _ ?_
  unfold f49.wp
  have hlen := h.len
  refine newBox fun w0 B0 k0 _ => ?_
  refine bc (fun h => ⟨?_, k0⟩) (fun h16 => ?_)
  · have h := of_decide_eq_true h
    have : decide (cs.length ≤ 16) = false := by simp; omega
    rw [csR, this, Bool.false_and, Bool.false_and]
  have h16 : l ≤ 16 := by have := of_decide_eq_false h16; omega
  have hpre : csR g cs = (cs.all (cR g) && adj (fun a b => decide (a.step ≤ b.step)) cs) := by
    have : decide (cs.length ≤ 16) = true := by simp; omega
    rw [csR, this, Bool.true_and]
  rw [hpre]
  refine ⟨fun x w' => ∃ i : Nat, x = i ∧ i ≤ l ∧ Chg none_ w0 w' ∧ sofar (cR g) (fun a b => decide (a.step ≤ b.step)) cs i, fun x _ => l - x.toNat, ⟨0, rfl, Nat.zero_le _, Chg.refl _ _, sofar0⟩, ?_⟩
  rintro x w1 ⟨i, rfl, hi, k1, hin⟩
  refine bc (fun hlt => ?_) (fun hge => ⟨?_, k0.trans k1⟩)
  · have hi' : i < l := by simpa using hlt
    obtain ⟨a, u, f, rfl, hf, hr, e1, e2, hfa, hub, huc⟩ := (h.chg (k0.trans k1)).at' hi'
    obtain ⟨us, ur, uq, ul, uc⟩ := u
    simp only at e1 e2 hfa hub huc
    subst e1; subst e2
    have hr : reads w1 (a.add (i * 3)) [.int .i64 f.step, .int .i64 f.rest, .slice uq ul uc] := hr
    rw [wrapS (x := (i : Int) + 1) (by omega) (by omega)]
    refine onPtr_mk ⟨by omega, by omega, _, _, _, _, _, hr, boxed rfl rfl fun w3 B3 k3 _ => ?_⟩
    have k13 := (k1.trans k3).drew
    have hfa3 := hfa.chg k3.drew
    have B3' := B3.drew
    generalize w3.drew = w3' at *
    have G3 := k13.blk B0 (fun x => x)
    have bad : ¬ (0 ≤ f.step ∧ f.step ≤ 2147483647 ∧ (f.rest = 1 ∨ f.rest = 2) ∧ fatesR g.n g.page f.fates = true) → Value.bool false = .bool (cs.all (cR g) && adj (fun a b => decide (a.step ≤ b.step)) cs) := fun hb => by
      rw [all_bad hf (by rw [← Bool.not_eq_true]; exact fun hh => hb ((cR_iff g f).1 hh))]
    have next : cR g f = true → (∀ v, 0 < i → cs[i - 1]? = some v → decide (v.step ≤ f.step) = true) → ∀ {w' : World}, Chg none_ w3' w' → (∃ i' : Nat, ((i : Int) + 1) = i' ∧ i' ≤ l ∧ Chg none_ w0 w' ∧ sofar (cR g) (fun a b => decide (a.step ≤ b.step)) cs i') ∧ l - ((i : Int) + 1).toNat < l - ((i : Int)).toNat := fun hp hR w' k => ⟨⟨i + 1, by omega, hi', k13.trans k, sofar_next hin hf hp hR⟩, meas hi'⟩
    have k03 := k0.trans k13
    refine ⟨_, (B3'.cell 0).trans rfl, bc (fun h => ⟨bad ?_, k03⟩) (fun h1 => ⟨_, (B3'.cell 0).trans rfl, bc (fun h => ⟨bad ?_, k03⟩) (fun h2 => ?_)⟩)⟩
    · have := of_decide_eq_true h; omega
    · have := of_decide_eq_true h; omega
    have h1 := of_decide_eq_false h1
    have h2 := of_decide_eq_false h2
    refine bc (fun hpos => ?_) (fun hz => ?_)
    · have hpos : 0 < i := by have := of_decide_eq_true hpos; omega
      obtain ⟨b, v, y, hb, hy, hrv, ev, _⟩ := (h.chg k03).at' (i := i - 1) (by omega)
      cases hb
      obtain ⟨vs, vr, vq, vl, vc⟩ := v
      simp only at ev
      subst ev
      have hrv : reads w3' (a.add ((i - 1) * 3)) [.int .i64 y.step, .int .i64 vr, .slice vq vl vc] := hrv
      have c0 := reads_at hrv (i := 0) rfl
      rw [add_zero'] at c0
      have et : ((i : Int) - 1).toNat = i - 1 := by omega
      rw [wrapS (x := (i : Int) - 1) (by omega) (by omega), et]
      refine onPtr_mk ⟨by omega, by omega, _, c0, _, (B3'.cell 0).trans rfl, bc (fun h => ⟨?_, k03⟩) (fun h => ?_)⟩
      · have h := of_decide_eq_true h
        rw [adj_bad hpos hy hf (by simp; omega)]
      have h := of_decide_eq_false h
      have hR : ∀ v, 0 < i → cs[i - 1]? = some v → decide (v.step ≤ f.step) = true := fun v' _ hv' => by
        rw [hy] at hv'; cases hv'
        simp; omega
      refine ⟨_, (B3'.cell0 1).trans rfl, bc (fun h => ⟨bad ?_, k03⟩) (fun h3 => ⟨_, (B3'.cell0 1).trans rfl, bc (fun h => ⟨bad ?_, k03⟩) (fun h4 => ⟨_, _, _, _, G3.reads0, _, _, _, (B3'.cell0 2).trans rfl, Calls.use (fates82 g hfa3 (by omega)) ?_⟩)⟩)⟩
      · have := of_decide_eq_true h; omega
      · have := of_decide_eq_true h; omega
      rintro _ w5 ⟨rfl, k5⟩
      refine ⟨_, rfl, bc (fun hb => ⟨bad fun hh => ?_, k03.trans k5⟩) (fun hb => next ((cR_iff g f).2 ⟨by omega, by omega, ?_, ?_⟩) hR k5)⟩
      · rw [hh.2.2.2] at hb; cases hb
      · have := of_decide_eq_false h3; have := of_decide_eq_false h4; omega
      · simpa using hb
    · have hR : ∀ v, 0 < i → cs[i - 1]? = some v → decide (v.step ≤ f.step) = true := fun v' hp _ => by
        have := of_decide_eq_false hz; omega
      refine ⟨_, (B3'.cell0 1).trans rfl, bc (fun h => ⟨bad ?_, k03⟩) (fun h3 => ⟨_, (B3'.cell0 1).trans rfl, bc (fun h => ⟨bad ?_, k03⟩) (fun h4 => ⟨_, _, _, _, G3.reads0, _, _, _, (B3'.cell0 2).trans rfl, Calls.use (fates82 g hfa3 (by omega)) ?_⟩)⟩)⟩
      · have := of_decide_eq_true h; omega
      · have := of_decide_eq_true h; omega
      rintro _ w5 ⟨rfl, k5⟩
      refine ⟨_, rfl, bc (fun hb => ⟨bad fun hh => ?_, k03.trans k5⟩) (fun hb => next ((cR_iff g f).2 ⟨by omega, by omega, ?_, ?_⟩) hR k5)⟩
      · rw [hh.2.2.2] at hb; cases hb
      · have := of_decide_eq_false h3; have := of_decide_eq_false h4; omega
      · simpa using hb
  · have hge : ¬ i < l := by simpa using hge
    rw [sofar_all hin (by omega)]
theorem check15 {w : World} (g : Gm) {q1 q2 : Option Addr} {l1 c1 l2 c2 : Nat} {fs : List T3} {cs : List Cr} (h1 : RE En.t3 w q1 l1 fs) (h2 : CrsR w q2 l2 cs) (hl1 : l1 ≤ 9223372036854775807) (hl2 : l2 ≤ 9223372036854775807) :
    Calls Tryz.prog 21 #[.agg (gv g).toArray, .agg #[.slice q1 l1 c1, .slice q2 l2 c2]] w (Ret fun v w' => v = .int .i64 (chk g fs cs) ∧ Chg none_ w w') := by
  refine f21.calls _ _ _ _ _ _ _ _ _ _ ?_
  unfold f21.wp
  refine newBox fun w1 B1 k1 _ => newBox fun w2 B2 k2 _ => ?_
  have G := (k2.blk B1 (fun x => x))
  have k02 := k1.trans k2
  refine ⟨_, _, _, _, G.reads0, Calls.use (geom46 w2 g) ?_⟩
  rintro _ w3 ⟨rfl, k3⟩
  have k03 := k02.trans k3
  have B3 := k3.blk B2 (fun x => x)
  refine ⟨_, rfl, bc (fun h => ⟨by rw [chk, if_pos (by simpa using h)], k03⟩) (fun h => ?_)⟩
  have hg : gC g = 0 := by simpa using h
  refine ⟨_, _, _, (B3.cell 0).trans rfl, Calls.use (faults47 (h1.chg k03) hl1) ?_⟩
  rintro _ w4 ⟨rfl, k4⟩
  have k04 := k03.trans k4
  have B4 := k4.blk B3 (fun x => x)
  refine ⟨_, rfl, bc (fun h => ⟨?_, k04⟩) (fun hfs => ?_)⟩
  · have : fsR fs = false := by simpa using h
    simp [chk, hg, this]
  have hfs : fsR fs = true := by simpa using hfs
  refine ⟨_, _, _, _, ((k3.trans k4).blk G (fun x => x)).reads0, _, _, _, (B4.cell0 1).trans rfl, Calls.use (crashes48 g (h2.chg k04) hl2) ?_⟩
  rintro _ w5 ⟨rfl, k5⟩
  refine ⟨_, rfl, bc (fun h => ⟨?_, k04.trans k5⟩) (fun hcs => ⟨?_, k04.trans k5⟩)⟩
  · have : csR g cs = false := by simpa using h
    simp [chk, hg, hfs, this]
  · have : csR g cs = true := by simpa using hcs
    simp [chk, hg, hfs, this]
theorem same16 {w : World} {q1 q2 q3 q4 : Option Addr} {l1 c1 l2 c2 l3 c3 l4 c4 : Nat} {fs : List T3} {cs : List Cr} (h1 : RE En.t3 w q1 l1 fs) (h2 : CrsR w q2 l2 cs) (h3 : RE En.t3 w q3 l3 fs) (h4 : CrsR w q4 l4 cs) (hl1 : l1 ≤ 9223372036854775807) (hl2 : l2 ≤ 9223372036854775807) :
    Calls Tryz.prog 9 #[.agg #[.slice q1 l1 c1, .slice q2 l2 c2], .agg #[.slice q3 l3 c3, .slice q4 l4 c4]] w (Ret fun v w' => v = .bool true ∧ Chg none_ w w') := by
  refine f9.calls _ _ _ _ _ _ _ _ _ _ _ _ ?_
  unfold f9.wp
  have e2 := h2.len
  have e4 := h4.len
  refine newBox fun w1 B1 k1 _ => newBox fun w2 B2 k2 _ => ?_
  have A2 := (k2.blk B1 (fun x => x))
  have k02 := k1.trans k2
  refine ⟨_, _, _, (A2.cell 0).trans rfl, _, _, _, (B2.cell 0).trans rfl, Calls.use (sameFaults49 (h1.chg k02) (h3.chg k02) hl1) ?_⟩
  rintro _ w3 ⟨rfl, k3⟩
  have k03 := k02.trans k3
  have A3 := k3.blk A2 (fun x => x)
  have B3 := k3.blk B2 (fun x => x)
  refine ⟨_, rfl, bcF rfl ⟨_, _, _, (A3.cell0 1).trans rfl, _, _, _, (B3.cell0 1).trans rfl, bcF (by simp; omega) ⟨_, _, _, (A3.cell0 1).trans rfl, ?_⟩⟩⟩
  refine ⟨fun x w' => ∃ i : Nat, x = i ∧ i ≤ l2 ∧ Chg none_ w3 w', fun x _ => l2 - x.toNat, ⟨0, rfl, Nat.zero_le _, Chg.refl _ _⟩, ?_⟩
  rintro x w4 ⟨i, rfl, hi, k4⟩
  refine bc (fun hlt => ?_) (fun hge => ⟨rfl, k03.trans k4⟩)
  have hi' : i < l2 := by simpa using hlt
  rw [wrapS (x := (i : Int) + 1) (by omega) (by omega)]
  obtain ⟨a, u, f, rfl, hf, hr, e1, e2', hfa, hub, huc⟩ := (h2.chg (k03.trans k4)).at' hi'
  obtain ⟨us, ur, uq, ul, uc⟩ := u
  simp only at e1 e2' hfa hub huc
  subst e1; subst e2'
  have hr : reads w4 (a.add (i * 3)) [.int .i64 f.step, .int .i64 f.rest, .slice uq ul uc] := hr
  refine onPtr_mk ⟨by omega, by omega, _, _, _, _, _, hr, boxed rfl rfl fun w6 B6 k6 _ => ?_⟩
  have k06 := k03.trans (k4.trans k6)
  refine ⟨_, _, _, (((k4.trans k6).blk B3 (fun x => x)).cell0 1).trans rfl, ?_⟩
  obtain ⟨b, v, f', rfl, hf', hr', e1', e2'', hfa', _, _⟩ := (h4.chg k06).at' (i := i) (by omega)
  rw [hf] at hf'; cases hf'
  obtain ⟨vs, vr, vq, vl, vc⟩ := v
  simp only at e1' e2'' hfa'
  subst e1'; subst e2''
  have hr' : reads w6 (b.add (i * 3)) [.int .i64 f.step, .int .i64 f.rest, .slice vq vl vc] := hr'
  refine onPtr_mk ⟨by omega, by omega, _, _, _, _, _, hr', boxed rfl rfl fun w8 B8 k8 _ => ?_⟩
  have C8 := k8.blk B6 (fun x => x)
  refine ⟨_, (C8.cell 0).trans rfl, _, (B8.cell 0).trans rfl, bcF (by simp) ⟨_, (C8.cell0 1).trans rfl, _, (B8.cell0 1).trans rfl, bcF (by simp) ⟨_, _, _, (C8.cell0 2).trans rfl, _, _, _, (B8.cell0 2).trans rfl, Calls.use (sameFates25 (hfa.chg (k6.trans k8)) (hfa'.chg k8) (by omega)) ?_⟩⟩⟩
  rintro _ w9 ⟨rfl, k9⟩
  exact ⟨_, rfl, bcF rfl ⟨⟨i + 1, by omega, hi', k4.trans (k6.trans (k8.trans k9))⟩, meas hi'⟩⟩
end Go.Proofs.YtdlbmmodlkmofaaGreatDoor
