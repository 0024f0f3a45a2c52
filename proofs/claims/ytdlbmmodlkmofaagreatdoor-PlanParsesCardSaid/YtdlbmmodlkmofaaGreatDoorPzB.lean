import Derived.Test.YtdlbmmodlkmofaaGreatDoorPzA
set_option maxRecDepth 20000
namespace Go.Proofs.YtdlbmmodlkmofaaGreatDoor
open Go Go.Vc Go.RowKit
theorem rises39 {w : World} {q : Option Addr} {l c : Nat} {fs : List T3} (h : RE En.t3 w q l fs) (hl : l ≤ 9223372036854775807) :
    Calls Tryz.prog 38 #[.slice q l c, .func (.func 39) #[] #[]] w (Ret fun v w' => v = .bool (adj (fun a b => decide (fOrd a b < 0)) fs) ∧ Chg none_ w w') := by
  refine f38_39.calls _ _ _ ?_
  unfold f38_39.wp
  have hlen := h.len
  refine ⟨fun x w' => ∃ i : Nat, x = i ∧ 1 ≤ i ∧ Chg none_ w w' ∧ ∀ j a b, j + 1 < i → fs[j]? = some a → fs[j + 1]? = some b → decide (fOrd a b < 0) = true, fun x _ => l - x.toNat, ⟨1, rfl, Nat.le_refl _, Chg.refl _ _, fun j a b hj => by omega⟩, ?_⟩
  rintro x w1 ⟨i, rfl, hi, k1, hin⟩
  refine bc (fun hlt => ?_) (fun hge => ⟨?_, k1⟩)
  · have hi' : i < l := by simpa using hlt
    have hr := h.chg k1.drew
    obtain ⟨a, u, rfl, hu, hru⟩ := hr.ex (i := i - 1) (by omega)
    obtain ⟨a', v, ha', hv, hrv⟩ := hr.ex hi'
    cases ha'
    rw [wrapS (x := (i : Int) - 1) (by omega) (by omega), wrapS (x := (i : Int) + 1) (by omega) (by omega)]
    refine onPtr_mk ⟨by omega, by omega, _, _, _, by rw [show ((i : Int) - 1).toNat = i - 1 by omega]; exact hru, onPtr_mk ⟨by omega, by omega, _, _, _, hrv, Calls.use (ord40 w1.drew u v) ?_⟩⟩
    rintro _ w2 ⟨rfl, k2⟩
    have hv' : fs[i - 1 + 1]? = some v := by rw [show i - 1 + 1 = i by omega]; exact hv
    refine ⟨_, rfl, bc (fun hb => ⟨?_, k1.drew.trans k2⟩) (fun hb => ⟨⟨i + 1, by omega, by omega, k1.drew.trans k2, fun j x y hj hx hy => ?_⟩, meas hi'⟩)⟩
    · have := of_decide_eq_true hb
      rw [adj_false hu hv' (by simp; omega)]
    · rcases Nat.lt_or_ge (j + 1) i with h1 | h1
      · exact hin j x y h1 hx hy
      · have : j = i - 1 := by omega
        subst this
        rw [hu] at hx; rw [hv'] at hy
        cases hx; cases hy
        have := of_decide_eq_false hb
        simp; omega
  · rw [adj_true fun j a b ha hb => hin j a b (by have := get_lt hb; simp at hge; omega) ha hb]
theorem rises80 {w : World} {q : Option Addr} {l c : Nat} {fs : List T3} (h : RE En.t3 w q l fs) (hl : l ≤ 9223372036854775807) :
    Calls Tryz.prog 65 #[.slice q l c, .func (.func 66) #[] #[]] w (Ret fun v w' => v = .bool (adj (fun a b => decide (tOrd a b < 0)) fs) ∧ Chg none_ w w') := by
  refine f65_66.calls _ _ _ ?_
  unfold f65_66.wp
  have hlen := h.len
  refine ⟨fun x w' => ∃ i : Nat, x = i ∧ 1 ≤ i ∧ Chg none_ w w' ∧ ∀ j a b, j + 1 < i → fs[j]? = some a → fs[j + 1]? = some b → decide (tOrd a b < 0) = true, fun x _ => l - x.toNat, ⟨1, rfl, Nat.le_refl _, Chg.refl _ _, fun j a b hj => by omega⟩, ?_⟩
  rintro x w1 ⟨i, rfl, hi, k1, hin⟩
  refine bc (fun hlt => ?_) (fun hge => ⟨?_, k1⟩)
  · have hi' : i < l := by simpa using hlt
    have hr := h.chg k1.drew
    obtain ⟨a, u, rfl, hu, hru⟩ := hr.ex (i := i - 1) (by omega)
    obtain ⟨a', v, ha', hv, hrv⟩ := hr.ex hi'
    cases ha'
    rw [wrapS (x := (i : Int) - 1) (by omega) (by omega), wrapS (x := (i : Int) + 1) (by omega) (by omega)]
    refine onPtr_mk ⟨by omega, by omega, _, _, _, by rw [show ((i : Int) - 1).toNat = i - 1 by omega]; exact hru, onPtr_mk ⟨by omega, by omega, _, _, _, hrv, Calls.use (ord63 w1.drew u v) ?_⟩⟩
    rintro _ w2 ⟨rfl, k2⟩
    have hv' : fs[i - 1 + 1]? = some v := by rw [show i - 1 + 1 = i by omega]; exact hv
    refine ⟨_, rfl, bc (fun hb => ⟨?_, k1.drew.trans k2⟩) (fun hb => ⟨⟨i + 1, by omega, by omega, k1.drew.trans k2, fun j x y hj hx hy => ?_⟩, meas hi'⟩)⟩
    · have := of_decide_eq_true hb
      rw [adj_false hu hv' (by simp; omega)]
    · rcases Nat.lt_or_ge (j + 1) i with h1 | h1
      · exact hin j x y h1 hx hy
      · have : j = i - 1 := by omega
        subst this
        rw [hu] at hx; rw [hv'] at hy
        cases hx; cases hy
        have := of_decide_eq_false hb
        simp; omega
  · rw [adj_true fun j a b ha hb => hin j a b (by have := get_lt hb; simp at hge; omega) ha hb]
/-! # crashes -/
structure CrsR (w : World) (q : Option Addr) (l : Nat) (cs : List Cr) : Prop where
  ex : ∃ hs : List CrH, RE En.crh w q l hs ∧ hs.length = cs.length ∧ ∀ (i : Nat) (h : CrH) (c : Cr), hs[i]? = some h → cs[i]? = some c → h.step = c.step ∧ h.rest = c.rest ∧ RE En.t3 w h.q h.l c.fates ∧ h.l * 24 ≤ 140737488351232 ∧ h.l ≤ h.c
theorem CrsR.chg {w w' : World} {q : Option Addr} {l : Nat} {cs : List Cr} (h : CrsR w q l cs) (c : Chg none_ w w') : CrsR w' q l cs := by
  obtain ⟨hs, h1, h2, h3⟩ := h.ex
  exact ⟨hs, h1.chg c, h2, fun i x y hx hy => by
    obtain ⟨a, b, d, e⟩ := h3 i x y hx hy
    exact ⟨a, b, d.chg c, e⟩⟩
theorem CrsR.len {w : World} {q : Option Addr} {l : Nat} {cs : List Cr} (h : CrsR w q l cs) : cs.length = l := by
  obtain ⟨hs, h1, h2, _⟩ := h.ex
  rw [← h2, h1.len]
theorem CrsR.at' {w : World} {q : Option Addr} {l : Nat} {cs : List Cr} (h : CrsR w q l cs) {i : Nat} (hi : i < l) : ∃ a x y, q = some a ∧ cs[i]? = some y ∧ reads w (a.add (i * 3)) (En.crh.enc x) ∧ x.step = y.step ∧ x.rest = y.rest ∧ RE En.t3 w x.q x.l y.fates ∧ x.l * 24 ≤ 140737488351232 ∧ x.l ≤ x.c := by
  have hl := h.len
  obtain ⟨hs, h1, h2, h3⟩ := h.ex
  obtain ⟨a, x, ha, hx, hr⟩ := h1.ex hi
  obtain ⟨y, hy⟩ := get_ex (l := cs) (i := i) (by omega)
  obtain ⟨e1, e2, e3, e4, e5⟩ := h3 i x y hx hy
  exact ⟨a, x, y, ha, hy, hr, e1, e2, e3, e4, e5⟩
theorem sorted44 {w : World} {q : Option Addr} {l c : Nat} {cs : List Cr} (h : CrsR w q l cs) (hl : l ≤ 9223372036854775807) :
    Calls Tryz.prog 43 #[.slice q l c, .func (.func 44) #[] #[]] w (Ret fun v w' => v = .bool (adj (fun a b => decide (a.step ≤ b.step)) cs) ∧ Chg none_ w w') := by
  refine f43_44.calls _ _ _ ?_
  unfold f43_44.wp
  have hlen := h.len
  rw [wrapS (x := (l : Int) - 1) (by omega) (by omega)]
  refine ⟨fun x w' => x < l ∧ -1 ≤ x ∧ Chg none_ w w' ∧ ∀ (j : Nat) a b, x ≤ j → cs[j]? = some a → cs[j + 1]? = some b → decide (a.step ≤ b.step) = true, fun x _ => (x + 1).toNat, ⟨by omega, by omega, Chg.refl _ _, fun j a b hj ha hb => by have := get_lt hb; omega⟩, ?_⟩
  rintro x w1 ⟨hx0, hx1, k1, hin⟩
  refine bc (fun hlt => ?_) (fun hge => ⟨?_, k1⟩)
  · have hpos : 0 < x := by simpa using hlt
    obtain ⟨i, rfl⟩ : ∃ i : Nat, x = (i : Int) := ⟨x.toNat, by omega⟩
    have hr := h.chg k1.drew
    obtain ⟨a, u, uy, rfl, hu, hru, eu, _⟩ := hr.at' (i := i) (by omega)
    obtain ⟨a', v, vy, ha', hv, hrv, ev, _⟩ := hr.at' (i := i - 1) (by omega)
    cases ha'
    rw [wrapS (x := (i : Int) - 1) (by omega) (by omega)]
    refine onPtr_mk ⟨by omega, by omega, _, _, _, _, _, hru, onPtr_mk ⟨by omega, by omega, _, _, _, _, _, by rw [show ((i : Int) - 1).toNat = i - 1 by omega]; exact hrv, Calls.use (ord45 w1.drew u v) ?_⟩⟩
    rintro _ w2 ⟨rfl, k2⟩
    have hu' : cs[i - 1 + 1]? = some uy := by rw [show i - 1 + 1 = i by omega]; exact hu
    have hc : cmpI u.step v.step < 0 ↔ uy.step < vy.step := by rw [eu, ev]; unfold cmpI; split <;> (try split) <;> omega
    refine ⟨_, rfl, bc (fun hb => ⟨?_, k1.drew.trans k2⟩) (fun hb => ⟨⟨by omega, by omega, k1.drew.trans k2, fun j x y hj hx hy => ?_⟩, ?_⟩)⟩
    · have := hc.1 (of_decide_eq_true hb)
      rw [adj_false hv hu' (by simp; omega)]
    · rcases Nat.lt_or_ge j i with h1 | h1
      · have : j = i - 1 := by omega
        subst this
        rw [hv] at hx; rw [hu'] at hy
        cases hx; cases hy
        have := of_decide_eq_false hb
        have : ¬ uy.step < vy.step := fun h => this (hc.2 h)
        simp; omega
      · exact hin j x y (by omega) hx hy
    · show ((i : Int) - 1 + 1).toNat < ((i : Int) + 1).toNat
      omega
  · rw [adj_true fun j a b ha hb => hin j a b (by simp at hge; omega) ha hb]
/-- a fate that may be: a page below 'n', of so many bytes -/
def tR (n page : Int) (f : T3) : Bool := decide (0 ≤ f.1) && decide (f.1 < n) && (if f.2.1 == 3 then decide (1 ≤ f.2.2) && decide (f.2.2 < page) else f.2.2 == 0 && (f.2.1 == 1 || f.2.1 == 2))
def Gm.n (g : Gm) : Int := IntKind.wrap .i64 (g.pages * g.regions)
theorem right79 (w : World) (g : Gm) (f : T3) : Calls Tryz.prog 64 #[.agg (gv g).toArray, .agg (En.t3.enc f).toArray] w (Ret fun v w' => v = .bool (tR g.n g.page f) ∧ Chg none_ w w') := by
  refine f64.calls _ _ _ _ _ _ _ ?_
  unfold f64.wp
  refine newBox fun w1 B1 k1 _ => newBox fun w2 B2 k2 _ => ?_
  have G := (k2.blk B1 (fun x => x))
  repeat' (first | refine bc (fun _ => ?_) (fun _ => ?_) | refine ⟨_, (B2.cell 0).trans rfl, ?_⟩ | refine ⟨_, (B2.cell0 1).trans rfl, ?_⟩ | refine ⟨_, (B2.cell0 2).trans rfl, ?_⟩ | refine ⟨_, (G.cell 0).trans rfl, ?_⟩ | refine ⟨_, (G.cell0 1).trans rfl, ?_⟩ | refine ⟨_, (G.cell0 2).trans rfl, ?_⟩)
  all_goals refine ⟨congrArg Value.bool (Bool.eq_iff_iff.2 ?_), k1.trans k2⟩
  all_goals (simp only [decide_eq_true_eq, decide_eq_false_iff_not, beq_iff_eq, beq_eq_false_iff_ne] at *; simp_all [tR, Gm.n])
  all_goals first | (intros; omega) | (intro h; exact absurd (of_decide_eq_true h) (by omega))
theorem not78 {w : World} {b : Nat} {g : Gm} (B : Blk w b 23 (gv g).toArray) (f : T3) : Calls Tryz.prog 63 #[.agg (En.t3.enc f).toArray, .pointer (some (ad b))] w (Ret fun v w' => v = .bool (!tR g.n g.page f) ∧ Chg none_ w w') := by
  refine f63.calls _ _ _ _ ?_
  unfold f63.wp
  refine newBox fun w1 B1 k1 _ => onPtr_mk ⟨_, _, _, _, (k1.blk B (fun x => x)).reads0, _, _, _, B1.reads0, Calls.use (right79 w1 g f) ?_⟩
  rintro _ w2 ⟨rfl, k2⟩
  exact ⟨_, rfl, rfl, k1.trans k2⟩
theorem idx97 {w : World} {b : Nat} {g : Gm} (B : Blk w b 23 (gv g).toArray) {q : Option Addr} {l c : Nat} {fs : List T3} (h : RE En.t3 w q l fs) (hl : l ≤ 9223372036854775807) :
    Calls Tryz.prog 78 #[.slice q l c, .func (.func 63) #[] #[.pointer (some (ad b))]] w (Ret fun v w' => ∃ n : Int, v = .int .i64 n ∧ decide (n ≥ 0) = (!fs.all (tR g.n g.page)) ∧ Chg none_ w w') := by
  refine f78_63.calls _ _ _ _ ?_
  unfold f78_63.wp
  have hlen := h.len
  refine ⟨fun x w' => ∃ i : Nat, x = i ∧ i ≤ l ∧ Chg none_ w w' ∧ ∀ j f, j < i → fs[j]? = some f → tR g.n g.page f = true, fun x _ => l - x.toNat, ⟨0, rfl, Nat.zero_le _, Chg.refl _ _, fun j f hj => by omega⟩, ?_⟩
  rintro x w1 ⟨i, rfl, hi, k1, hin⟩
  refine bc (fun hlt => ?_) (fun hge => ?_)
  · have hi' : i < l := by simpa using hlt
    obtain ⟨a, f, rfl, hf, hr⟩ := (h.chg k1).ex hi'
    rw [wrapS (x := (i : Int) + 1) (by omega) (by omega)]
    refine onPtr_mk ⟨by omega, by omega, _, _, _, hr, Calls.use (not78 (k1.blk B (fun x => x)) f) ?_⟩
    rintro _ w2 ⟨rfl, k2⟩
    refine ⟨_, rfl, bc (fun hb => ⟨i, rfl, ?_, k1.trans k2⟩) (fun hb => ⟨⟨i + 1, by omega, hi', k1.trans k2, fun j g' hj hg => ?_⟩, meas hi'⟩)⟩
    · have : fs.all (tR g.n g.page) = false := List.all_eq_false.2 ⟨f, List.mem_of_getElem? hf, by simpa using hb⟩
      rw [this]; simp
    · rcases Nat.lt_or_ge j i with h1 | h1
      · exact hin j g' h1 hg
      · have : j = i := by omega
        subst this
        rw [hf] at hg; cases hg
        simpa using hb
  · have : fs.all (tR g.n g.page) = true := List.all_eq_true.2 fun f hf => by
      obtain ⟨j, hj⟩ := List.getElem?_of_mem hf
      exact hin j f (by have := get_lt hj; simp at hge; omega) hj
    exact ⟨-1, rfl, by rw [this]; rfl, k1⟩
theorem any77 {w : World} {b : Nat} {g : Gm} (B : Blk w b 23 (gv g).toArray) {q : Option Addr} {l c : Nat} {fs : List T3} (h : RE En.t3 w q l fs) (hl : l ≤ 9223372036854775807) :
    Calls Tryz.prog 62 #[.slice q l c, .func (.func 63) #[] #[.pointer (some (ad b))]] w (Ret fun v w' => v = .bool (!fs.all (tR g.n g.page)) ∧ Chg none_ w w') := by
  refine f62_63.calls _ _ _ _ ?_
  unfold f62_63.wp
  refine Calls.use (idx97 B h hl) ?_
  rintro _ w1 ⟨n, rfl, hn, k1⟩
  exact ⟨_, rfl, by rw [hn], k1⟩
def fatesR (n page : Int) (fs : List T3) : Bool := decide (fs.length ≤ 64) && fs.all (tR n page) && adj (fun a b => decide (tOrd a b < 0)) fs
def cR (g : Gm) (c : Cr) : Bool := decide (0 ≤ c.step) && decide (c.step ≤ 2147483647) && (c.rest == 1 || c.rest == 2) && fatesR g.n g.page c.fates
theorem right43 {w : World} (g : Gm) {x : CrH} {y : Cr} (e1 : x.step = y.step) (e2 : x.rest = y.rest) (h : RE En.t3 w x.q x.l y.fates) :
    Calls Tryz.prog 42 #[.agg (gv g).toArray, .agg (En.crh.enc x).toArray] w (Ret fun v w' => v = .bool (cR g y) ∧ Chg none_ w w') := by
  refine f42.calls _ _ _ _ _ _ _ _ _ ?_
  unfold f42.wp
  have hlen := h.len
  refine newBox fun w1 B1 k1 _ => newBox fun w2 B2 k2 _ => ?_
  have G := (k2.blk B1 (fun x => x))
  have k02 := k1.trans k2
  refine ⟨fun w' => w2 = w' ∧ 0 ≤ y.step ∧ y.step ≤ 2147483647 ∧ (y.rest = 1 ∨ y.rest = 2) ∧ x.l ≤ 64, ?_, ?_⟩
  · rintro _ ⟨rfl, h1, h2, h3, h4⟩
    refine ⟨_, _, _, (B2.cell0 2).trans rfl, Calls.use (any77 G (h.chg k02) (by omega)) ?_⟩
    rintro _ w3 ⟨rfl, k3⟩
    have hpre : cR g y = (y.fates.all (tR g.n g.page) && adj (fun a b => decide (tOrd a b < 0)) y.fates) := by
      have : y.fates.length ≤ 64 := by omega
      rcases h3 with h3 | h3 <;> simp [cR, fatesR, h1, h2, h3, this]
    refine ⟨_, rfl, bc (fun hb => ⟨_, _, _, ((k3.blk B2 (fun x => x)).cell0 2).trans rfl, Calls.use (rises80 ((h.chg k02).chg k3) (by omega)) ?_⟩) (fun hb => ⟨?_, k02.trans k3⟩)⟩
    · rintro _ w4 ⟨rfl, k4⟩
      have hb : y.fates.all (tR g.n g.page) = true := by simpa using hb
      exact ⟨_, rfl, by rw [hpre, hb, Bool.true_and], (k02.trans k3).trans k4⟩
    · have hb : y.fates.all (tR g.n g.page) = false := by simpa using hb
      rw [hpre, hb, Bool.false_and]
  · repeat' (first | refine bc (fun _ => ?_) (fun _ => ?_) | refine ⟨_, (B2.cell 0).trans rfl, ?_⟩ | refine ⟨_, (B2.cell0 1).trans rfl, ?_⟩ | refine ⟨_, _, _, (B2.cell0 2).trans rfl, ?_⟩)
    all_goals simp only [decide_eq_true_eq, decide_eq_false_iff_not, bne_iff_ne, bne_eq_false_iff_eq, e1, e2] at *
    all_goals first
      | (refine ⟨by trivial, ?_, ?_, ?_, ?_⟩ <;> omega)
      | (refine ⟨congrArg Value.bool ?_, k02⟩; symm; rw [← Bool.not_eq_true]; simp only [cR, fatesR, Bool.and_eq_true, decide_eq_true_eq, Bool.or_eq_true, beq_iff_eq]; omega)
theorem not42 {w : World} {b : Nat} {g : Gm} (B : Blk w b 23 (gv g).toArray) {x : CrH} {y : Cr} (e1 : x.step = y.step) (e2 : x.rest = y.rest) (h : RE En.t3 w x.q x.l y.fates) :
    Calls Tryz.prog 41 #[.agg (En.crh.enc x).toArray, .pointer (some (ad b))] w (Ret fun v w' => v = .bool (!cR g y) ∧ Chg none_ w w') := by
  refine f41.calls _ _ _ _ _ _ ?_
  unfold f41.wp
  refine newBox fun w1 B1 k1 _ => onPtr_mk ⟨_, _, _, _, (k1.blk B (fun x => x)).reads0, _, _, _, _, _, B1.reads0, Calls.use (right43 g e1 e2 (h.chg k1)) ?_⟩
  rintro _ w2 ⟨rfl, k2⟩
  exact ⟨_, rfl, rfl, k1.trans k2⟩
theorem idx76 {w : World} {b : Nat} {g : Gm} (B : Blk w b 23 (gv g).toArray) {q : Option Addr} {l c : Nat} {cs : List Cr} (h : CrsR w q l cs) (hl : l ≤ 9223372036854775807) :
    Calls Tryz.prog 61 #[.slice q l c, .func (.func 41) #[] #[.pointer (some (ad b))]] w (Ret fun v w' => ∃ n : Int, v = .int .i64 n ∧ decide (n ≥ 0) = (!cs.all (cR g)) ∧ Chg none_ w w') := by
  refine f61_41.calls _ _ _ _ ?_
  unfold f61_41.wp
  have hlen := h.len
  refine ⟨fun x w' => ∃ i : Nat, x = i ∧ i ≤ l ∧ Chg none_ w w' ∧ ∀ j f, j < i → cs[j]? = some f → cR g f = true, fun x _ => l - x.toNat, ⟨0, rfl, Nat.zero_le _, Chg.refl _ _, fun j f hj => by omega⟩, ?_⟩
  rintro x w1 ⟨i, rfl, hi, k1, hin⟩
  refine bc (fun hlt => ?_) (fun hge => ?_)
  · have hi' : i < l := by simpa using hlt
    obtain ⟨a, x, y, rfl, hy, hr, e1, e2, hf, _⟩ := (h.chg k1).at' hi'
    rw [wrapS (x := (i : Int) + 1) (by omega) (by omega)]
    refine onPtr_mk ⟨by omega, by omega, _, _, _, _, _, hr, Calls.use (not42 (k1.blk B (fun x => x)) e1 e2 hf) ?_⟩
    rintro _ w2 ⟨rfl, k2⟩
    refine ⟨_, rfl, bc (fun hb => ⟨i, rfl, ?_, k1.trans k2⟩) (fun hb => ⟨⟨i + 1, by omega, hi', k1.trans k2, fun j g' hj hg => ?_⟩, meas hi'⟩)⟩
    · have : cs.all (cR g) = false := List.all_eq_false.2 ⟨y, List.mem_of_getElem? hy, by simpa using hb⟩
      rw [this]; simp
    · rcases Nat.lt_or_ge j i with h1 | h1
      · exact hin j g' h1 hg
      · have : j = i := by omega
        subst this
        rw [hy] at hg; cases hg
        simpa using hb
  · have : cs.all (cR g) = true := List.all_eq_true.2 fun f hf => by
      obtain ⟨j, hj⟩ := List.getElem?_of_mem hf
      exact hin j f (by have := get_lt hj; simp at hge; omega) hj
    exact ⟨-1, rfl, by rw [this]; rfl, k1⟩
theorem any41 {w : World} {b : Nat} {g : Gm} (B : Blk w b 23 (gv g).toArray) {q : Option Addr} {l c : Nat} {cs : List Cr} (h : CrsR w q l cs) (hl : l ≤ 9223372036854775807) :
    Calls Tryz.prog 40 #[.slice q l c, .func (.func 41) #[] #[.pointer (some (ad b))]] w (Ret fun v w' => v = .bool (!cs.all (cR g)) ∧ Chg none_ w w') := by
  refine f40_41.calls _ _ _ _ ?_
  unfold f40_41.wp
  refine Calls.use (idx76 B h hl) ?_
  rintro _ w1 ⟨n, rfl, hn, k1⟩
  exact ⟨_, rfl, by rw [hn], k1⟩
end Go.Proofs.YtdlbmmodlkmofaaGreatDoor
