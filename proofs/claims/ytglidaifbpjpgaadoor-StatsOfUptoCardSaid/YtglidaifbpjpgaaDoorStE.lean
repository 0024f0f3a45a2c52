import Derived.Test.YtglidaifbpjpgaaDoorStD
set_option maxRecDepth 20000
namespace Go.Proofs.YtglidaifbpjpgaaDoor
open Go Go.Vc Go.RowKit
def mergeE (h o : Hs) : Int := if h.bs = o.bs then (if h.tot + o.tot > 2147483647 then 2 else 0) else 280
def Hs.merge (h o : Hs) : Hs := if mergeE h o = 0 then { h with cs := h.cs.zipWith (· + ·) o.cs, tot := h.tot + o.tot, sum := h.sum + o.sum } else h
theorem zip_sum : ∀ {a b : List Int}, a.length = b.length → (a.zipWith (· + ·) b).sum = a.sum + b.sum
  | [], [], _ => rfl
  | x :: a, y :: b, h => by
    have := zip_sum (a := a) (b := b) (by simpa using h)
    simp [this]; omega
  | [], _ :: _, h => by simp at h
  | _ :: _, [], h => by simp at h
theorem zip_pos {a b : List Int} (ha : ∀ x ∈ a, 0 ≤ x) (hb : ∀ x ∈ b, 0 ≤ x) : ∀ x ∈ a.zipWith (· + ·) b, 0 ≤ x := fun x hx => by
  obtain ⟨i, hi⟩ := List.getElem?_of_mem hx
  rw [List.getElem?_zipWith_eq_some] at hi
  obtain ⟨u, v, h1, h2, rfl⟩ := hi
  have := ha u (List.mem_of_getElem? h1)
  have := hb v (List.mem_of_getElem? h2)
  omega
theorem HG.merge {bs cs ds : List Int} {t s t' s' : Int} (g : HG bs cs t s) (g' : HG bs ds t' s') (h : t + t' ≤ 2147483647) : HG bs (cs.zipWith (· + ·) ds) (t + t') (s + s') := by
  have hl : cs.length = ds.length := by rw [g.len, g'.len]
  refine ⟨g.ok, by simp [g.len, g'.len], zip_pos g.pos g'.pos, by rw [zip_sum hl, g.all, g'.all], ?_, h, ?_, ?_⟩
  · have := g.t0; have := g'.t0; omega
  · have := g.s0; have := g'.s0; omega
  · have := g.s1; have := g'.s1; omega
/-- counts up to a place, added -/
structure Part (cs ds es : List Int) (i : Nat) : Prop where
  len : es.length = cs.length
  lo : ∀ j x y, j < i → cs[j]? = some x → ds[j]? = some y → es[j]? = some (x + y)
  hi : ∀ j, i ≤ j → es[j]? = cs[j]?
theorem Part.zero (cs ds : List Int) : Part cs ds cs 0 := ⟨rfl, fun _ _ _ h => by omega, fun _ _ => rfl⟩
theorem Part.step {cs ds es : List Int} {i : Nat} {x y : Int} (h : Part cs ds es i) (hx : cs[i]? = some x) (hy : ds[i]? = some y) : Part cs ds (es.set i (x + y)) (i + 1) := by
  have hlt := get_lt hx
  refine ⟨by simp [h.len], fun j u v hj hu hv => ?_, fun j hj => ?_⟩
  · by_cases e : j = i
    · subst e
      rw [hx] at hu; rw [hy] at hv
      cases hu; cases hv
      rw [List.getElem?_set_self (by rw [h.len]; exact hlt)]
    · rw [List.getElem?_set_ne (Ne.symm e)]
      exact h.lo j u v (by omega) hu hv
  · rw [List.getElem?_set_ne (by omega)]
    exact h.hi j (by omega)
theorem Part.done {cs ds es : List Int} {i : Nat} (h : Part cs ds es i) (hl : cs.length = ds.length) (hi : cs.length ≤ i) : es = cs.zipWith (· + ·) ds := by
  apply List.ext_getElem?
  intro j
  rcases Nat.lt_or_ge j cs.length with hj | hj
  · obtain ⟨x, hx⟩ := get_ex hj
    obtain ⟨y, hy⟩ := get_ex (l := ds) (i := j) (by omega)
    rw [h.lo j x y (by omega) hx hy, List.getElem?_zipWith, hx, hy]
  · rw [List.getElem?_eq_none (by rw [h.len]; exact hj), List.getElem?_eq_none (by simp; omega)]
theorem merge21 {w : World} {b1 b2 : Nat} {h o : Hs} (H : HI w b1 h) (O : HI w b2 o) :
    Calls Tryd.prog 21 #[.pointer (some (ad h.b)), .pointer (some (ad o.b))] w (Ret fun v w' => v = .int .i64 (mergeE h o) ∧ HI w' b1 (h.merge o) ∧ Chg h.own w w') := by
  refine f21.calls _ _ ?_
  unfold f21.wp
  refine Calls.use (made38 H) ?_
  rintro _ _ ⟨rfl, rfl⟩
  refine ⟨_, rfl, bcF rfl ⟨fun b w' => b = (!decide (h.bs = o.bs)) ∧ Chg none_ w w', ?_, ?_⟩⟩
  · rintro _ w2 ⟨rfl, k2⟩
    refine bc (fun hb => ?_) (fun hb => ?_)
    · have hne : h.bs ≠ o.bs := by simpa using hb
      have e : mergeE h o = 280 := by simp [mergeE, hne]
      have em : h.merge o = h := by simp [Hs.merge, e]
      rw [e, em]
      exact ⟨rfl, H.chgN k2, k2.of_none _⟩
    have heq : h.bs = o.bs := by simpa using hb
    have g := H.good
    have g' := O.good
    rw [← heq] at g'
    have k2d := k2.drew
    have H2 := H.chgN k2d
    have O2 := O.chgN k2d
    have t0 := g.t0; have t1 := g.t1; have t0' := g'.t0; have t1' := g'.t1
    have s0 := g.s0; have s1 := g.s1; have s0' := g'.s0; have s1' := g'.s1
    refine onPtr_mk ⟨_, (H2.blk.cell0 2).trans rfl, onPtr_mk ⟨_, (O2.blk.cell0 2).trans rfl, ?_⟩⟩
    rw [wrapS (x := h.tot + o.tot) (by omega) (by omega)]
    refine bc (fun hgt => ?_) (fun hle => ?_)
    · have hgt : h.tot + o.tot > 2147483647 := by simpa using hgt
      have e : mergeE h o = 2 := by simp [mergeE, heq, hgt]
      have em : h.merge o = h := by simp [Hs.merge, e]
      rw [e, em]
      exact ⟨rfl, H2, k2d.of_none _⟩
    have hle : h.tot + o.tot ≤ 2147483647 := by simpa using hle
    have e : mergeE h o = 0 := by simp [mergeE, heq]; omega
    have em : h.merge o = { h with cs := h.cs.zipWith (· + ·) o.cs, tot := h.tot + o.tot, sum := h.sum + o.sum } := by simp [Hs.merge, e]
    rw [e]
    generalize h.merge o = h' at *
    have kd := k2d.drew
    have H3 := H.chgN kd
    have O3 := O.chgN kd
    clear H2 O2 k2d
    generalize w2.drew.drew = w3 at *
    have hl := g.ok.2.1
    refine onPtr_mk ⟨_, (O3.blk.cell0 2).trans rfl, onPtr_mk ⟨_, (O3.blk.cell0 3).trans rfl, onPtr_mk ⟨_, _, _, (O3.blk.cell0 1).trans rfl, Calls.use (clone37 O3.sc.re (by rw [← heq]; omega) (fun hq => ?_)) ?_⟩⟩⟩
    · exfalso
      rcases O3.sc.ex with ⟨_, h0, _⟩ | ⟨_, _, _, h0, _⟩
      · omega
      · rw [hq] at h0; cases h0
    rintro _ w4 ⟨q4, c4, rfl, s4, k4, _⟩
    have H4 := H3.chgN k4
    have dl : h.cs.length = o.cs.length := by rw [g.len, g'.len]
    refine ⟨_, _, _, rfl, fun x w' => ∃ (i : Nat) (es : List Int), x = i ∧ i ≤ h.bs.length + 1 ∧ Part h.cs o.cs es i ∧ SE En.int w' b1 3 h.q2 (h.bs.length + 1) h.c2 es ∧ SE En.int w' w3.heap.size 3 q4 (o.bs.length + 1) c4 o.cs ∧ Chg (fun k => some k = qB h.q2) w4 w', fun x _ => h.bs.length + 1 - x.toNat, ⟨0, h.cs, rfl, Nat.zero_le _, Part.zero _ _, H4.sc, s4, Chg.refl _ _⟩, ?_⟩
    rintro x w5 ⟨i, es, rfl, hi, hp, sc, sd, k5⟩
    refine bc (fun hlt => ?_) (fun hge => ?_)
    · have hi' : i < h.bs.length + 1 := by rw [heq]; simp at hlt; omega
      obtain ⟨a1, y, rfl, hy, hr1⟩ := sd.re.ex (i := i) (by rw [← heq]; exact hi')
      obtain ⟨x, hx⟩ := get_ex (l := h.cs) (i := i) (by rw [g.len]; exact hi')
      have hx' : es[i]? = some x := by rw [hp.hi i (Nat.le_refl _)]; exact hx
      obtain ⟨a2, ha2, hr2⟩ := sc.re.get i x hx'
      obtain ⟨a2', ha2', hcan⟩ := sc.can hi'
      rw [ha2] at ha2'
      cases ha2'
      have b5 := k5.blk H4.blk (fun h0 => H.d2 h0.symm)
      have m1 := (sum_mem g.pos).2 x (List.mem_of_getElem? hx)
      have m2 := (sum_mem g'.pos).2 y (List.mem_of_getElem? hy)
      have p1 := g.pos x (List.mem_of_getElem? hx)
      have p2 := g'.pos y (List.mem_of_getElem? hy)
      rw [g.all] at m1
      rw [g'.all] at m2
      refine onPtr_mk ⟨by omega, by rw [← heq]; omega, y, reads_one' hr1, onPtr_mk ⟨some a2, _, _, (b5.cell0 1).trans (by rw [ha2]; rfl), onPtr_mk ⟨by omega, by omega, x, reads_one' hr2, onPtr_mk ⟨by omega, by omega, ?_, fun w6 e6 => ?_⟩⟩⟩⟩
      · have := hcan 0 1 (Nat.le_refl _); rwa [add_zero'] at this
      rw [wrapS (x := x + y) (by omega) (by omega)] at e6
      rw [wrapS (x := (i : Int) + 1) (by omega) (by omega)]
      obtain ⟨s6, k6⟩ := sc.set ha2 (x' := x + y) hi' e6
      refine ⟨⟨i + 1, _, by omega, hi', hp.step hx hy, s6, sd.chg k6 (fun g hg h0 => ?_), k5.trans k6⟩, meas hi'⟩
      have := (s4.lt hg).2
      have := (H3.sc.lt h0.symm).1
      omega
    · have hil : i = h.bs.length + 1 := by rw [← heq] at hge; simp at hge; omega
      subst hil
      have hes := hp.done dl (by rw [g.len]; exact Nat.le_refl _)
      subst hes
      have b5 := k5.blk H4.blk (fun h0 => H.d2 h0.symm)
      have sb5 := H4.sb.chg k5 (fun g hg h0 => H.d3 (hg.trans h0))
      refine onPtr_mk ⟨_, (b5.cell0 2).trans rfl, onPtr_mk ⟨b5.canStore0 (by simp), fun w6 e6 => ?_⟩⟩
      rw [wrapS (x := h.tot + o.tot) (by omega) (by omega)] at e6
      obtain ⟨b6, k6⟩ := b5.put e6
      refine onPtr_mk ⟨_, (b6.cell0 3).trans rfl, onPtr_mk ⟨b6.canStore0 (by simp), fun w7 e7 => ?_⟩⟩
      rw [wrapS (x := h.sum + o.sum) (by omega) (by omega)] at e7
      obtain ⟨b7, k7⟩ := b6.put e7
      have k57 : Chg (fun k => k = h.b) w5 w7 := k6.trans k7
      subst em
      refine ⟨rfl, ⟨b7, sb5.chg k57 (fun g hg h0 => H.d1 (hg.trans (congrArg some h0))), sc.chg k57 (fun g hg h0 => H.d2 (hg.trans (congrArg some h0))), H.base, H.n1, H.d1, H.d2, H.d3, g.merge g' hle⟩, ?_⟩
      exact (((kd.trans k4).of_none _).trans (k5.mono fun k _ hk => .inr (.inr hk))).trans (k57.mono fun k _ hk => .inl hk)
  · have H1 := H.chgN (Chg.refl none_ w).drew
    have O1 := O.chgN (Chg.refl none_ w).drew
    refine ⟨fun _ => True, Calls.use (made38 O1) ?_⟩
    rintro _ w3 ⟨rfl, rfl⟩
    refine ⟨_, rfl, fun _ _ => rfl, bcF rfl (onPtr_mk ⟨_, _, _, trivial, (H1.blk.cell 0).trans rfl, onPtr_mk ⟨_, _, _, trivial, (O1.blk.cell 0).trans rfl, Calls.use (equal40 H1.sb.re O1.sb.re (by have := H.good.ok.2.1; omega)) ?_⟩⟩)⟩
    rintro _ w4 ⟨rfl, k4⟩
    exact ⟨_, rfl, rfl, (Chg.refl none_ w).drew.trans k4⟩
end Go.Proofs.YtglidaifbpjpgaaDoor
