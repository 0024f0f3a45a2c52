import Derived.Test.YtdlbmmodlkmofaaDoorPlZ
import Derived.Test.YtdlbmmodlkmofaaDoorPl9
import Derived.Test.YtdlbmmodlkmofaaDoorPlY
set_option maxRecDepth 20000
namespace Go.Proofs.YtdlbmmodlkmofaaDoor
open Go Go.Vc Go.RowKit
/-! # the law: each smaller plan may be, and has one thing less -/
theorem things32 {w : World} {q1 q2 : Option Addr} {l1 c1 l2 c2 : Nat} {p : Pn} (h1 : RE En.t3 w q1 l1 p.faults) (h2 : CrsR w q2 l2 p.crashes) (hb : thg p ≤ 1104) :
    Calls Tryd.prog 32 #[.agg #[.slice q1 l1 c1, .slice q2 l2 c2]] w (Ret fun v w' => v = .int .i64 ((thg p : Nat) : Int) ∧ Chg none_ w w') := by
  have el1 := h1.len
  have el2 := h2.len
  refine f32.calls _ _ _ _ _ _ ?_
  unfold f32.wp
  unfold thg at hb
  have hsum : ∀ i, ((p.crashes.take i).map fun c => c.fates.length).sum ≤ (p.crashes.map fun c => c.fates.length).sum := fun i => by
    have := sum_sub ((List.take_sublist i p.crashes).map fun c => c.fates.length)
    exact this
  refine newBox fun w1 B1 k1 _ => ⟨_, _, _, (B1.cell 0).trans rfl, _, _, _, (B1.cell0 1).trans rfl, _, _, _, (B1.cell0 1).trans rfl,
    fun x y w' => ∃ i : Nat, y = (i : Int) ∧ i ≤ l2 ∧ x = ((l1 + l2 + ((p.crashes.take i).map fun c => c.fates.length).sum : Nat) : Int) ∧ Chg none_ w w', fun _ y _ => l2 - y.toNat,
    ⟨0, rfl, Nat.zero_le _, by rw [wrapS (by omega) (by omega)]; simp, k1⟩, ?_⟩
  rintro _ _ w2 ⟨i, rfl, hi, rfl, k2⟩
  refine bc (fun g => ?_) fun g => ?_
  · have g : i < l2 := by have := of_decide_eq_true g; omega
    obtain ⟨a, u, f, rfl, hf, hr, e1, e2, hfa, hub, huc⟩ := (h2.chg k2).at' g
    have hr : reads w2 (a.add (i * 3)) [.int .i64 u.step, .int .i64 u.rest, .slice u.q u.l u.c] := hr
    have hul := hfa.len
    have h3 := hsum (i + 1)
    have h4 : ((p.crashes.take (i + 1)).map fun c => c.fates.length).sum = ((p.crashes.take i).map fun c => c.fates.length).sum + u.l := by
      rw [take_snoc hf, List.map_append, List.sum_append]
      simp only [List.map_cons, List.map_nil, List.sum_cons, List.sum_nil]; omega
    refine onPtr_mk ⟨by omega, by omega, _, _, _, _, _, hr, boxed rfl rfl fun w4 B4 k4 _ => ⟨_, _, _, (B4.cell0 2).trans rfl, ?_⟩⟩
    rw [wrapS (x := (i : Int) + 1) (by omega) (by omega), wrapS (by omega) (by omega)]
    exact ⟨⟨i + 1, by omega, g, by omega, k2.trans k4⟩, meas g⟩
  · have : i = l2 := by have := of_decide_eq_false g; omega
    subst this
    rw [List.take_of_length_le (by omega)]
    refine ⟨?_, k2⟩
    unfold thg
    rw [el1, el2]
/-- what the law holds -/
structure F11 (W w : World) (ab r : Nat) (vs : Array Value) : Prop where
  chg : Chg none_ W w
  aB : Blk w ab 30 vs
  R : Blk w r 4 #[.bool false]
  o0 : W.heap.size ≤ ab
  o1 : ab < r
structure G11 (W w : World) (ab r : Nat) (vs : Array Value) (ib i dm : Nat) : Prop where
  f : F11 W w ab r vs
  bi : Blk w ib 3 #[.int .i64 (i : Int)]
  d : w.heap[dm]? = some (.deferred (some []))
  o1 : r < ib
  o2 : ib < dm
section
variable {W w w' : World} {ab r ib i dm : Nat} {vs : Array Value}
theorem F11.step (h : F11 W w ab r vs) {S : Nat → Prop} (c : Chg S w w') (hS : ∀ k, S k → r < k) : F11 W w' ab r vs :=
  have o0 := h.o0; have o1 := h.o1
  ⟨h.chg.up c (fun g hg => by have := hS g hg; omega), c.blk h.aB (fun hs => by have := hS _ hs; omega), c.blk h.R (fun hs => by have := hS _ hs; omega), o0, o1⟩
theorem G11.step (h : G11 W w ab r vs ib i dm) {S : Nat → Prop} (c : Chg S w w') (hS : ∀ k, S k → dm < k) : G11 W w' ab r vs ib i dm :=
  have o1 := h.o1; have o2 := h.o2
  ⟨h.f.step c (fun k hk => by have := hS k hk; omega), c.blk h.bi (fun hs => by have := hS _ hs; omega), c.at' h.d (fun hs => by have := hS _ hs; omega), o1, o2⟩
theorem G11.set (h : G11 W w ab r vs ib i dm) {j : Nat} (e : w' = setCells (⟨ib, 0, none⟩ : Addr) 0 [.int .i64 (j : Int)] w) : G11 W w' ab r vs ib j dm ∧ Chg (fun k => k = ib) w w' := by
  have o1 := h.o1; have o2 := h.o2
  have c : Chg (fun k => k = ib) w w' := (Chg.refl _ w).sets' e (.inl rfl)
  exact ⟨⟨h.f.step c (fun k hk => by omega), h.bi.over e rfl, c.at' h.d (by omega), o1, o2⟩, c⟩
end
section
variable {g : Gm} {q1 q2 : Option Addr} {l1 c1 l2 c2 : Nat}
theorem askRd4 {w' : World} {b : Nat} (B : Blk w' b 30 #[.int .i64 g.page, .int .i64 g.pages, .int .i64 g.regions, .int .i64 g.align, .slice q1 l1 c1, .slice q2 l2 c2]) : reads w' ((⟨b, 0, none⟩ : Addr).add 4) [.slice q1 l1 c1, .slice q2 l2 c2] := by
  rw [add_mk]
  refine B.reads fun j v hj => ?_
  rcases j with _ | _ | j
  · exact hj
  · exact hj
  · simp at hj
theorem askRd0 {w' : World} {b : Nat} (B : Blk w' b 30 #[.int .i64 g.page, .int .i64 g.pages, .int .i64 g.regions, .int .i64 g.align, .slice q1 l1 c1, .slice q2 l2 c2]) : reads w' (⟨b, 0, none⟩ : Addr) [.int .i64 g.page, .int .i64 g.pages, .int .i64 g.regions, .int .i64 g.align] := by
  refine B.reads fun j v hj => ?_
  rcases j with _ | _ | _ | _ | j
  · exact hj
  · exact hj
  · exact hj
  · exact hj
  · simp at hj
end
/-- a round -/
theorem round11 {W w : World} {ab r ib i dm B : Nat} {g : Gm} {q1 q2 q3 q4 : Option Addr} {l1 c1 l2 c2 l3 c3 l4 c4 : Nat} {p x : Pn} {rc : Loop}
    (G : G11 W w ab r #[.int .i64 g.page, .int .i64 g.pages, .int .i64 g.regions, .int .i64 g.align, .slice q1 l1 c1, .slice q2 l2 c2] ib i dm) (hx : (smL p)[i]? = some x) (hc : chk g p.faults p.crashes = 0) (hB : dm + 1 < B) (hBw : B ≤ w.heap.size) (h1 : SE En.t3 w B 37 q3 l3 c3 x.faults) (h2 : CrsD w B q4 l4 c4 x.crashes)
    (hp1 : RE En.t3 W q1 l1 p.faults) (hp2 : CrsR W q2 l2 p.crashes)
    (hrc : Laid 44 [(1, (.pointer (some (ad ab)))), (2, (.pointer (some (ad r)))), (3, (.pointer (some (ad ib))))] #[16] (rangeA Tryd.f11 0) (rangeB Tryd.f11 0) rc)
    (hr : RecOk w (dm + 1) rc .ready none) :
    YieldTo Tryd.prog (dm + 1) #[.agg #[.slice q3 l3 c3, .slice q4 l4 c4]] w fun b w3 => Chg (fun k => (k = ib ∨ k = dm + 1) ∨ B ≤ k) w w3 ∧
      (b = true → G11 W w3 ab r #[.int .i64 g.page, .int .i64 g.pages, .int .i64 g.regions, .int .i64 g.align, .slice q1 l1 c1, .slice q2 l2 c2] ib (i + 1) dm ∧ RecOk w3 (dm + 1) rc .ready none) ∧ (b = false → False) := by
  obtain ⟨rc1, hl1, hrest⟩ := id hr
  refine f11.round0.yields _ _ _ _ _ _ _ _ _ hrc hl1 hrest.2.2 ?_
  unfold f11.round0.wp
  obtain ⟨hcx, hlt⟩ := sm_chk hc hx
  obtain ⟨a1, a2, a3, a4⟩ := thg_le hc
  obtain ⟨b1, b2, b3, b4⟩ := thg_le hcx
  have hin := get_lt hx
  rw [sm_sum] at hin
  have hin : i < thg p := hin
  have o2 := G.o2
  have el3 := h1.len
  have el4 := h2.o.re.len
  have el1 := hp1.len
  have el2 := hp2.len
  refine boxed rfl rfl fun w1 X1 k1 z1 => ?_
  have z1 : w1.heap.size = w.heap.size + 1 := z1
  have G1 := G.step k1 (fun _ h => h.elim)
  have r1 := hr.chg k1 (fun h => h)
  refine r1.begin fun w2 r2 d2 => ?_
  have G2 := G1.step d2 (fun k hk => by omega)
  refine ⟨_, (G2.bi.cell 0).trans rfl, G2.bi.canStore (by simp), fun w4 e4 => ?_⟩
  rw [wS (by omega)] at e4
  obtain ⟨G4, c4'⟩ := G2.set (j := i + 1) e4
  have r4 := (r2.chg c4' (by omega)).chg (Chg.refl none_ w4).drew (fun h => h)
  have G4 := G4.step (Chg.refl none_ w4).drew (fun _ h => h.elim)
  have k14 : Chg (fun k => k = ib ∨ k = dm + 1) w1 w4.drew := ((d2.mono fun _ _ h => .inr h).trans (c4'.mono fun _ _ h => .inl h)).drew
  generalize w4.drew = v at *
  have X4 := k14.blk X1 (by omega)
  have S4 := (h1.chgN k1).chg k14 fun g hg hk => by have := (h1.lt hg).2; omega
  have D4 := (h2.chgN k1).chg k14 fun g hk => by omega
  have N4 : Chg (fun k => (k = ib ∨ k = dm + 1) ∨ B ≤ k) w v := (k1.mono fun _ _ h => h.elim).trans (k14.mono fun k _ hk => .inl hk)
  have P1 := hp1.chg G4.f.chg
  have P2 := hp2.chg G4.f.chg
  have A4 := G4.f.aB
  have hK : ∀ {b j : Nat}, b < v.heap.size → (fun p : Addr => p.block < v.heap.size) ((⟨b, 0, none⟩ : Addr).add j) := fun {b j} h => by
    show (Addr.add _ _).block < _
    rw [add_block]; exact h
  have hK4 : ∀ j : Nat, (fun p : Addr => p.block < v.heap.size) (((⟨ab, 0, none⟩ : Addr).add 4).add j) := fun j => by
    show (Addr.add _ _).block < _
    rw [add_block, add_block]; exact A4.lt
  refine ⟨fun p => p.block < v.heap.size, _, _, _, _, fun j _ => hK A4.lt, askRd0 A4, _, _, _, _, _, _, fun j _ => hK X4.lt, X4.reads0, Calls.use (check14 g S4.re D4.o.re (by omega) (by omega)) ?_⟩
  rintro _ w5 ⟨rfl, k5⟩
  rw [hcx]
  refine ⟨_, rfl, k5.keeps, bcF rfl ⟨_, _, _, _, _, _, fun j _ => hK X4.lt, X4.reads0, _, _, _, _, _, _, fun j _ => hK4 j, askRd4 A4, Calls.use (things32 (p := x) (S4.re.chg k5) (D4.o.re.chg k5) b4) ?_⟩⟩
  rintro _ w7 ⟨rfl, k7⟩
  have k57 := k5.trans k7
  refine ⟨_, rfl, k57.keeps, Calls.use (things32 (p := p) (P1.chg k57) (P2.chg k57) a4) ?_⟩
  rintro _ w8 ⟨rfl, k8⟩
  have k58 := k57.trans k8
  refine ⟨_, rfl, k58.keeps, bcF (by simp; omega) ⟨_, _, _, _, _, _, fun j _ => hK X4.lt, X4.reads0, _, _, _, _, _, _, fun j _ => hK X4.lt, X4.reads0, Calls.use (norm30 (S4.re.chg k58) (D4.o.re.chg k58) (by omega) (by omega)) ?_⟩⟩
  rintro _ w10 ⟨q5, l5, c5, q6, c6, rfl, hl5, S10, D10, k10⟩
  obtain ⟨_, i1, i2⟩ := (chk_iff g x).1 hcx
  rw [normF_id i1] at S10
  rw [normC_id i2] at D10
  have k510 := k58.trans k10
  refine ⟨_, _, _, _, _, _, rfl, k510.keeps, Calls.use (same16 S10.re D10.o.re (S4.re.chg k510) (D4.o.re.chg k510) (by omega) (by omega)) ?_⟩
  rintro _ w11 ⟨rfl, k11⟩
  have kk := k510.trans k11
  have r11 := r4.chg kk (fun h => h)
  have G11' := G4.step kk (fun _ h => h.elim)
  refine ⟨_, rfl, bcF rfl (r11.normal fun w9 r9 c9 => ⟨(N4.trans (kk.mono fun _ _ h => h.elim)).trans (c9.mono fun k _ hk => .inl (.inr hk)), fun _ => ⟨G11'.step c9 (fun k hk => by omega), r9⟩, fun h => by (cases h)⟩)⟩
theorem less11 {w : World} (g : Gm) {q1 q2 : Option Addr} {l1 c1 l2 c2 : Nat} {p : Pn} (h1 : RE En.t3 w q1 l1 p.faults) (h2 : CrsR w q2 l2 p.crashes) (hl1 : l1 * 24 ≤ 140737488351232) (hl2 : l2 * 40 ≤ 140737488351232) :
    Calls Tryd.prog 11 #[.agg #[.int .i64 g.page, .int .i64 g.pages, .int .i64 g.regions, .int .i64 g.align, .slice q1 l1 c1, .slice q2 l2 c2]] w (Ret fun v w' => v = .bool true ∧ Chg none_ w w') := by
  refine f11.calls _ _ _ _ _ _ _ _ _ _ ?_
  unfold f11.wp
  refine newBox fun w1 A1 k1 z1 => newBox fun w2 R2 k2 z2 => Calls.use (awake12 w2) ?_
  rintro _ w3 ⟨rfl, k3⟩
  have k03 := (k1.trans k2).trans k3
  have A3 := (k2.trans k3).blk A1 (fun x => x)
  have R3 := k3.blk R2 (fun x => x)
  have el1 := h1.len
  have el2 := h2.len
  refine ⟨_, rfl, bcF rfl ⟨_, _, _, _, askRd0 A3, _, _, _, _, _, _, askRd4 A3, Calls.use (check15 g (h1.chg k03) (h2.chg k03) (by omega) (by omega)) ?_⟩⟩
  rintro _ w5 ⟨rfl, k5⟩
  have k05 := k03.trans k5
  have F5 : F11 w w5 w.heap.size w1.heap.size #[.int .i64 g.page, .int .i64 g.pages, .int .i64 g.regions, .int .i64 g.align, .slice q1 l1 c1, .slice q2 l2 c2] :=
    ⟨k05, k5.blk A3 (fun x => x), k5.blk R3 (fun x => x), Nat.le_refl _, by omega⟩
  refine ⟨_, rfl, bc (fun hne => ⟨F5.R.canStore (by simp), fun w6 e6 => ?_⟩) fun he => ?_⟩
  · have R6 := F5.R.over e6 rfl
    have c6 : Chg (fun k => k = w1.heap.size) w5 w6 := (Chg.refl _ w5).sets' e6 (.inl rfl)
    have M6 := Marks.nil w w6
    exact ⟨M6.ok, true, ((R6.take (M6.not R6)).cell 0).trans rfl, rfl, M6.take (k05.up c6 fun k hk => by omega)⟩
  have hc : chk g p.faults p.crashes = 0 := by simpa using he
  obtain ⟨a1, a2, a3, a4⟩ := thg_le hc
  have hN : (smL p).length = thg p := by rw [sm_sum]; rfl
  refine boxed rfl rfl fun w8 I8 k8 z8 => ?_
  have z8 : w8.heap.size = w5.heap.size + 1 := z8
  have F8 := F5.step k8 (fun _ h => h.elim)
  have k08 := k05.trans k8
  refine ⟨_, _, _, _, _, _, askRd4 F8.aB, Calls.use (smaller28 (h1.chg k08) (h2.chg k08) hl1 hl2) ?_⟩
  rintro _ w9 ⟨q3, c3, q4, c4, rfl, I9, k9⟩
  have z9 := k9.size
  have F9 := F8.step k9 (fun _ h => h.elim)
  have H9 : Held (fun w0 => ItS w0 w8.heap.size w8.heap.size q3 l1 c3 q4 l2 c4 p) w8.heap.size w9.heap.size w9 := Held.new (P := fun w0 => ItS w0 w8.heap.size w8.heap.size q3 l1 c3 q4 l2 c4 p) I9 _ (Nat.le_refl _)
  obtain ⟨It, hIt⟩ : ∃ It : World → Prop, It = Held (fun w0 => ItS w0 w8.heap.size w8.heap.size q3 l1 c3 q4 l2 c4 p) w8.heap.size w9.heap.size := ⟨_, rfl⟩
  have itK : ∀ {S : Nat → Prop} {wa wb : World}, Chg S wa wb → (∀ k, S k → k < w8.heap.size ∨ w9.heap.size ≤ k) → It wa → It wb := fun c hS h => by
    rw [hIt] at h ⊢
    exact h.step c fun k hk => hS k hk
  have itS : ∀ {wa : World}, It wa → ItS wa w8.heap.size w8.heap.size q3 l1 c3 q4 l2 c4 p := fun h => by
    rw [hIt] at h
    obtain ⟨w0, g1, g2, g3⟩ := h
    have hb := g2.b.lt
    have hk : ∀ g, g < w8.heap.size ∨ w9.heap.size ≤ g → w8.heap.size ≤ g → g < w0.heap.size → False := fun g h1 h2 h3 => by omega
    refine ⟨g3.blk g2.b (fun h => hk _ h (Nat.le_refl _) hb), g2.f.chg g3 fun g hg h => hk g h (g2.f.lt hg).2 (g2.f.lt hg).1, ?_⟩
    obtain ⟨hs', u1, u2, u3⟩ := g2.c.ex
    exact ⟨hs', u1.chg g3 fun g hg h => hk g h (u1.lt hg).2 (u1.lt hg).1, u2, fun a x y hx hy => (u3 a x y hx hy).chg g3 fun g hg h => hk g h ((u3 a x y hx hy).2.2.1.lt hg).2 ((u3 a x y hx hy).2.2.1.lt hg).1⟩
  rw [← hIt] at H9
  refine ⟨_, rfl, 55, #[], #[.pointer (some (ad w8.heap.size))], rfl, rfl, fun rc hrc w10 e10 => ?_⟩
  obtain ⟨z10, d10, r10⟩ := entered e10
  have k10 : Chg none_ w9 w10 := (Chg.refl none_ w9).entered e10
  have hw1 := F5.R.lt
  have G10 : G11 w w10 w.heap.size w1.heap.size #[.int .i64 g.page, .int .i64 g.pages, .int .i64 g.regions, .int .i64 g.align, .slice q1 l1 c1, .slice q2 l2 c2] w5.heap.size 0 w9.heap.size :=
    ⟨F9.step k10 (fun _ h => h.elim), (k9.trans k10).blk I8 (fun x => x), d10, hw1, by omega⟩
  have H10 := itK k10 (fun _ h => h.elim) H9
  refine Calls.use (gone55 It (fun _ h => itS h) H10 (by omega) (w9.heap.size + 1)
    (fun i w' => G11 w w' w.heap.size w1.heap.size #[.int .i64 g.page, .int .i64 g.pages, .int .i64 g.regions, .int .i64 g.align, .slice q1 l1 c1, .slice q2 l2 c2] w5.heap.size i w9.heap.size ∧ RecOk w' (w9.heap.size + 1) rc .ready none ∧ It w')
    (fun _ => False) (fun k => k = w5.heap.size ∨ k = w9.heap.size + 1)
    (fun wa wb c h => itK c (fun k hk => by omega) h) (fun i wa wb ⟨a, b, c⟩ k => ⟨a.step k (fun _ h => h.elim), b.chg k (fun h => h), itK k (fun _ h => h.elim) c⟩)
    ⟨G10, RecOk.new hrc r10, H10⟩ ?_) ?_
  · rintro i B wb q5 l5 c5 q8 l8 c8 p' hp' ⟨Gb, rb, Hb⟩ hB hBw S5 D5 hl5 hl8
    refine (round11 Gb hp' hc (by omega) hBw S5 D5 h1 h2 hrc rb).mono ?_
    rintro b wc ⟨cc, ht, hf⟩
    exact ⟨cc, fun h => ⟨(ht h).1, (ht h).2, itK cc (fun k hk => by omega) Hb⟩, hf⟩
  · rintro v w34 (⟨G34, r34, H34⟩ | h)
    · refine ⟨v, rfl, r34.after (by decide) fun wz c => ?_⟩
      have Gz := (G34.step c (fun k hk => by omega)).step (Chg.refl none_ wz).drew (fun _ h => h.elim)
      have Mz : Marks w [w9.heap.size] wz.drew := (Marks.nil w w9).cons (Marks.nil w wz.drew) F9.chg.size Gz.d
      generalize wz.drew = V at *
      have hK4 : ∀ j : Nat, (fun p : Addr => p.block < V.heap.size) (((⟨w.heap.size, 0, none⟩ : Addr).add 4).add j) := fun j => by
        show (Addr.add _ _).block < _
        rw [add_block, add_block]; exact Gz.f.aB.lt
      refine ⟨fun p => p.block < V.heap.size, _, Gz.bi.lt, (Gz.bi.cell 0).trans rfl, _, _, _, _, _, _, fun j _ => hK4 j, askRd4 Gz.f.aB, Calls.use (things32 (p := p) (h1.chg Gz.f.chg) (h2.chg Gz.f.chg) a4) ?_⟩
      rintro _ w13 ⟨rfl, k13⟩
      have G13 := Gz.step k13 (fun _ h => h.elim)
      have M13 := Mz.chgN k13
      refine ⟨_, rfl, k13.keeps, G13.f.R.canStore (by simp), fun w14 e14 => ?_⟩
      have R14 := G13.f.R.over e14 rfl
      have c14 : Chg (fun k => k = w1.heap.size) w13 w14 := (Chg.refl _ w13).sets' e14 (.inl rfl)
      have M14 := M13.chg c14 (fun x hx hs => M13.not G13.f.R (by rw [← hs]; exact hx))
      refine ⟨M14.ok, _, ((R14.take (M14.not R14)).cell 0).trans rfl, ?_, M14.take (G13.f.chg.up c14 (fun g hg => by omega))⟩
      rw [hN]; simp
    · exact h.elim
end Go.Proofs.YtdlbmmodlkmofaaDoor
