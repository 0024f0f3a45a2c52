import Derived.Test.YtglidaifbpjpgaaDoorStN
set_option maxRecDepth 20000
namespace Go.Proofs.YtglidaifbpjpgaaDoor
open Go Go.Vc Go.RowKit
/-! # forks, and the bounds gone over -/
theorem fork30 {w : World} {base : Nat} {h : Hs} (H : HI w base h) :
    Calls Tryd.prog 30 #[.pointer (some (ad h.b))] w (Ret fun v w' => ∃ s : Hs, v = .pointer (some (ad s.b)) ∧ HI w' w.heap.size s ∧ s.bs = h.bs ∧ s.cs = h.cs ∧ s.tot = h.tot ∧ s.sum = h.sum ∧ Chg none_ w w') := by
  refine f30.calls _ ?_
  unfold f30.wp
  refine Calls.use (made38 H) ?_
  rintro _ _ ⟨rfl, rfl⟩
  have hl := H.good.ok.2.1
  have h1 := H.good.ok.1
  refine ⟨_, rfl, bcF rfl (onPtr_mk ⟨_, _, _, _, _, _, _, _, H.blk.reads0, fun w2 e2 => ⟨(new_blk e2).canStore (by simp), fun w3 e3 => ?_⟩⟩)⟩
  have B3 := (new_blk e2).over e3 rfl
  have k3 : Chg none_ w w3 := ((Chg.refl none_ w).new' e2).sets' e3 (.inr (Nat.le_refl _))
  have z3 : w3.heap.size = w.heap.size + 1 := by rw [e3, setCells_size]; exact new_size e2
  have k3d := k3.drew
  have B3d := B3.drew
  have z3d : w3.drew.heap.size = w.heap.size + 1 := z3
  generalize w3.drew = w4 at *
  have H4 := H.chgN k3d
  refine ⟨fun p => p.block < w4.heap.size, onPtr_mk ⟨_, _, _, H4.blk.lt, (H4.blk.cell 0).trans rfl, onPtr_mk ⟨_, _, _, by show (Addr.add _ _).block < _; rw [add_block]; exact H4.blk.lt, (H4.blk.cell0 1).trans rfl, Calls.use (clone37 H4.sb.re (by omega) (fun hq => absurd hq H.n1)) ?_⟩⟩⟩
  rintro _ w5 ⟨q5, c5, rfl, s5, k5, hn5⟩
  have H5 := H4.chgN k5
  refine ⟨_, _, _, rfl, k5.keeps, Calls.use (clone37 H5.sc.re (by omega) (fun hq => ?_)) ?_⟩
  · exfalso
    rcases H5.sc.ex with ⟨_, h0, _⟩ | ⟨_, _, _, h0, _⟩
    · omega
    · rw [hq] at h0; cases h0
  rintro _ w6 ⟨q6, c6, rfl, s6, k6, _⟩
  have B6 := k6.blk (k5.blk B3d (fun x => x)) (fun x => x)
  have s5' := s5.chgN k6
  refine ⟨_, _, _, rfl, B6.canStore (by simp), fun w7 e7 => ?_⟩
  obtain ⟨B7, c7⟩ := B6.put0 e7
  have z5 := k5.size
  have s57 := s5'.chg c7 (fun g hg => by have := (s5.lt hg).2; omega)
  have s67 := s6.chg c7 (fun g hg => by have := (s6.lt hg).2; omega)
  refine ⟨B7.canStore0 (by simp), fun w8 e8 => ?_⟩
  obtain ⟨B8, c8⟩ := B7.put e8
  have s58 := s57.chg c8 (fun g hg => by have := (s5.lt hg).2; omega)
  have s68 := s67.chg c8 (fun g hg => by have := (s6.lt hg).2; omega)
  refine ⟨⟨w.heap.size, q5, c5, q6, c6, h.bs, h.cs, h.tot, h.sum⟩, rfl, ⟨B8, s58.lower (by omega), s68.lower (by omega), Nat.le_refl _, ?_, ?_, ?_, ?_, H.good⟩, rfl, rfl, rfl, rfl, ?_⟩
  · intro hq; exact H.n1 (hn5.1 hq)
  · intro hq; have h9 : qB q5 = some w.heap.size := hq; have := (s5.lt h9).2; omega
  · intro hq; have h9 : qB q6 = some w.heap.size := hq; have := (s6.lt h9).2; omega
  · intro hq
    rcases s5.ex with ⟨hq5, _⟩ | ⟨g, _, _, hq5, _⟩
    · exact H.n1 (hn5.1 hq5)
    · have e5 : qB q5 = some g := by rw [hq5]; rfl
      have e6 : qB q6 = some g := hq ▸ e5
      have := (s5.lt e5).1
      have := (s6.lt e6).2
      omega
  · exact ((k3d.trans (k5.trans k6)).up c7 (fun g hg => by omega)).up c8 (fun g hg => by omega)
theorem refFork31 {w : World} {base : Nat} {h : Hs} (R : RI w base h) (hbw : base ≤ w.heap.size) :
    Calls Tryd.prog 31 #[.pointer (some (ad h.b))] w (Ret fun v w' => ∃ s : Hs, v = .pointer (some (ad s.b)) ∧ RI w' base s ∧ s.bs = h.bs ∧ s.cs = h.cs ∧ s.tot = h.tot ∧ s.sum = h.sum ∧ (∀ k, s.rown k → w.heap.size ≤ k) ∧ (∀ k, s.own k → h.own k ∨ w.heap.size ≤ k) ∧ Chg none_ w w') := by
  refine f31.calls _ ?_
  unfold f31.wp
  have hl := R.good.ok.2.1
  refine onPtr_mk ⟨_, _, _, _, _, _, _, _, R.blk.reads0, fun w1 e1 => ⟨(new_blk e1).canStore (by simp), fun w2 e2 w3 e3 => ?_⟩⟩
  have B2 := (new_blk e1).over e2 rfl
  have k2 : Chg none_ w w2 := ((Chg.refl none_ w).new' e1).sets' e2 (.inr (Nat.le_refl _))
  have z2 : w2.heap.size = w.heap.size + 1 := by rw [e2, setCells_size]; exact new_size e1
  have k23 := (Chg.refl none_ w2).new' e3
  have k3 := k2.trans k23
  have R3 := R.chgN k3
  have B3 := k23.blk B2 (fun x => x)
  obtain ⟨q4, c4, w4, hr, s4, k4, hq4, _⟩ := append_lit (c := h.c2) (empty_lit e3) (Chg.refl none_ w3) R3.sc.re (by omega) k23.size
  have k34 : Chg none_ w2 w4 := k23.up k4 (fun g hg => by omega)
  have B4 := k34.blk B2 (fun x => x)
  refine onPtr_mk ⟨_, _, _, (R3.blk.cell0 1).trans rfl, q4, _, c4, w4, hr, B4.canStore0 (by simp), fun w5 e5 => ?_⟩
  obtain ⟨B5, c5⟩ := B4.put e5
  have s5 := s4.chg c5 (fun g hg => by have := (s4.lt hg).2; omega)
  have R4 := R.chgN (k2.trans k34)
  have sb5 := R4.sb.chg c5 (fun g hg => by have := (R.sb.lt hg).1; omega)
  refine ⟨⟨w.heap.size, h.q1, h.c1, q4, c4, h.bs, h.cs, h.tot, h.sum⟩, rfl, ⟨B5, sb5, s5.lower (by omega), hbw, ?_, ?_, ?_, R.good⟩, rfl, rfl, rfl, rfl, ?_, ?_, (k2.trans k34).up c5 (fun g hg => by omega)⟩
  · intro hq; have h9 : qB h.q1 = some w.heap.size := hq; have := (R.sb.lt h9).1; omega
  · intro hq; have h9 : qB q4 = some w.heap.size := hq; have := (s4.lt h9).2; omega
  · intro hq
    rcases s4.ex with ⟨_, h0, _⟩ | ⟨g, _, _, hq5, _⟩
    · omega
    · have e5 : qB q4 = some g := by rw [hq5]; rfl
      have e6 : qB h.q1 = some g := hq.trans e5
      have := (R.sb.lt e6).1
      have := (s4.lt e5).2
      omega
  · rintro k (rfl | hk)
    · exact Nat.le_refl _
    · have := (s4.lt hk.symm).2; omega
  · rintro k (rfl | hk | hk)
    · exact .inr (Nat.le_refl _)
    · exact .inl (.inr (.inl hk))
    · exact .inr (by have := (s4.lt hk.symm).2; omega)
theorem bounds45 {w : World} {base : Nat} {h : Hs} (H : HI w base h) {b : Nat} (hb : Blk w b 34 #[.pointer (some (ad h.b))]) (lp : Nat) {N : Nat} (hN : ∀ k, h.own k → k < N) (J : Nat → World → Prop) (Jx : World → Prop)
    (hJ : ∀ w1, Chg none_ w w1 → J 0 w1)
    (hy : ∀ (i : Nat) (w1 : World) (x : Int), h.bs[i]? = some x → w.heap.size ≤ w1.heap.size → J i w1 → YieldTo Tryd.prog lp #[.int .i64 x, .int .i64 (h.cs.take (i + 1)).sum] w1 fun b w3 => Chg (fun k => N ≤ k ∧ k < w.heap.size) w1 w3 ∧ (b = true → J (i + 1) w3) ∧ (b = false → Jx w3)) :
    Calls Tryd.prog 45 #[.func (.yield lp) #[] #[], .pointer (some (ad b))] w (Ret fun _ w' => J h.bs.length w' ∨ Jx w') := by
  refine f45_y.calls _ _ ?_
  unfold f45_y.wp
  have g := H.good
  have hl := g.ok.2.1
  refine onPtr_mk ⟨_, (hb.cell 0).trans rfl, Calls.use (made38 H) ?_⟩
  rintro _ _ ⟨rfl, rfl⟩
  refine ⟨_, rfl, bcF rfl (onPtr_mk ⟨_, (hb.cell 0).trans rfl, onPtr_mk ⟨_, _, _, (H.blk.cell0 1).trans rfl, Calls.use (clone37 H.sc.re (by omega) (fun hq => ?_)) ?_⟩⟩)⟩
  · exfalso
    rcases H.sc.ex with ⟨_, h0, _⟩ | ⟨_, _, _, h0, _⟩
    · omega
    · rw [hq] at h0; cases h0
  rintro _ w2 ⟨q2, c2, rfl, s2, k2, _⟩
  have H2 := H.chgN k2
  have b2 := k2.blk hb (fun x => x)
  refine ⟨_, _, _, rfl, onPtr_mk ⟨_, (b2.cell 0).trans rfl, onPtr_mk ⟨_, _, _, (H2.blk.cell 0).trans rfl, fun x y w' => ∃ i : Nat, y = i ∧ i ≤ h.bs.length ∧ x = (h.cs.take i).sum ∧ J i w' ∧ HI w' base h ∧ SE En.int w' w.heap.size 3 q2 (h.bs.length + 1) c2 h.cs ∧ w.heap.size ≤ w'.heap.size, fun _ y _ => h.bs.length - y.toNat,
    ⟨0, rfl, Nat.zero_le _, by simp, hJ _ k2, H2, s2, k2.size⟩, ?_⟩⟩⟩
  rintro _ y w3 ⟨i, rfl, hi, rfl, hj, H3, s3, z3⟩
  refine bc (fun hlt => ?_) (fun hge => ?_)
  · have hi' : i < h.bs.length := by simpa using hlt
    obtain ⟨a1, x, ha1, hx, hr1⟩ := H3.sb.re.ex hi'
    obtain ⟨a2, c, rfl, hc, hr2⟩ := s3.re.ex (i := i) (by omega)
    have h1 := sum_take_le i g.pos
    have h2 := sum_take_le (i + 1) g.pos
    have h3 := sum_take_succ hc
    have h4 := g.t1
    have h5 := g.all
    rw [ha1]
    refine onPtr_mk ⟨by omega, by omega, x, reads_one' hr1, onPtr_mk ⟨by omega, by omega, c, reads_one' hr2, ?_⟩⟩
    rw [wrapS (x := (h.cs.take i).sum + c) (by omega) (by omega), wrapS (x := (i : Int) + 1) (by omega) (by omega), ← h3]
    refine ((hy i w3 x hx z3 hj).mono fun b w4 ⟨c4, ht, hf⟩ => ?_)
    cases b with
    | false => exact bcT rfl (.inr (hf rfl))
    | true =>
      refine bcF rfl ⟨⟨i + 1, rfl, hi', rfl, ht rfl, H3.chg c4 (fun k hk hs => by have := hN k hk; omega), s3.chg c4 (fun k hk hs => by have := (s3.lt hk).2; omega), Nat.le_trans z3 c4.size⟩, meas hi'⟩
  · have : i = h.bs.length := by have := of_decide_eq_false hge; omega
    subst this
    exact .inl hj
/-- what 'same' holds -/
structure F27 (W w : World) (st : Int) (s r qb cb : Nat) (q3 : Option Addr) (c3 : Nat) (q4 : Option Addr) (c4 : Nat) (bs us : List Int) : Prop where
  chg : Chg none_ W w
  S : Blk w s 3 #[.int .i64 st]
  R : Blk w r 4 #[.bool false]
  Q : Blk w qb 28 #[.slice q3 bs.length c3]
  C : Blk w cb 28 #[.slice q4 bs.length c4]
  sq : SE En.int w 0 3 q3 bs.length c3 bs
  sc : SE En.int w 0 3 q4 bs.length c4 us
  o : W.heap.size ≤ s ∧ s < r ∧ r < qb ∧ qb < cb
  oq : ∀ g, qB q3 = some g → g < qb
  oc : ∀ g, qB q4 = some g → g < qb
section
variable {W w w' : World} {st : Int} {s r qb cb : Nat} {q3 q4 : Option Addr} {c3 c4 : Nat} {bs us : List Int}
theorem F27.step (h : F27 W w st s r qb cb q3 c3 q4 c4 bs us) {S : Nat → Prop} (c : Chg S w w') (hS : ∀ k, S k → cb < k) : F27 W w' st s r qb cb q3 c3 q4 c4 bs us := by
  obtain ⟨o0, o1, o2, o3⟩ := h.o
  exact ⟨h.chg.up c (fun g hg => by have := hS g hg; omega), c.blk h.S (fun hs => by have := hS _ hs; omega), c.blk h.R (fun hs => by have := hS _ hs; omega), c.blk h.Q (fun hs => by have := hS _ hs; omega), c.blk h.C (fun hs => by have := hS _ hs; omega),
    h.sq.chg c (fun g hg hs => by have := hS _ hs; have := h.oq g hg; omega), h.sc.chg c (fun g hg hs => by have := hS _ hs; have := h.oc g hg; omega), h.o, h.oq, h.oc⟩
structure G27 (W w : World) (st : Int) (s r qb cb : Nat) (q3 : Option Addr) (c3 : Nat) (q4 : Option Addr) (c4 : Nat) (bs us : List Int) (g rd ib i : Nat) (ms : List Nat) (dm : Nat) : Prop where
  f : F27 W w st s r qb cb q3 c3 q4 c4 bs us
  bg : Blk w g 3 #[.int .i64 (rd : Int)]
  bi : Blk w ib 3 #[.int .i64 (i : Int)]
  m : Marks W ms w
  d : w.heap[dm]? = some (.deferred (some []))
  o1 : cb < g
  o2 : g < ib
  o3 : ib < dm
  om : ∀ x ∈ ms, x < ib
variable {g rd ib i dm : Nat} {ms : List Nat}
theorem G27.step (h : G27 W w st s r qb cb q3 c3 q4 c4 bs us g rd ib i ms dm) {S : Nat → Prop} (c : Chg S w w') (hS : ∀ k, S k → dm < k) : G27 W w' st s r qb cb q3 c3 q4 c4 bs us g rd ib i ms dm :=
  have o1 := h.o1; have o2 := h.o2; have o3 := h.o3
  ⟨h.f.step c (fun k hk => by have := hS k hk; omega), c.blk h.bg (fun hs => by have := hS _ hs; omega), c.blk h.bi (fun hs => by have := hS _ hs; omega), h.m.chg c (fun x hx hs => by have := hS _ hs; have := h.om x hx; omega), c.at' h.d (fun hs => by have := hS _ hs; omega), o1, o2, o3, h.om⟩
theorem G27.set (h : G27 W w st s r qb cb q3 c3 q4 c4 bs us g rd ib i ms dm) {j : Nat} (e : w' = setCells (⟨ib, 0, none⟩ : Addr) 0 [.int .i64 (j : Int)] w) : G27 W w' st s r qb cb q3 c3 q4 c4 bs us g rd ib j ms dm ∧ Chg (fun k => k = ib) w w' := by
  have o1 := h.o1; have o2 := h.o2; have o3 := h.o3
  have c : Chg (fun k => k = ib) w w' := (Chg.refl _ w).sets' e (.inl rfl)
  exact ⟨⟨h.f.step c (fun k hk => by omega), c.blk h.bg (by omega), h.bi.over e rfl, h.m.chg c (fun x hx hs => by have := h.om x hx; omega), c.at' h.d (by omega), o1, o2, o3, h.om⟩, c⟩
theorem round27 {rc : Loop} {x u : Int} {N : Nat} (G : G27 W w st s r qb cb q3 c3 q4 c4 bs us g rd ib i ms dm) (hl : bs.length ≤ 64) (hx : bs[i]? = some x) (hu : us[i]? = some u)
    (hrc : Laid 91 [(5, (.pointer (some (ad s)))), (6, (.pointer (some (ad r)))), (7, (.pointer (some (ad qb)))), (8, (.pointer (some (ad cb)))), (10, (.pointer (some (ad g)))), (11, (.pointer (some (ad ib))))] #[46, 47] (rangeA Tryd.f27 0) (rangeB Tryd.f27 0) rc)
    (hr : RecOk w (dm + 1) rc .ready none) (hN : N ≤ ib) :
    YieldTo Tryd.prog (dm + 1) #[.int .i64 x, .int .i64 u] w fun b w3 => Chg (fun k => N ≤ k ∧ k < dm + 2) w w3 ∧
      (b = true → G27 W w3 st s r qb cb q3 c3 q4 c4 bs us g rd ib (i + 1) ms dm ∧ RecOk w3 (dm + 1) rc .ready none) ∧
      (b = false → ∃ j : Nat, (rd = 0 ∧ (j : Int) = st) ∧ G27 W w3 st s r qb cb q3 c3 q4 c4 bs us g rd ib j ms dm ∧ RecOk w3 (dm + 1) rc .done (some (.exit 2))) := by
  obtain ⟨rc1, hl1, hrest⟩ := id hr
  refine f27.round0.yields _ _ _ _ _ _ _ _ hrc hl1 hrest.2.2 ?_
  unfold f27.round0.wp
  have o3 := G.o3
  have hi := get_lt hx
  refine hr.begin fun w1 r1 c1 => ?_
  have G1 := G.step c1 (fun k hk => by omega)
  have N1 : Chg (fun k => N ≤ k ∧ k < dm + 2) w w1 := c1.mono fun k _ hk => by omega
  obtain ⟨a3, x', ha3, hx', hr3⟩ := G1.f.sq.re.ex hi
  rw [hx] at hx'; cases hx'
  obtain ⟨a4, u', ha4, hu', hr4⟩ := G1.f.sc.re.ex hi
  rw [hu] at hu'; cases hu'
  refine ⟨_, (G1.bi.cell 0).trans rfl, _, _, _, (G1.f.Q.cell 0).trans rfl, bcF (decide_eq_false (by omega)) ⟨some a3, _, _, (G1.f.Q.cell 0).trans (by rw [ha3]; rfl), _, (G1.bi.cell 0).trans rfl, onPtr_mk ⟨by omega, by omega, x, reads_one' hr3, bcF (by simp) ⟨some a4, _, _, (G1.f.C.cell 0).trans (by rw [ha4]; rfl), _, (G1.bi.cell 0).trans rfl, onPtr_mk ⟨by omega, by omega, u, reads_one' hr4, bcF (by simp) ⟨_, (G1.bi.cell 0).trans rfl, G1.bi.canStore (by simp), fun w5 e5 => ?_⟩⟩⟩⟩⟩⟩
  rw [wrapS (x := (i : Int) + 1) (by omega) (by omega)] at e5
  obtain ⟨G5, c5⟩ := G1.set (j := i + 1) e5
  have r5 := r1.chg c5 (by omega)
  have N5 := N1.trans (c5.mono fun k _ hk => (show N ≤ k ∧ k < dm + 2 by omega))
  have norm : endQ (dm + 1) (fun b w3 => Chg (fun k => N ≤ k ∧ k < dm + 2) w w3 ∧
      (b = true → G27 W w3 st s r qb cb q3 c3 q4 c4 bs us g rd ib (i + 1) ms dm ∧ RecOk w3 (dm + 1) rc .ready none) ∧
      (b = false → ∃ j : Nat, (rd = 0 ∧ (j : Int) = st) ∧ G27 W w3 st s r qb cb q3 c3 q4 c4 bs us g rd ib j ms dm ∧ RecOk w3 (dm + 1) rc .done (some (.exit 2)))) .normal w5 :=
    r5.normal fun w9 r9 c9 => ⟨N5.trans (c9.mono fun k _ hk => by omega), fun _ => ⟨G5.step c9 (fun k hk => by omega), r9⟩, fun h => by (cases h)⟩
  refine onPtr_mk ⟨_, (G5.bg.cell 0).trans rfl, bc (fun h0 => ⟨_, (G5.bi.cell 0).trans rfl, _, (G5.f.S.cell 0).trans rfl, bc (fun hst => ?_) (fun _ => norm)⟩) (fun _ => norm)⟩
  refine r5.exit fun w9 r9 c9 => ⟨N5.trans (c9.mono fun k _ hk => by omega), fun h => by (cases h), fun _ => ⟨i + 1, ⟨?_, ?_⟩, G5.step c9 (fun k hk => by omega), r9⟩⟩
  · have := eq_of_beq h0; omega
  · exact eq_of_beq hst
end
theorem same27 {w : World} {base base' : Nat} {h k : Hs} (H : HI w base h) (R : RI w base' k) (eb : k.bs = h.bs) (ec : k.cs = h.cs) (et : k.tot = h.tot) (es : k.sum = h.sum) (st : Int) :
    Calls Tryd.prog 27 #[.pointer (some (ad h.b)), .pointer (some (ad k.b)), .int .i64 st] w (Ret fun v w' => v = .bool true ∧ Chg none_ w w') := by
  refine f27.calls _ _ _ ?_
  unfold f27.wp
  have hl := H.good.ok.2.1
  refine newBox fun w1 S1 k1 z1 => newBox fun w2 R2 k2 z2 => ?_
  have k02 := k1.trans k2
  refine Calls.use (total23 (H.chgN k02)) ?_
  rintro _ _ ⟨rfl, rfl⟩
  refine ⟨_, rfl, Calls.use (refTotal41 (R.chgN k02)) ?_⟩
  rintro _ _ ⟨rfl, rfl⟩
  refine ⟨_, rfl, bcF (by simp [et]) (Calls.use (sum24 (H.chgN k02)) ?_)⟩
  rintro _ _ ⟨rfl, rfl⟩
  refine ⟨_, rfl, Calls.use (refSum42 (R.chgN k02)) ?_⟩
  rintro _ _ ⟨rfl, rfl⟩
  refine ⟨_, rfl, bcF (by simp [es]) (Calls.use (counts22 (H.chgN k02)) ?_)⟩
  rintro _ w9 ⟨q5, c5, rfl, s5, k9⟩
  refine ⟨_, _, _, rfl, Calls.use (refCounts43 ((R.chgN k02).chgN k9)) ?_⟩
  rintro _ w10 ⟨q6, c6, rfl, s6, k10⟩
  refine ⟨_, _, _, rfl, Calls.use (sameInts16 (s5.chgN k10).re s6.re (by omega)) ?_⟩
  rintro _ w11 ⟨rfl, k11⟩
  have k011 := ((k02.trans k9).trans k10).trans k11
  have k211 := (k9.trans k10).trans k11
  refine ⟨_, rfl, bcF (by simp [ec]) (Calls.use (refUpTo44 (R.chgN k011)) ?_)⟩
  rintro _ w13 ⟨q3, c3, q4, c4, rfl, s3, s4, k13⟩
  rw [eb] at s3 s4
  rw [ec] at s4
  have k013 := k011.trans k13
  have k213 := k211.trans k13
  have S13 := k213.blk (k2.blk S1 (fun x => x)) (fun x => x)
  have R13 := k213.blk R2 (fun x => x)
  have z13 := k213.size
  rw [eb]
  refine ⟨_, _, _, _, _, _, rfl, fun w14 e14 w15 e15 => ?_⟩
  have Q15 := (new_blk e14).new' e15
  have C15 := new_blk e15
  have k1315 := ((Chg.refl none_ w13).new' e14).new' e15
  have z14 := new_size e14
  have z15 := new_size e15
  refine ⟨Q15.canStore (by simp), fun w16 e16 => ?_⟩
  have Q16 := Q15.over e16 rfl
  have c16 : Chg (fun k => k = w13.heap.size) w15 w16 := (Chg.refl _ w15).sets' e16 (.inl rfl)
  have C16 := c16.blk C15 (by omega)
  have k1316 := k1315.up c16 (fun g hg => by omega)
  refine ⟨C16.canStore (by simp), fun w17 e17 => ?_⟩
  have C17 := C16.over e17 rfl
  have c17 : Chg (fun k => k = w14.heap.size) w16 w17 := (Chg.refl _ w16).sets' e17 (.inl rfl)
  have Q17 := c17.blk Q16 (by omega)
  have k1317 := k1316.up c17 (fun g hg => by omega)
  have F17 : F27 w w17 st w.heap.size w1.heap.size w13.heap.size w14.heap.size q3 c3 q4 c4 h.bs (upTo h.cs h.bs.length) :=
    ⟨k013.trans k1317, k1317.blk S13 (fun x => x), k1317.blk R13 (fun x => x), Q17, C17, (s3.chgN k1317).lower (Nat.zero_le _), (s4.chgN k1317).lower (Nat.zero_le _), ⟨Nat.le_refl _, by omega, by omega, by omega⟩, fun g hg => (s3.lt hg).1, fun g hg => (s4.lt hg).1⟩
  clear Q17 c17 k1317 C17 k1316 C16 Q16 c16 k1315 C15 Q15 S13 R13 k213 k211 k02
  refine Calls.use (bounds32 (some (ad h.b)) w17) ?_
  rintro _ w18 ⟨rfl, B18, e18⟩
  have k18 : Chg none_ w17 w18 := (Chg.refl none_ w17).new' e18
  have F18 := F17.step k18 (fun _ h => h.elim)
  have z18 : w18.heap.size = w17.heap.size + 1 := new_size e18
  refine ⟨_, rfl, boxed rfl rfl fun w20 G20 k20 z20 => ?_⟩
  have cbl := F18.C.lt
  refine ⟨fun p w' ms => ∃ g rd : Nat, p = some (ad g) ∧ w18.heap.size ≤ g ∧ rd ≤ 2 ∧ Blk w' g 3 #[.int .i64 (rd : Int)] ∧ F27 w w' st w.heap.size w1.heap.size w13.heap.size w14.heap.size q3 c3 q4 c4 h.bs (upTo h.cs h.bs.length) ∧ Blk w' w17.heap.size 34 #[.pointer (some (ad h.b))] ∧ Marks w ms w', fun p w' => 2 - cellN p w',
    ⟨w18.heap.size, 0, rfl, Nat.le_refl _, by omega, G20, F18.step k20 (fun _ h => h.elim), k20.blk B18 (fun x => x), Marks.nil _ _⟩, ?_⟩
  clear G20 k20 z20
  rintro _ ms w29 ⟨g, rd, rfl, hg, hrd, G29, F29, B29, M29⟩
  refine onPtr_mk ⟨_, (G29.cell 0).trans rfl, bc (fun hlt => ?_) (fun hge => ⟨F29.R.canStore (by simp), fun w46 e46 => ?_⟩)⟩
  case refine_2 =>
    have R46 := F29.R.over e46 rfl
    have c46 : Chg (fun k => k = w1.heap.size) w29 w46 := (Chg.refl _ w29).sets' e46 (.inl rfl)
    have M46 := M29.chg c46 (fun x hx hs => M29.not F29.R (by rw [← hs]; exact hx))
    exact ⟨M46.ok, true, ((R46.take (M46.not R46)).cell 0).trans rfl, rfl, M46.take (F29.chg.up c46 (fun g hg => by have := F29.o; omega))⟩
  have hrd2 : rd < 2 := by have := of_decide_eq_true hlt; omega
  refine boxed rfl rfl fun w31 I31 k31 z31 => ?_
  refine ⟨fun w' ms' => ms' = w31.heap.size :: ms ∧ ∃ j : Nat, (j = h.bs.length ∨ rd = 0 ∧ (j : Int) = st) ∧ Blk w' w29.heap.size 3 #[.int .i64 (j : Int)] ∧ Blk w' g 3 #[.int .i64 (rd : Int)] ∧ F27 w w' st w.heap.size w1.heap.size w13.heap.size w14.heap.size q3 c3 q4 c4 h.bs (upTo h.cs h.bs.length) ∧ Blk w' w17.heap.size 34 #[.pointer (some (ad h.b))] ∧ Marks w (w31.heap.size :: ms) w', ?_, ?_⟩
  · rintro ms' w32 ⟨rfl, j, hj, I32, G32, F32, B32, M32⟩
    have next : ∀ w40, w40 = w32.alloc (.cells #[.int .i64 0] 3) → canStore w40 (⟨w32.heap.size, 0, none⟩ : Addr) 1 ∧ ∀ w41, w41 = setCells (⟨w32.heap.size, 0, none⟩ : Addr) 0 [.int .i64 (rd : Int)] w40 → ∃ n11 : Int, w41.cell? (⟨w32.heap.size, 0, none⟩ : Addr) = some (.int .i64 n11) ∧ canStore w41 (⟨w32.heap.size, 0, none⟩ : Addr) 1 ∧
        ∀ w42, w42 = setCells (⟨w32.heap.size, 0, none⟩ : Addr) 0 [.int .i64 (IntKind.wrap .i64 (n11 + 1))] w41 → (∃ g rd : Nat, some (⟨w32.heap.size, 0, none⟩ : Addr) = some (ad g) ∧ w18.heap.size ≤ g ∧ rd ≤ 2 ∧ Blk w42 g 3 #[.int .i64 (rd : Int)] ∧ F27 w w42 st w.heap.size w1.heap.size w13.heap.size w14.heap.size q3 c3 q4 c4 h.bs (upTo h.cs h.bs.length) ∧ Blk w42 w17.heap.size 34 #[.pointer (some (ad h.b))] ∧ Marks w (w31.heap.size :: ms) w42) ∧
          2 - cellN (some (⟨w32.heap.size, 0, none⟩ : Addr)) w42 < 2 - cellN (some (ad g)) w29 := boxed rfl rfl fun w41 B41 k41 z41 => ⟨_, (B41.cell 0).trans rfl, B41.canStore (by simp), fun w42 e42 => by
      rw [wrapS (x := (rd : Int) + 1) (by omega) (by omega)] at e42
      have B42 : Blk w42 w32.heap.size 3 #[.int .i64 ((rd + 1 : Nat) : Int)] := B41.over e42 rfl
      have k42 : Chg none_ w32 w42 := k41.sets' e42 (.inr (Nat.le_refl _))
      refine ⟨⟨w32.heap.size, rd + 1, rfl, by have := G32.lt; omega, by omega, B42, F32.step k42 (fun _ h => h.elim), k42.blk B32 (fun x => x), M32.chgN k42⟩, ?_⟩
      rw [cellN_eq B42, cellN_eq G29]; omega⟩
    refine ⟨_, (I32.cell 0).trans rfl, _, _, _, (F32.Q.cell 0).trans rfl, bc (fun hne => ?_) (fun _ => onPtr_mk ⟨_, (G32.cell 0).trans rfl, next⟩)⟩
    have hne : j ≠ h.bs.length := fun e => by rw [e] at hne; simp at hne
    rcases hj with hj | ⟨hr0, hst⟩
    · exact absurd hj hne
    · exact onPtr_mk ⟨_, (G32.cell 0).trans rfl, bcF (by simp [hr0]) ⟨_, (I32.cell 0).trans rfl, st, (F32.S.cell 0).trans rfl, bcF (by simp [hst]) (onPtr_mk ⟨_, (G32.cell 0).trans rfl, next⟩)⟩⟩
  · refine ⟨45, #[], #[.pointer (some (ad w17.heap.size))], rfl, rfl, fun rc hrc w33 e33 => ?_⟩
    obtain ⟨z33, d33, r33⟩ := entered e33
    have k3133 : Chg none_ w31 w33 := (Chg.refl none_ w31).entered e33
    have k33 := k31.trans k3133
    have gl := G29.lt
    have G33 : G27 w w33 st w.heap.size w1.heap.size w13.heap.size w14.heap.size q3 c3 q4 c4 h.bs (upTo h.cs h.bs.length) g rd w29.heap.size 0 ms w31.heap.size :=
      ⟨F29.step k33 (fun _ h => h.elim), k33.blk G29 (fun x => x), k3133.blk I31 (fun x => x), M29.chgN k33, d33, by omega, gl, by omega, fun x hx => M29.lt x hx⟩
    have B33 := k33.blk B29 (fun x => x)
    have H33 := H.chgN G33.f.chg
    have own18 : ∀ k, h.own k → k < w18.heap.size := fun k hk => by
      have := (H.ownLt hk).1
      have := F18.chg.size
      omega
    refine Calls.use (bounds45 H33 B33 (w31.heap.size + 1) (N := w18.heap.size) own18
      (fun i w' => G27 w w' st w.heap.size w1.heap.size w13.heap.size w14.heap.size q3 c3 q4 c4 h.bs (upTo h.cs h.bs.length) g rd w29.heap.size i ms w31.heap.size ∧ RecOk w' (w31.heap.size + 1) rc .ready none ∧ Blk w' w17.heap.size 34 #[.pointer (some (ad h.b))])
      (fun w' => ∃ j : Nat, (rd = 0 ∧ (j : Int) = st) ∧ G27 w w' st w.heap.size w1.heap.size w13.heap.size w14.heap.size q3 c3 q4 c4 h.bs (upTo h.cs h.bs.length) g rd w29.heap.size j ms w31.heap.size ∧ RecOk w' (w31.heap.size + 1) rc .done (some (.exit 2)) ∧ Blk w' w17.heap.size 34 #[.pointer (some (ad h.b))])
      (fun wa ka => ⟨G33.step ka (fun _ h => h.elim), (RecOk.new hrc r33).chg ka (fun x => x), ka.blk B33 (fun x => x)⟩) ?_) ?_
    · rintro i wa x hx za ⟨Ga, ra, Ba⟩
      refine (round27 (N := w18.heap.size) Ga hl hx (upTo_get (get_lt hx)) hrc ra (by omega)).mono ?_
      rintro b wc ⟨cc, ht, hf⟩
      have Bc := cc.blk Ba (by omega)
      refine ⟨cc.mono fun k _ hk => by omega, fun h => ⟨(ht h).1, (ht h).2, Bc⟩, fun h => ?_⟩
      obtain ⟨j, h1, h2, h3⟩ := hf h
      exact ⟨j, h1, h2, h3, Bc⟩
    · have fin : ∀ {w' wz : World} {j : Nat}, (j = h.bs.length ∨ rd = 0 ∧ (j : Int) = st) → G27 w w' st w.heap.size w1.heap.size w13.heap.size w14.heap.size q3 c3 q4 c4 h.bs (upTo h.cs h.bs.length) g rd w29.heap.size j ms w31.heap.size → Blk w' w17.heap.size 34 #[.pointer (some (ad h.b))] → Chg (fun k => k = w31.heap.size + 1) w' wz →
          (w31.heap.size :: ms = w31.heap.size :: ms ∧ ∃ j : Nat, (j = h.bs.length ∨ rd = 0 ∧ (j : Int) = st) ∧ Blk wz w29.heap.size 3 #[.int .i64 (j : Int)] ∧ Blk wz g 3 #[.int .i64 (rd : Int)] ∧ F27 w wz st w.heap.size w1.heap.size w13.heap.size w14.heap.size q3 c3 q4 c4 h.bs (upTo h.cs h.bs.length) ∧ Blk wz w17.heap.size 34 #[.pointer (some (ad h.b))] ∧ Marks w (w31.heap.size :: ms) wz) := fun {w' wz j} hj G' B' c => by
        have Gz := G'.step c (fun k hk => by omega)
        refine ⟨rfl, j, hj, Gz.bi, Gz.bg, Gz.f, c.blk B' (by omega), ?_⟩
        exact (M29.chgN k31).cons Gz.m (by have := k31.size; have := F29.chg.size; omega) Gz.d
      rintro v w34 (⟨G34, r34, B34⟩ | ⟨j, hj, G34, r34, B34⟩)
      · exact ⟨v, rfl, r34.after (by decide) fun wz c => fin (.inl rfl) G34 B34 c⟩
      · exact ⟨v, rfl, r34.afterExit (by decide) rfl fun wz c => fin (.inr hj) G34 B34 c⟩
end Go.Proofs.YtglidaifbpjpgaaDoor
