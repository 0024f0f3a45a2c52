import Derived.Test.YtdlbmmodlkmofaaDoorPlX
import Derived.Test.YtdlbmmodlkmofaaDoorPlG
import Derived.Test.YtdlbmmodlkmofaaDoorRf
import Derived.Test.YtdlbmmodlkmofaaDoorOps
set_option maxRecDepth 20000
namespace Go.Proofs.YtdlbmmodlkmofaaDoor
open Go Go.Vc Go.RowKit
/-! # the law of the plans with one thing less -/
/-- what may be spoiled -/
theorem CrsD.wr {S : Nat → Prop} {w0 w : World} {base : Nat} {q : Option Addr} {l c : Nat} {cs : List Cr} (h : CrsD w0 base q l c cs) (k : Chg none_ w0 w) (hS : ∀ g, base ≤ g → g < w0.heap.size → S g) : ∃ hs, Wr S w base q l c 0 hs := by
  obtain ⟨hs, h1, h2, h3, h4⟩ := h.ex
  refine ⟨hs, h1.chgN k, h4, fun j x _ hx => ?_, fun j x _ hx g hg => ?_⟩
  · obtain ⟨f, hf⟩ := get_ex (l := cs) (i := j) (by have := get_lt hx; omega)
    obtain ⟨_, _, hF, hb⟩ := h3 j x f hx hf
    exact ⟨by omega, _, hF.chgN k⟩
  · obtain ⟨f, hf⟩ := get_ex (l := cs) (i := j) (by have := get_lt hx; omega)
    have := (h3 j x f hx hf).2.2.1.lt hg
    exact hS g this.2 this.1
theorem spoilD {S : Nat → Prop} {w0 w : World} {base : Nat} {q1 q2 : Option Addr} {l1 c1 l2 c2 : Nat} {fs : List T3} {cs : List Cr} (h1 : SE En.t3 w0 base 37 q1 l1 c1 fs) (h2 : CrsD w0 base q2 l2 c2 cs) (k : Chg none_ w0 w) (hl1 : l1 ≤ 1000000000000000000) (hl2 : l2 ≤ 1000000000000000000) (hS : ∀ g, base ≤ g → g < w0.heap.size → S g) :
    Calls Tryd.prog 29 #[.agg #[.slice q1 l1 c1, .slice q2 l2 c2]] w (Ret fun v w' => v = .tuple #[] ∧ Chg S w w') := by
  obtain ⟨hs, hW⟩ := h2.wr k hS
  exact spoil29 (h1.chgN k) hW hl1 hl2 (fun g hg => hS g (h1.lt hg).2 (h1.lt hg).1) (fun g hg => by
    obtain ⟨hs', h3, _⟩ := h2.ex
    exact hS g (h3.lt hg).2 (h3.lt hg).1)
section
variable {w w' : World} {ps : List Pn}
theorem OutP.lower {base b : Nat} {q : Option Addr} {n c : Nat} (h : OutP w base q n c ps) (hb : b ≤ base) : OutP w b q n c ps := by
  obtain ⟨hs, h1, h2, h3⟩ := h.ex
  exact ⟨hs, h1.lower hb, h2, fun i x y hx hy => ⟨(h3 i x y hx hy).f.lower hb, (h3 i x y hx hy).c.lower hb⟩⟩
theorem OutP.chg {base : Nat} {q : Option Addr} {n c : Nat} (h : OutP w base q n c ps) {S : Nat → Prop} (k : Chg S w w') (hS : ∀ g, S g → g < base ∨ w.heap.size ≤ g) : OutP w' base q n c ps := by
  obtain ⟨hs, h1, h2, h3⟩ := h.ex
  exact ⟨hs, h1.chg k fun g hg x => by have := h1.lt hg; have := hS g x; omega, h2, fun i a b ha hb => by
    have o := h3 i a b ha hb
    refine ⟨o.f.chg k fun g hg x => by have := o.f.lt hg; have := hS g x; omega, ?_⟩
    obtain ⟨hs', g1, g2, g3⟩ := o.c.ex
    exact ⟨hs', g1.chg k fun g hg x => by have := g1.lt hg; have := hS g x; omega, g2, fun u x y hx hy => (g3 u x y hx hy).chg k fun g hg x' => by have := (g3 u x y hx hy).2.2.1.lt hg; have := hS g x'; omega⟩⟩
end
/-- what held once and was left alone since -/
def Held (P : World → Prop) (lo hi : Nat) (w : World) : Prop := ∃ w0, w0.heap.size ≤ hi ∧ P w0 ∧ Chg (fun k => k < lo ∨ hi ≤ k) w0 w
theorem Held.step {P : World → Prop} {lo hi : Nat} {w w' : World} (h : Held P lo hi w) {S : Nat → Prop} (c : Chg S w w') (hS : ∀ k, S k → k < lo ∨ hi ≤ k) : Held P lo hi w' := by
  obtain ⟨w0, h1, h2, h3⟩ := h
  exact ⟨w0, h1, h2, h3.trans (c.mono fun k _ hk => hS k hk)⟩
theorem Held.new {P : World → Prop} {w : World} (h : P w) (lo : Nat) {hi : Nat} (hh : w.heap.size ≤ hi) : Held P lo hi w := ⟨w, hh, h, Chg.refl _ _⟩
/-- what the law holds: the stop, its answer, the reference's list -/
structure F9 (W w : World) (sb r lo wt : Nat) (st : Int) (qo : Option Addr) (n co : Nat) (ps : List Pn) : Prop where
  chg : Chg none_ W w
  sB : Blk w sb 3 #[.int .i64 st]
  R : Blk w r 4 #[.bool false]
  wB : Blk w wt 60 #[.slice qo n co]
  out : Held (fun w0 => OutP w0 lo qo n co ps) lo wt w
  o0 : W.heap.size ≤ sb
  o1 : sb < r
  o2 : r < lo
  o3 : lo ≤ wt
section
variable {W w w' : World} {sb r lo wt n co : Nat} {st : Int} {qo : Option Addr} {ps : List Pn}
theorem F9.step (h : F9 W w sb r lo wt st qo n co ps) {S : Nat → Prop} (c : Chg S w w') (hS : ∀ k, S k → wt < k) : F9 W w' sb r lo wt st qo n co ps :=
  have o0 := h.o0; have o1 := h.o1; have o2 := h.o2; have o3 := h.o3
  ⟨h.chg.up c (fun g hg => by have := hS g hg; omega), c.blk h.sB (fun hs => by have := hS _ hs; omega), c.blk h.R (fun hs => by have := hS _ hs; omega), c.blk h.wB (fun hs => by have := hS _ hs; omega), h.out.step c (fun k hk => .inr (by have := hS k hk; omega)), o0, o1, o2, o3⟩
theorem F9.outP (h : F9 W w sb r lo wt st qo n co ps) : OutP w lo qo n co ps := by
  obtain ⟨w0, h1, h2, h3⟩ := h.out
  exact h2.chg h3 fun g hg => by omega
/-- within a range -/
structure G9 (W w : World) (sb r lo wt : Nat) (st : Int) (qo : Option Addr) (n co : Nat) (ps : List Pn) (g rd ib i : Nat) (ms : List Nat) (dm : Nat) : Prop where
  f : F9 W w sb r lo wt st qo n co ps
  bg : Blk w g 3 #[.int .i64 (rd : Int)]
  bi : Blk w ib 3 #[.int .i64 (i : Int)]
  m : Marks W ms w
  d : w.heap[dm]? = some (.deferred (some []))
  o1 : wt < g
  o2 : g < ib
  o3 : ib < dm
  om : ∀ x ∈ ms, x < ib
variable {g rd ib i dm : Nat} {ms : List Nat}
theorem G9.step (h : G9 W w sb r lo wt st qo n co ps g rd ib i ms dm) {S : Nat → Prop} (c : Chg S w w') (hS : ∀ k, S k → dm < k) : G9 W w' sb r lo wt st qo n co ps g rd ib i ms dm :=
  have o1 := h.o1; have o2 := h.o2; have o3 := h.o3
  ⟨h.f.step c (fun k hk => by have := hS k hk; omega), c.blk h.bg (fun hs => by have := hS _ hs; omega), c.blk h.bi (fun hs => by have := hS _ hs; omega), h.m.chg c (fun x hx hs => by have := hS _ hs; have := h.om x hx; omega), c.at' h.d (fun hs => by have := hS _ hs; omega), o1, o2, o3, h.om⟩
theorem G9.set (h : G9 W w sb r lo wt st qo n co ps g rd ib i ms dm) {j : Nat} (e : w' = setCells (⟨ib, 0, none⟩ : Addr) 0 [.int .i64 (j : Int)] w) : G9 W w' sb r lo wt st qo n co ps g rd ib j ms dm ∧ Chg (fun k => k = ib) w w' := by
  have o1 := h.o1; have o2 := h.o2; have o3 := h.o3
  have c : Chg (fun k => k = ib) w w' := (Chg.refl _ w).sets' e (.inl rfl)
  exact ⟨⟨h.f.step c (fun k hk => by omega), c.blk h.bg (by omega), h.bi.over e rfl, h.m.chg c (fun x hx hs => by have := h.om x hx; omega), c.at' h.d (by omega), o1, o2, o3, h.om⟩, c⟩
end
/-- a round -/
theorem round9 {W w : World} {sb r lo wt n co : Nat} {st : Int} {qo : Option Addr} {ps : List Pn} {g rd ib i dm B : Nat} {ms : List Nat} {q3 q4 : Option Addr} {l3 c3 l4 c4 : Nat} {x : Pn} {rc : Loop}
    (G : G9 W w sb r lo wt st qo n co ps g rd ib i ms dm) (hx : ps[i]? = some x) (hn : n ≤ 4194304) (hB : dm + 1 < B) (hBw : B ≤ w.heap.size) (h1 : SE En.t3 w B 37 q3 l3 c3 x.faults) (h2 : CrsD w B q4 l4 c4 x.crashes) (hl3 : l3 ≤ 4194304) (hl4 : l4 ≤ 4194304)
    (hrc : Laid 65 [(3, (.pointer (some (ad sb)))), (4, (.pointer (some (ad r)))), (5, (.pointer (some (ad wt)))), (8, (.pointer (some (ad g)))), (9, (.pointer (some (ad ib))))] #[26] (rangeA Tryd.f9 0) (rangeB Tryd.f9 0) rc)
    (hr : RecOk w (dm + 1) rc .ready none) :
    YieldTo Tryd.prog (dm + 1) #[.agg #[.slice q3 l3 c3, .slice q4 l4 c4]] w fun b w3 => Chg (fun k => (k = ib ∨ k = dm + 1) ∨ B ≤ k) w w3 ∧
      (b = true → G9 W w3 sb r lo wt st qo n co ps g rd ib (i + 1) ms dm ∧ RecOk w3 (dm + 1) rc .ready none) ∧
      (b = false → ∃ j : Nat, (rd = 0 ∧ (j : Int) = st) ∧ G9 W w3 sb r lo wt st qo n co ps g rd ib j ms dm ∧ RecOk w3 (dm + 1) rc .done (some (.exit 2))) := by
  obtain ⟨rc1, hl1, hrest⟩ := id hr
  refine f9.round0.yields _ _ _ _ _ _ _ _ _ _ _ hrc hl1 hrest.2.2 ?_
  unfold f9.round0.wp
  have o3 := G.o3
  have hin : i < n := by have := get_lt hx; have := G.f.outP.len; omega
  refine boxed rfl rfl fun w1 X1 k1 z1 => ?_
  have G1 := G.step k1 (fun _ h => h.elim)
  have r1 := hr.chg k1 (fun h => h)
  refine r1.begin fun w2 r2 c2 => ?_
  have d2 : Chg (fun k => k = dm + 1) w1 w2.drew := c2.drew
  have r2 := r2.chg (Chg.refl none_ w2).drew (fun h => h)
  generalize w2.drew = v at *
  have G2 := G1.step d2 (fun k hk => by omega)
  have X2 := d2.blk X1 (by omega)
  have S2 := (h1.chgN k1).chg d2 fun g hg hk => by have := (h1.lt hg).2; omega
  have D2 := (h2.chgN k1).chg d2 fun g hk => by omega
  have N2 : Chg (fun k => (k = ib ∨ k = dm + 1) ∨ B ≤ k) w v := (k1.mono fun _ _ h => h.elim).trans (d2.mono fun k _ hk => .inl (.inr hk))
  have O2 := G2.f.outP
  obtain ⟨hs, T2, hl2, H2⟩ := O2.ex
  obtain ⟨e, h, he, hh, hre⟩ := T2.re.ex hin
  have hP := H2 i h x hh hx
  refine ⟨_, (G2.bi.cell 0).trans rfl, _, _, _, (G2.f.wB.cell 0).trans rfl, bcF (by simp; omega) ⟨_, _, _, _, _, _, X2.reads0, _, _, _, (G2.f.wB.cell 0).trans rfl, _, (G2.bi.cell 0).trans rfl, onPtr_eq he ⟨by omega, by omega, h.fq, h.fl, h.fc, h.cq, h.cl, h.cc, hre, Calls.use (same16 S2.re D2.o.re hP.f.re hP.c.re (by omega) (by omega)) ?_⟩⟩⟩
  rintro _ w5 ⟨rfl, k5⟩
  have G5 := G2.step k5 (fun _ h => h.elim)
  have r5 := r2.chg k5 (fun h => h)
  refine ⟨_, rfl, bcF rfl ⟨_, _, _, _, _, _, (k5.blk X2 (fun h => h)).reads0, Calls.use (spoilD (S := fun k => B ≤ k) S2 D2 k5 (by omega) (by omega) (fun g hg _ => hg)) ?_⟩⟩
  rintro _ w7 ⟨rfl, k7⟩
  have G7 := G5.step k7 (fun k hk => by omega)
  have r7 := r5.chg k7 (by omega)
  have N7 : Chg (fun k => (k = ib ∨ k = dm + 1) ∨ B ≤ k) w w7 := (N2.trans (k5.mono fun _ _ h => h.elim)).trans (k7.mono fun _ _ hk => .inr hk)
  refine ⟨rfl, _, (G7.bi.cell 0).trans rfl, G7.bi.canStore (by simp), fun w8 e8 => ?_⟩
  rw [wS (by omega)] at e8
  obtain ⟨G8, c8⟩ := G7.set (j := i + 1) e8
  have r8 := r7.chg c8 (by omega)
  have N8 := N7.trans (c8.mono fun k _ hk => (show (k = ib ∨ k = dm + 1) ∨ B ≤ k from .inl (.inl hk)))
  have norm : endQ (dm + 1) (fun b w3 => Chg (fun k => (k = ib ∨ k = dm + 1) ∨ B ≤ k) w w3 ∧
      (b = true → G9 W w3 sb r lo wt st qo n co ps g rd ib (i + 1) ms dm ∧ RecOk w3 (dm + 1) rc .ready none) ∧
      (b = false → ∃ j : Nat, (rd = 0 ∧ (j : Int) = st) ∧ G9 W w3 sb r lo wt st qo n co ps g rd ib j ms dm ∧ RecOk w3 (dm + 1) rc .done (some (.exit 2)))) .normal w8 :=
    r8.normal fun w9 r9 c9 => ⟨N8.trans (c9.mono fun k _ hk => .inl (.inr hk)), fun _ => ⟨G8.step c9 (fun k hk => by omega), r9⟩, fun h => by (cases h)⟩
  refine onPtr_mk ⟨_, (G8.bg.cell 0).trans rfl, bc (fun h0 => ⟨_, (G8.bi.cell 0).trans rfl, _, (G8.f.sB.cell 0).trans rfl, bc (fun hst => ?_) (fun _ => norm)⟩) (fun _ => norm)⟩
  refine r8.exit fun w9 r9 c9 => ⟨N8.trans (c9.mono fun k _ hk => .inl (.inr hk)), fun h => by (cases h), fun _ => ⟨i + 1, ⟨?_, ?_⟩, G8.step c9 (fun k hk => by omega), r9⟩⟩
  · have := eq_of_beq h0; omega
  · exact eq_of_beq hst
theorem smaller9 {w : World} {q1 q2 : Option Addr} {l1 c1 l2 c2 : Nat} {p : Pn} (st : Int) (h1 : RE En.t3 w q1 l1 p.faults) (h2 : CrsR w q2 l2 p.crashes) (hc1 : l1 ≤ c1) (hc2 : l2 ≤ c2) (hN : (smL p).length ≤ 4194304) :
    Calls Tryd.prog 9 #[.agg #[.slice q1 l1 c1, .slice q2 l2 c2], .int .i64 st] w (Ret fun v w' => v = .bool true ∧ Chg none_ w w') := by
  have hs := sm_len p
  have el1 := h1.len
  have el2 := h2.len
  refine f9.calls _ _ _ _ _ _ _ ?_
  unfold f9.wp
  refine newBox fun w1 A1 k1 z1 => newBox fun w2 B2 k2 z2 => newBox fun w3 R3 k3 z3 => Calls.use (awake12 w3) ?_
  rintro _ w4 ⟨rfl, k4⟩
  have k04 := ((k1.trans k2).trans k3).trans k4
  have A4 := k4.blk (k3.blk (k2.blk A1 (fun x => x)) (fun x => x)) (fun x => x)
  have B4 := k4.blk (k3.blk B2 (fun x => x)) (fun x => x)
  have R4 := k4.blk R3 (fun x => x)
  have z4 := k4.size
  refine ⟨_, rfl, bcF rfl ⟨_, _, _, _, _, _, A4.reads0, Calls.use (smaller27 (h1.chg k04) (h2.chg k04) hc1 hc2 hN) ?_⟩⟩
  rintro _ w6 ⟨qo, n, co, rfl, O6, k6⟩
  have en := O6.len
  have z6 := k6.size
  refine ⟨_, _, _, rfl, boxed rfl rfl fun w8 W8 k8 z8 => ?_⟩
  have z8 : w8.heap.size = w6.heap.size + 1 := z8
  have k48 := k6.trans k8
  have A8 := k48.blk A4 (fun x => x)
  have k08 := k04.trans k48
  refine ⟨_, _, _, _, _, _, A8.reads0, Calls.use (copyD13 (h1.chg k08) (h2.chg k08) (by omega) (by omega)) ?_⟩
  rintro _ w9 ⟨q6, c6, q7, c7, rfl, S9, D9, k9⟩
  have z9 := k9.size
  have HO : Held (fun w0 => OutP w0 w4.heap.size qo n co (smL p)) w4.heap.size w6.heap.size w6 := Held.new (P := fun w0 => OutP w0 w4.heap.size qo n co (smL p)) (O6.lower (by omega)) _ (Nat.le_refl _)
  have F8 : F9 w w8 w1.heap.size w2.heap.size w4.heap.size w6.heap.size st qo n co (smL p) :=
    ⟨k08, k48.blk B4 (fun x => x), k48.blk R4 (fun x => x), W8, HO.step k8 (fun _ h => h.elim), by have := k1.size; omega, by omega, by omega, by omega⟩
  refine ⟨_, _, _, _, _, _, rfl, boxed rfl rfl fun w11 B11 k11 z11 => ?_⟩
  have z11 : w11.heap.size = w9.heap.size + 1 := z11
  have k911 := k11
  have k0 := (k08.trans k9).trans k11
  refine ⟨_, _, _, _, _, _, B11.reads0, Calls.use (smaller28 (S9.chgN k11).re (D9.chgN k11).o.re (by omega) (by omega)) ?_⟩
  rintro _ w12 ⟨q3, c3, q4, c4, rfl, I12, k12⟩
  have B12 := k12.blk B11 (fun x => x)
  refine ⟨_, rfl, _, _, _, _, _, _, B12.reads0, Calls.use (spoilD (S := fun k => w8.heap.size ≤ k ∧ k < w9.heap.size) S9 D9 (k11.trans k12) (by omega) (by omega) (fun g h h' => ⟨h, h'⟩)) ?_⟩
  rintro _ w13 ⟨rfl, k13⟩
  have z12 := k12.size
  have z13 := k13.size
  have F13 := (F8.step ((k9.trans k11).trans k12) (fun _ h => h.elim)).step k13 (fun k hk => by omega)
  have H13 : Held (fun w0 => ItS w0 w11.heap.size w11.heap.size q3 l1 c3 q4 l2 c4 p) w11.heap.size w12.heap.size w13 := (Held.new (P := fun w0 => ItS w0 w11.heap.size w11.heap.size q3 l1 c3 q4 l2 c4 p) I12 _ (Nat.le_refl _)).step k13 (fun k hk => by omega)
  obtain ⟨It, hIt⟩ : ∃ It : World → Prop, It = Held (fun w0 => ItS w0 w11.heap.size w11.heap.size q3 l1 c3 q4 l2 c4 p) w11.heap.size w12.heap.size := ⟨_, rfl⟩
  have itK : ∀ {S : Nat → Prop} {wa wb : World}, Chg S wa wb → (∀ k, S k → w12.heap.size ≤ k) → It wa → It wb := fun c hS h => by
    rw [hIt] at h ⊢
    exact h.step c fun k hk => .inr (hS k hk)
  have itS : ∀ {wa : World}, It wa → ItS wa w11.heap.size w11.heap.size q3 l1 c3 q4 l2 c4 p := fun h => by
    rw [hIt] at h
    obtain ⟨w0, g1, g2, g3⟩ := h
    have hb := g2.b.lt
    have hk : ∀ g, g < w11.heap.size ∨ w12.heap.size ≤ g → w11.heap.size ≤ g → g < w0.heap.size → False := fun g h1 h2 h3 => by omega
    refine ⟨g3.blk g2.b (fun h => hk _ h (Nat.le_refl _) hb), g2.f.chg g3 fun g hg h => hk g h (g2.f.lt hg).2 (g2.f.lt hg).1, ?_⟩
    obtain ⟨hs', u1, u2, u3⟩ := g2.c.ex
    exact ⟨hs', u1.chg g3 fun g hg h => hk g h (u1.lt hg).2 (u1.lt hg).1, u2, fun a x y hx hy => (u3 a x y hx hy).chg g3 fun g hg h => hk g h ((u3 a x y hx hy).2.2.1.lt hg).2 ((u3 a x y hx hy).2.2.1.lt hg).1⟩
  rw [← hIt] at H13
  refine ⟨rfl, boxed rfl rfl fun w15 G15 k15 z15 => ?_⟩
  refine ⟨fun x w' ms => ∃ g rd : Nat, x = some (ad g) ∧ w12.heap.size ≤ g ∧ rd ≤ 2 ∧ Blk w' g 3 #[.int .i64 (rd : Int)] ∧ F9 w w' w1.heap.size w2.heap.size w4.heap.size w6.heap.size st qo n co (smL p) ∧ It w' ∧ Marks w ms w', fun x w' => 2 - cellN x w',
    ⟨w13.heap.size, 0, rfl, z13, by omega, G15, F13.step k15 (fun _ h => h.elim), itK k15 (fun _ h => h.elim) H13, Marks.nil _ _⟩, ?_⟩
  clear G15 k15 z15 F13 H13
  rintro _ ms w16 ⟨g, rd, rfl, hg, hrd, G16, F16, H16, M16⟩
  refine onPtr_mk ⟨_, (G16.cell 0).trans rfl, bc (fun hlt => ?_) (fun hge => ⟨F16.R.canStore (by simp), fun w33 e33 => ?_⟩)⟩
  case refine_2 =>
    have R33 := F16.R.over e33 rfl
    have c33 : Chg (fun k => k = w2.heap.size) w16 w33 := (Chg.refl _ w16).sets' e33 (.inl rfl)
    have M33 := M16.chg c33 (fun x hx hs => M16.not F16.R (by rw [← hs]; exact hx))
    exact ⟨M33.ok, true, ((R33.take (M33.not R33)).cell 0).trans rfl, rfl, M33.take (F16.chg.up c33 (fun g hg => by have := F16.o0; have := F16.o1; omega))⟩
  have hrd2 : rd < 2 := by have := of_decide_eq_true hlt; omega
  refine boxed rfl rfl fun w18 I18 k18 z18 => ?_
  have z18 : w18.heap.size = w16.heap.size + 1 := z18
  refine ⟨fun w' ms' => ms' = w18.heap.size :: ms ∧ ∃ j : Nat, (j = n ∨ rd = 0 ∧ (j : Int) = st) ∧ Blk w' w16.heap.size 3 #[.int .i64 (j : Int)] ∧ Blk w' g 3 #[.int .i64 (rd : Int)] ∧ F9 w w' w1.heap.size w2.heap.size w4.heap.size w6.heap.size st qo n co (smL p) ∧ It w' ∧ Marks w (w18.heap.size :: ms) w', ?_, ?_⟩
  · rintro ms' w19 ⟨rfl, j, hj, I19, G19, F19, H19, M19⟩
    have next : ∀ w40, w40 = w19.alloc (.cells #[.int .i64 0] 3) → canStore w40 (⟨w19.heap.size, 0, none⟩ : Addr) 1 ∧ ∀ w41, w41 = setCells (⟨w19.heap.size, 0, none⟩ : Addr) 0 [.int .i64 (rd : Int)] w40 → ∃ n11 : Int, w41.cell? (⟨w19.heap.size, 0, none⟩ : Addr) = some (.int .i64 n11) ∧ canStore w41 (⟨w19.heap.size, 0, none⟩ : Addr) 1 ∧
        ∀ w42, w42 = setCells (⟨w19.heap.size, 0, none⟩ : Addr) 0 [.int .i64 (IntKind.wrap .i64 (n11 + 1))] w41 → (∃ g rd : Nat, some (⟨w19.heap.size, 0, none⟩ : Addr) = some (ad g) ∧ w12.heap.size ≤ g ∧ rd ≤ 2 ∧ Blk w42 g 3 #[.int .i64 (rd : Int)] ∧ F9 w w42 w1.heap.size w2.heap.size w4.heap.size w6.heap.size st qo n co (smL p) ∧ It w42 ∧ Marks w (w18.heap.size :: ms) w42) ∧
          2 - cellN (some (⟨w19.heap.size, 0, none⟩ : Addr)) w42 < 2 - cellN (some (ad g)) w16 := boxed rfl rfl fun w41 B41 k41 z41 => ⟨_, (B41.cell 0).trans rfl, B41.canStore (by simp), fun w42 e42 => by
      rw [wrapS (x := (rd : Int) + 1) (by omega) (by omega)] at e42
      have B42 : Blk w42 w19.heap.size 3 #[.int .i64 ((rd + 1 : Nat) : Int)] := B41.over e42 rfl
      have k42 : Chg none_ w19 w42 := k41.sets' e42 (.inr (Nat.le_refl _))
      have hNz : w12.heap.size ≤ w19.heap.size := by have := G19.lt; omega
      refine ⟨⟨w19.heap.size, rd + 1, rfl, hNz, by omega, B42, F19.step k42 (fun _ h => h.elim), itK k42 (fun _ h => h.elim) H19, M19.chgN k42⟩, ?_⟩
      rw [cellN_eq B42, cellN_eq G16]; omega⟩
    refine ⟨_, (I19.cell 0).trans rfl, _, _, _, (F19.wB.cell 0).trans rfl, bc (fun hne => ?_) (fun _ => onPtr_mk ⟨_, (G19.cell 0).trans rfl, next⟩)⟩
    have hne : j ≠ n := fun e => by rw [e] at hne; simp at hne
    rcases hj with hj | ⟨hr0, hst⟩
    · exact absurd hj hne
    · refine onPtr_mk ⟨_, (G19.cell 0).trans rfl, bcF (by simp [hr0]) ⟨_, (I19.cell 0).trans rfl, st, (F19.sB.cell 0).trans rfl, bcF (by simp [hst]) (onPtr_mk ⟨_, (G19.cell 0).trans rfl, next⟩)⟩⟩
  · refine ⟨55, #[], #[.pointer (some (ad w11.heap.size))], rfl, rfl, fun rc hrc w33 e33 => ?_⟩
    obtain ⟨z33, d33, r33⟩ := entered e33
    have k1833 : Chg none_ w18 w33 := (Chg.refl none_ w18).entered e33
    have k33 := k18.trans k1833
    have gl := G16.lt
    have hwt := F16.wB.lt
    have M33 := M16.chgN k33
    have G33 : G9 w w33 w1.heap.size w2.heap.size w4.heap.size w6.heap.size st qo n co (smL p) g rd w16.heap.size 0 ms w18.heap.size :=
      ⟨F16.step k33 (fun _ h => h.elim), k33.blk G16 (fun x => x), k1833.blk I18 (fun x => x), M33, d33, by omega, gl, by omega, fun x hx => M16.lt x hx⟩
    have H33 := itK k33 (fun _ h => h.elim) H16
    refine Calls.use (gone55 It (fun _ h => itS h) H33 hN (w18.heap.size + 1)
      (fun i w' => G9 w w' w1.heap.size w2.heap.size w4.heap.size w6.heap.size st qo n co (smL p) g rd w16.heap.size i ms w18.heap.size ∧ RecOk w' (w18.heap.size + 1) rc .ready none ∧ It w')
      (fun w' => ∃ j : Nat, (rd = 0 ∧ (j : Int) = st) ∧ G9 w w' w1.heap.size w2.heap.size w4.heap.size w6.heap.size st qo n co (smL p) g rd w16.heap.size j ms w18.heap.size ∧ RecOk w' (w18.heap.size + 1) rc .done (some (.exit 2)) ∧ It w')
      (fun k => k = w16.heap.size ∨ k = w18.heap.size + 1)
      (fun wa wb c h => itK c (fun k hk => by omega) h) (fun i wa wb ⟨a, b, c⟩ k => ⟨a.step k (fun _ h => h.elim), b.chg k (fun h => h), itK k (fun _ h => h.elim) c⟩)
      ⟨G33, RecOk.new hrc r33, H33⟩ ?_) ?_
    · rintro i B wb q5 l5 c5 q8 l8 c8 p' hp' ⟨Gb, rb, Hb⟩ hB hBw S5 D5 hl5 hl8
      refine (round9 Gb hp' (by omega) (by omega) hBw S5 D5 (by omega) (by omega) hrc rb).mono ?_
      rintro b wc ⟨cc, ht, hf⟩
      have Hc := itK cc (fun k hk => by omega) Hb
      refine ⟨cc, fun h => ?_, fun h => ?_⟩
      · obtain ⟨h1, h2⟩ := ht h
        exact ⟨h1, h2, Hc⟩
      · obtain ⟨j, h1, h2, h3⟩ := hf h
        exact ⟨j, h1, h2, h3, Hc⟩
    · have fin : ∀ {w' wz : World} {j : Nat}, (j = n ∨ rd = 0 ∧ (j : Int) = st) → G9 w w' w1.heap.size w2.heap.size w4.heap.size w6.heap.size st qo n co (smL p) g rd w16.heap.size j ms w18.heap.size → It w' → Chg (fun k => k = w18.heap.size + 1) w' wz →
          (w18.heap.size :: ms = w18.heap.size :: ms ∧ ∃ j : Nat, (j = n ∨ rd = 0 ∧ (j : Int) = st) ∧ Blk wz w16.heap.size 3 #[.int .i64 (j : Int)] ∧ Blk wz g 3 #[.int .i64 (rd : Int)] ∧ F9 w wz w1.heap.size w2.heap.size w4.heap.size w6.heap.size st qo n co (smL p) ∧ It wz ∧ Marks w (w18.heap.size :: ms) wz) := fun {w' wz j} hj G' H' c => by
        have Gz := G'.step c (fun k hk => by omega)
        refine ⟨rfl, j, hj, Gz.bi, Gz.bg, Gz.f, itK c (fun k hk => by omega) H', ?_⟩
        exact (M16.chgN k18).cons Gz.m (by have := k18.size; have := F16.chg.size; omega) Gz.d
      rintro v w34 (⟨G34, r34, H34⟩ | ⟨j, hj, G34, r34, H34⟩)
      · exact ⟨v, rfl, r34.after (by decide) fun wz c => fin (.inl en) G34 H34 c⟩
      · exact ⟨v, rfl, r34.afterExit (by decide) rfl fun wz c => fin (.inr hj) G34 H34 c⟩
end Go.Proofs.YtdlbmmodlkmofaaDoor
