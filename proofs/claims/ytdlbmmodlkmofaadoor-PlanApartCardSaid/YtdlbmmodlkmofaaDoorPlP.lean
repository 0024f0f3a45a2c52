import Derived.Test.YtdlbmmodlkmofaaDoorPlO
set_option maxRecDepth 20000
namespace Go.Proofs.YtdlbmmodlkmofaaDoor
open Go Go.Vc Go.RowKit
/-- what the law holds: its argument, its answer, the number -/
structure F7 (W w : World) (a r nb : Nat) (acs : Array Value) (n : Nat) : Prop where
  chg : Chg none_ W w
  A : Blk w a 49 acs
  R : Blk w r 4 #[.bool false]
  N : Blk w nb 3 #[.int .i64 (n : Int)]
  o0 : W.heap.size ≤ a
  o1 : a < r
  o2 : r < nb
section
variable {W w w' : World} {a r nb : Nat} {acs : Array Value} {n : Nat}
theorem F7.step (h : F7 W w a r nb acs n) {S : Nat → Prop} (c : Chg S w w') (hS : ∀ k, S k → nb < k) : F7 W w' a r nb acs n :=
  have o0 := h.o0; have o1 := h.o1; have o2 := h.o2
  ⟨h.chg.up c (fun g hg => by have := hS g hg; omega), c.blk h.A (fun hs => by have := hS _ hs; omega), c.blk h.R (fun hs => by have := hS _ hs; omega), c.blk h.N (fun hs => by have := hS _ hs; omega), o0, o1, o2⟩
/-- within a range: the boxes of the round's number and of the count; the marks; the block of the deferred calls -/
structure G7 (W w : World) (a r nb : Nat) (acs : Array Value) (n g rd ib i : Nat) (ms : List Nat) (dm : Nat) : Prop where
  f : F7 W w a r nb acs n
  bg : Blk w g 3 #[.int .i64 (rd : Int)]
  bi : Blk w ib 3 #[.int .i64 (i : Int)]
  m : Marks W ms w
  d : w.heap[dm]? = some (.deferred (some []))
  o1 : nb < g
  o2 : g < ib
  o3 : ib < dm
  om : ∀ x ∈ ms, x < ib
variable {g rd ib i dm : Nat} {ms : List Nat}
theorem G7.step (h : G7 W w a r nb acs n g rd ib i ms dm) {S : Nat → Prop} (c : Chg S w w') (hS : ∀ k, S k → dm < k) : G7 W w' a r nb acs n g rd ib i ms dm :=
  have o1 := h.o1; have o2 := h.o2; have o3 := h.o3
  ⟨h.f.step c (fun k hk => by have := hS k hk; omega), c.blk h.bg (fun hs => by have := hS _ hs; omega), c.blk h.bi (fun hs => by have := hS _ hs; omega), h.m.chg c (fun x hx hs => by have := hS _ hs; have := h.om x hx; omega), c.at' h.d (fun hs => by have := hS _ hs; omega), o1, o2, o3, h.om⟩
theorem G7.set (h : G7 W w a r nb acs n g rd ib i ms dm) {j : Nat} (e : w' = setCells (⟨ib, 0, none⟩ : Addr) 0 [.int .i64 (j : Int)] w) : G7 W w' a r nb acs n g rd ib j ms dm ∧ Chg (fun k => k = ib) w w' := by
  have o1 := h.o1; have o2 := h.o2; have o3 := h.o3
  have c : Chg (fun k => k = ib) w w' := (Chg.refl _ w).sets' e (.inl rfl)
  exact ⟨⟨h.f.step c (fun k hk => by omega), c.blk h.bg (by omega), h.bi.over e rfl, h.m.chg c (fun x hx hs => by have := h.om x hx; omega), c.at' h.d (by omega), o1, o2, o3, h.om⟩, c⟩
end
theorem nthV_at {m l i : Nat} {ps ts : List Int} (h : i < (cnt m l).1) : nthV m l (i : Int) ps ts = (outc ps ts m i, 0) := by
  have hc : (cnt m l).2 = 0 := by
    unfold cnt at h ⊢
    split
    · rfl
    · rename_i hh; rw [if_neg hh] at h; simp at h
  unfold nthV
  rw [if_neg (by simp [hc]), if_neg (by omega)]
  simp
/-- a round -/
theorem round7 {W w w0 : World} {a r nb n g rd ib i dm N : Nat} {ms : List Nat} {k st : Int} {q1 q2 q : Option Addr} {l c1 m c2 : Nat} {ps ts : List Int} {rc : Loop}
    (G : G7 W w a r nb #[.slice q1 l c1, .slice q2 m c2, .int .i64 k, .int .i64 st] n g rd ib i ms dm) (h1 : RE En.int W q1 l ps) (h2 : RE En.int W q2 m ts) (hl : l ≤ 17592186043904) (hm : m ≤ 17592186043904) (hn : n = min (cnt m l).1 300) (hi : i < (cnt m l).1) (hin : i ≤ n)
    (hrc : Laid 115 [(1, (.pointer (some (ad a)))), (2, (.pointer (some (ad r)))), (3, (.pointer (some (ad nb)))), (10, (.pointer (some (ad g)))), (11, (.pointer (some (ad ib))))] #[62] (rangeA Tryd.f7 0) (rangeB Tryd.f7 0) rc)
    (hr : RecOk w (dm + 1) rc .ready none) (s : SE En.t3 w w0.heap.size 44 q l l (outc ps ts m i)) (hw0 : dm + 1 < w0.heap.size) (hN : N ≤ ib) :
    YieldTo Tryd.prog (dm + 1) #[.slice q l l] w fun b w3 => Chg (fun k => N ≤ k) w w3 ∧
      (b = true → i < n ∧ G7 W w3 a r nb #[.slice q1 l c1, .slice q2 m c2, .int .i64 k, .int .i64 st] n g rd ib (i + 1) ms dm ∧ RecOk w3 (dm + 1) rc .ready none) ∧
      (b = false → ∃ j : Nat, (j = n ∨ rd = 0 ∧ (j : Int) = st) ∧ G7 W w3 a r nb #[.slice q1 l c1, .slice q2 m c2, .int .i64 k, .int .i64 st] n g rd ib j ms dm ∧ RecOk w3 (dm + 1) rc .done (some (.exit 6))) := by
  obtain ⟨rc1, hl1, hrest⟩ := id hr
  refine f7.round0.yields _ _ _ _ _ _ _ _ hrc hl1 hrest.2.2 ?_
  unfold f7.round0.wp
  have o3 := G.o3
  have hc300 : (cnt m l).1 ≤ 65536 := by
    unfold cnt
    split
    · rename_i hh; exact hh.2
    · simp
  refine hr.begin fun w1 r1 c1' => ?_
  have G1 := G.step c1' (fun k hk => by omega)
  have s1 := s.chg c1' (fun x hx hs => by have := (s.lt hx).2; omega)
  have N1 : Chg (fun k => N ≤ k) w w1 := c1'.mono fun k _ hk => by omega
  refine ⟨_, (G1.bi.cell 0).trans rfl, _, (G1.f.N.cell 0).trans rfl, bc (fun hge => ?_) (fun hlt => ?_)⟩
  · have hge : n ≤ i := by have := of_decide_eq_true hge; omega
    refine ⟨_, (G1.f.N.cell 0).trans rfl, bcF (decide_eq_false (by omega)) (r1.exit fun w2 r2 c2' => ⟨N1.trans (c2'.mono fun k _ hk => by omega), fun h => by (cases h), fun _ => ⟨i, .inl (by omega), G1.step c2' (fun k hk => by omega), r2⟩⟩)⟩
  · have hlt : i < n := by have := of_decide_eq_false hlt; omega
    refine ⟨_, _, _, (G1.f.A.cell 0).trans rfl, _, _, _, (G1.f.A.cell0 1).trans rfl, _, (G1.bi.cell 0).trans rfl, Calls.use (nth24 (h1.chg G1.f.chg) (h2.chg G1.f.chg) (by omega) (by omega)) ?_⟩
    rintro _ w3 ⟨q3, l3, c3, rfl, re3, k3⟩
    rw [nthV_at hi] at re3
    have G3 := G1.step k3 (fun _ h => h.elim)
    have s3 := s1.chgN k3
    have r3 := r1.chg k3 (fun x => x)
    refine ⟨_, _, _, _, rfl, Calls.use (sameFates25 s3.re re3 (by omega)) ?_⟩
    rintro _ w4 ⟨rfl, k4⟩
    have G4 := G3.step k4 (fun _ h => h.elim)
    have s4 := s3.chgN k4
    have r4 := r3.chg k4 (fun x => x)
    have N4 : Chg (fun k => N ≤ k) w w4 := N1.trans ((k3.trans k4).mono fun _ _ h => h.elim)
    refine ⟨_, rfl, bcF rfl ⟨fun x w' => ∃ (j : Nat) (xs : List T3), x = j ∧ j ≤ l ∧ SE En.t3 w' w0.heap.size 44 q l l xs ∧ G7 W w' a r nb #[.slice q1 l c1, .slice q2 m c2, .int .i64 k, .int .i64 st] n g rd ib i ms dm ∧ RecOk w' (dm + 1) rc .busy none ∧ Chg (fun k => N ≤ k) w w', fun x _ => l - x.toNat, ⟨0, _, rfl, Nat.zero_le _, s4, G4, r4, N4⟩, ?_⟩⟩
    rintro x w6 ⟨j, xs, rfl, hj, s6, G6, r6, N6⟩
    refine bc (fun hlt' => ?_) (fun _ => ?_)
    · have hj' : j < l := by have := of_decide_eq_true hlt'; omega
      obtain ⟨p, rfl, hcan⟩ := s6.can hj'
      have hc0 := hcan 0 3 (by decide)
      rw [add_zero'] at hc0
      refine onPtr_mk ⟨by omega, of_decide_eq_true hlt', hc0, fun w7 e7 => ?_⟩
      obtain ⟨s7, c7⟩ := s6.set rfl (i := j) (x' := (-7, 0, 0)) hj' e7
      have h7 : ∀ k, some k = qB (some p) → dm + 1 < k := fun k hk => by have := (s6.lt hk.symm).2; omega
      rw [wrapS (x := (j : Int) + 1) (by omega) (by omega)]
      exact ⟨⟨j + 1, _, rfl, hj', s7, G6.step c7 (fun k hk => by have := h7 k hk; omega), r6.chg c7 (fun hk => by have := h7 _ hk; omega), N6.trans (c7.mono fun k _ hk => by have := h7 k hk; omega)⟩, meas hj'⟩
    · refine ⟨_, (G6.bi.cell 0).trans rfl, G6.bi.canStore (by simp), fun w8 e8 => ?_⟩
      rw [wrapS (x := (i : Int) + 1) (by omega) (by omega)] at e8
      obtain ⟨G8, c8⟩ := G6.set (j := i + 1) e8
      have r8 := r6.chg c8 (by omega)
      have N8 := N6.trans (c8.mono fun k _ hk => (show N ≤ k by omega))
      have norm : endQ (dm + 1) (fun b w3 => Chg (fun k => N ≤ k) w w3 ∧
          (b = true → i < n ∧ G7 W w3 a r nb #[.slice q1 l c1, .slice q2 m c2, .int .i64 k, .int .i64 st] n g rd ib (i + 1) ms dm ∧ RecOk w3 (dm + 1) rc .ready none) ∧
          (b = false → ∃ j : Nat, (j = n ∨ rd = 0 ∧ (j : Int) = st) ∧ G7 W w3 a r nb #[.slice q1 l c1, .slice q2 m c2, .int .i64 k, .int .i64 st] n g rd ib j ms dm ∧ RecOk w3 (dm + 1) rc .done (some (.exit 6)))) .normal w8 :=
        r8.normal fun w9 r9 c9 => ⟨N8.trans (c9.mono fun k _ hk => by omega), fun _ => ⟨hlt, G8.step c9 (fun k hk => by omega), r9⟩, fun h => by (cases h)⟩
      refine onPtr_mk ⟨_, (G8.bg.cell 0).trans rfl, bc (fun h0 => ⟨_, (G8.bi.cell 0).trans rfl, _, (G8.f.A.cell0 3).trans rfl, bc (fun hst => ?_) (fun _ => norm)⟩) (fun _ => norm)⟩
      refine r8.exit fun w9 r9 c9 => ⟨N8.trans (c9.mono fun k _ hk => by omega), fun h => by (cases h), fun _ => ⟨i + 1, .inr ⟨?_, ?_⟩, G8.step c9 (fun k hk => by omega), r9⟩⟩
      · have := eq_of_beq h0; omega
      · exact eq_of_beq hst
theorem cut300 {n : Nat} : (n : Int) > 300 ↔ 300 < n := by omega
theorem append47 {w w1 : World} {base b : Nat} {q : Option Addr} {l c : Nat} {xs : List Int} (s : SE En.int w base 3 (some ⟨b, 0, none⟩) 0 0 []) (k : Chg none_ w w1) (h : RE En.int w1 q l xs) (hl : l ≤ 17592186044416) (hbw : base ≤ w.heap.size) :
    ∃ q' c' w2, (Builtin.append_ #[47, 47] 47 #[.slice (some ⟨b, 0, none⟩) 0 0, .slice q l c]).run Tryd.prog w1 = .ok (.slice q' l c') w2 ∧ SE En.int w2 base 3 q' l c' xs ∧ Chg (fun g => g = b) w1 w2 ∧ (qB q' = some b ∨ qB q' = some w1.heap.size) := by
  obtain ⟨q', c', w2, hr, s2, k2, hq, _⟩ := (s.chgN k).append (t := 47) (ty := 47) (m := l) (c2 := c) elemInt h (by simp only [maxLen]; omega) (by omega) (Nat.le_trans hbw k.size)
  simp only [Nat.zero_add, List.nil_append] at hr s2
  have : qB (some (⟨b, 0, none⟩ : Addr)) = some b := rfl
  rw [this] at hq k2
  exact ⟨q', c', w2, hr, s2, k2.mono (fun g _ hg => by simpa using hg), hq⟩
theorem empty47 {w w1 : World} (e : w1 = w.alloc (.cells #[] 3)) : SE En.int w1 w.heap.size 3 (some ⟨w.heap.size, 0, none⟩) 0 0 [] :=
  SE.lit (new_blk e) (Nat.le_refl _) (fun n v hv => by simp [En.flat] at hv) rfl (Nat.le_refl _) (Nat.zero_le _) (by simp)
theorem outcomes7 {w : World} {q1 q2 : Option Addr} {l c1 m c2 : Nat} (k st : Int) {ps ts : List Int} (h1 : RE En.int w q1 l ps) (h2 : RE En.int w q2 m ts) (hl : l ≤ 17592186043904) (hm : m ≤ 17592186043904) :
    Calls Tryd.prog 7 #[.agg #[.slice q1 l c1, .slice q2 m c2, .int .i64 k, .int .i64 st]] w (Ret fun v w' => v = .bool true ∧ Chg none_ w w') := by
  refine f7.calls _ _ _ _ _ _ _ _ ?_
  unfold f7.wp
  refine newBox fun w1 A1 k1 z1 => newBox fun w2 R2 k2 z2 => Calls.use (awake12 w2) ?_
  rintro _ w3 ⟨rfl, k3⟩
  have k03 := (k1.trans k2).trans k3
  have A3 := k3.blk (k2.blk A1 (fun x => x)) (fun x => x)
  have R3 := k3.blk R2 (fun x => x)
  have z3 := k3.size
  refine ⟨_, rfl, bcF rfl ⟨_, _, _, (A3.cell 0).trans rfl, _, _, _, (A3.cell0 1).trans rfl, Calls.use (count22 w3 (by omega) (by omega)) ?_⟩⟩
  rintro _ _ ⟨rfl, rfl⟩
  refine ⟨_, _, rfl, boxed rfl rfl fun w7 N7 k7 z7 => ?_⟩
  have F7' : F7 w w7 w.heap.size w1.heap.size w3.heap.size #[.slice q1 l c1, .slice q2 m c2, .int .i64 k, .int .i64 st] (cnt m l).1 :=
    ⟨k03.trans k7, k7.blk A3 (fun x => x), k7.blk R3 (fun x => x), N7, Nat.le_refl _, by omega, by omega⟩
  obtain ⟨n, hn⟩ : ∃ n, n = min (cnt m l).1 300 := ⟨_, rfl⟩
  refine ⟨fun w' ms => ms = [] ∧ F7 w w' w.heap.size w1.heap.size w3.heap.size #[.slice q1 l c1, .slice q2 m c2, .int .i64 k, .int .i64 st] n ∧ w3.heap.size < w'.heap.size, ?_, _, (N7.cell 0).trans rfl, bc (fun hgt => ⟨N7.canStore (by simp), fun w9 e9 => ?_⟩) (fun hle => ?_)⟩
  case refine_2 =>
    have h300 : 300 < (cnt m l).1 := cut300.1 (of_decide_eq_true hgt)
    have c9 : Chg (fun k => k = w3.heap.size) w7 w9 := (Chg.refl _ w7).sets' e9 (.inl rfl)
    refine ⟨rfl, ⟨F7'.chg.up c9 (fun g hg => by have := k03.size; omega), c9.blk F7'.A (by omega), c9.blk F7'.R (by omega), ?_, Nat.le_refl _, by omega, by omega⟩, by have := c9.size; omega⟩
    have : n = 300 := by omega
    rw [this]
    exact N7.over e9 rfl
  case refine_3 =>
    have h300 : ¬ 300 < (cnt m l).1 := fun h => of_decide_eq_false hle (cut300.2 h)
    have : n = (cnt m l).1 := by omega
    rw [this]
    exact ⟨rfl, F7', by omega⟩
  clear F7' k7 N7 z7 R3 A3 k3 k03 R2 k2 A1 k1
  rintro ms w8 ⟨rfl, F8, z8⟩
  obtain ⟨acs, hacs⟩ : ∃ acs : Array Value, acs = #[.slice q1 l c1, .slice q2 m c2, .int .i64 k, .int .i64 st] := ⟨_, rfl⟩
  refine ⟨fun q3 l3 c3 q4 l4 c4 w' ms => ms = [] ∧ l3 = l ∧ l4 = m ∧ SE En.int w' w8.heap.size 3 q3 l c3 ps ∧ SE En.int w' w8.heap.size 3 q4 m c4 ts ∧ qB q3 ≠ qB q4 ∧ Chg none_ w8 w', ?_, ?_⟩
  case refine_2 =>
    have F8' := F8.step (S := none_) (Chg.refl none_ w8).drew (fun _ h => h.elim)
    have e8 : w8.drew.heap.size = w8.heap.size := rfl
    have d8 : Chg none_ w8 w8.drew := (Chg.refl none_ w8).drew
    generalize w8.drew = wd at *
    have r1 := h1.chg F8'.chg
    have r2 := h2.chg F8'.chg
    have ka : ∀ {x}, x < wd.heap.size → (fun p : Addr => p.block < wd.heap.size) (⟨x, 0, none⟩ : Addr) := fun h => h
    refine ⟨fun p => p.block < wd.heap.size, _, _, _, F8'.A.lt, (F8'.A.cell 0).trans rfl, _, _, _, ?_, (F8'.A.cell0 1).trans rfl, fun w11 e11 => ?_, fun w18 e18 => ?_⟩
    · show (Addr.add _ _).block < _
      rw [add_block]; exact F8'.A.lt
    · have k11 := (Chg.refl none_ wd).new' e11
      have z11 := new_size e11
      have s11 := empty47 e11
      refine ⟨k11.keeps, ?_, fun w15 e15 => ?_⟩
      · obtain ⟨q7, c7, w12, hr, s12, c12, hq⟩ := append47 (c := c1) s11 (Chg.refl none_ w11) (r1.chg k11) (by omega) k11.size
        have k12 : Chg none_ wd w12 := k11.up c12 (fun g hg => by omega)
        refine ⟨q7, l, c7, w12, hr, k12.keeps, fun w13 e13 => ?_⟩
        have k13 := k12.new' e13
        have k1213 := (Chg.refl none_ w12).new' e13
        refine ⟨k13.keeps, ?_⟩
        obtain ⟨q8, c8, w14, hr', s14, c14, hq'⟩ := append47 (c := c2) (empty47 e13) (Chg.refl none_ w13) (r2.chg k13) (by omega) k1213.size
        have k14 : Chg none_ wd w14 := k13.up c14 (fun g hg => by have := k12.size; omega)
        have s12' := (s12.chgN k1213).chg c14 (fun g hg => by have := (s12.lt hg).1; omega)
        refine ⟨q8, m, c8, w14, hr', rfl, rfl, rfl, s12'.lower (by omega), s14.lower (by have := k12.size; omega), fun h => ?_, d8.trans k14⟩
        rcases hq' with hq' | hq'
        · rw [hq'] at h; have := (s12.lt h).1; omega
        · rw [hq'] at h; have := (s12.lt h).1; have := k1213.size; omega
      · have k15 := k11.new' e15
        have k1115 := (Chg.refl none_ w11).new' e15
        refine ⟨k15.keeps, ?_⟩
        obtain ⟨q9, c9, w16, hr, s16, c16, hq⟩ := append47 (c := c1) s11 k1115 (r1.chg k15) (by omega) k11.size
        have k16 : Chg none_ wd w16 := k15.up c16 (fun g hg => by omega)
        refine ⟨q9, l, c9, w16, hr, k16.keeps, ?_⟩
        have s15 := empty47 e15
        have s16' := s15.chg c16 (fun g hg => by simp [qB] at hg; omega)
        have z15 := new_size e15
        have z16 := c16.size
        obtain ⟨q10, c10, w17, hr', s17, c17, hq'⟩ := append47 (c := c2) s16' (Chg.refl none_ w16) (r2.chg k16) (by omega) (by omega)
        have k17 : Chg none_ wd w17 := k16.up c17 (fun g hg => by omega)
        have ne9 : ∀ g, qB q9 = some g → g ≠ w11.heap.size := fun g hg => by
          rcases hq with hq | hq
          · rw [hq] at hg; cases hg; omega
          · rw [hq] at hg; cases hg; omega
        have s16'' := s16.chg c17 (fun g hg => ne9 g hg)
        refine ⟨q10, m, c10, w17, hr', rfl, rfl, rfl, s16''.lower (by omega), s17.lower (by omega), fun h => ?_, d8.trans k17⟩
        rcases hq' with hq' | hq'
        · rw [hq'] at h; exact ne9 _ h rfl
        · rw [hq'] at h; have := (s16.lt h).1; omega
    · have k18 := (Chg.refl none_ wd).new' e18
      have z18 := new_size e18
      refine ⟨k18.keeps, fun w19 e19 => ?_⟩
      have k19 := k18.new' e19
      have k1819 := (Chg.refl none_ w18).new' e19
      have z19 := new_size e19
      refine ⟨k19.keeps, ?_⟩
      obtain ⟨q11, c11, w20, hr, s20, c20, hq⟩ := append47 (c := c1) (empty47 e19) (Chg.refl none_ w19) (r1.chg k19) (by omega) k1819.size
      have k20 : Chg none_ wd w20 := k19.up c20 (fun g hg => by omega)
      have z20 := c20.size
      refine ⟨q11, l, c11, w20, hr, k20.keeps, ?_⟩
      have s18 := ((empty47 e18).chgN k1819).chg c20 (fun g hg => by simp [qB] at hg; omega)
      obtain ⟨q12, c12, w21, hr', s21, c21, hq'⟩ := append47 (c := c2) s18 (Chg.refl none_ w20) (r2.chg k20) (by omega) (by omega)
      have k21 : Chg none_ wd w21 := k20.up c21 (fun g hg => by omega)
      have ne11 : ∀ g, qB q11 = some g → g ≠ wd.heap.size := fun g hg => by
        rcases hq with hq | hq
        · rw [hq] at hg; cases hg; omega
        · rw [hq] at hg; cases hg; omega
      have s20' := s20.chg c21 (fun g hg => ne11 g hg)
      refine ⟨q12, m, c12, w21, hr', rfl, rfl, rfl, s20'.lower (by omega), s21.lower (by omega), fun h => ?_, d8.trans k21⟩
      rcases hq' with hq' | hq'
      · rw [hq'] at h; exact ne11 _ h rfl
      · rw [hq'] at h; have := (s20.lt h).1; omega
  rintro q3 l3 c3 q4 l4 c4 ms w10 ⟨rfl, rfl, rfl, s3, s4, hd, k10⟩
  have F10 := F8.step k10 (fun _ h => h.elim)
  refine Calls.use (outcomes26 s3.re s4.re (by omega) (by omega)) ?_
  rintro _ w22 ⟨b5, b2, b3, p1, e1, p2, e2, rfl, O, k22, o5, o2, o3, op, ot⟩
  have F22 := F10.step k22 (fun _ h => h.elim)
  have z10 := k10.size
  have N0 := O.n.lt
  have b2l := O.p.lt
  have b3l := O.t.lt
  have pl := fun g hg => (O.sp.lt (g := g) hg).1
  have tl := fun g hg => (O.st.lt (g := g) hg).1
  obtain ⟨N, hN⟩ : ∃ N, N = w22.heap.size := ⟨_, rfl⟩
  rw [← hN] at N0 b2l b3l pl tl
  -- the copies are written over: what the iterator holds stays
  have keep : ∀ {S : Nat → Prop} {wa wb : World}, Chg S wa wb → (∀ g, S g → some g = qB q3 ∨ some g = qB q4) → OutS wa b5 b2 b3 p1 e1 p2 e2 l3 l4 ps ts → OutS wb b5 b2 b3 p1 e1 p2 e2 l3 l4 ps ts := fun c hS O => by
    have hlt : ∀ g, (some g = qB q3 ∨ some g = qB q4) → g < w10.heap.size := fun g hg => by
      rcases hg with hg | hg
      · exact (s3.lt hg.symm).1
      · exact (s4.lt hg.symm).1
    exact ⟨c.blk O.n (fun hs => by have := hlt _ (hS _ hs); omega), c.blk O.p (fun hs => by have := hlt _ (hS _ hs); omega), c.blk O.t (fun hs => by have := hlt _ (hS _ hs); omega),
      O.sp.chg c (fun g hg hs => by have := hlt _ (hS _ hs); have := op g hg; omega), O.st.chg c (fun g hg hs => by have := hlt _ (hS _ hs); have := ot g hg; omega)⟩
  refine ⟨_, rfl, fun x w' => ∃ (i : Nat) (xs ys : List Int), x = i ∧ i ≤ l3 ∧ SE En.int w' w8.heap.size 3 q3 l3 c3 xs ∧ SE En.int w' w8.heap.size 3 q4 l4 c4 ys ∧ OutS w' b5 b2 b3 p1 e1 p2 e2 l3 l4 ps ts ∧ F7 w w' w.heap.size w1.heap.size w3.heap.size acs n ∧ N ≤ w'.heap.size, fun x _ => l3 - x.toNat,
    ⟨0, ps, ts, rfl, Nat.zero_le _, s3.chgN k22, s4.chgN k22, O, by rw [hacs]; exact F22, by omega⟩, ?_⟩
  rintro x w23 ⟨i, xs, ys, rfl, hi, t3, t4, O23, F23, z23⟩
  refine bc (fun hlt => ?_) (fun _ => ?_)
  · have hi' : i < l3 := by have := of_decide_eq_true hlt; omega
    obtain ⟨p, rfl, hcan⟩ := t3.can hi'
    have hc0 := hcan 0 1 (by decide)
    rw [add_zero'] at hc0
    refine onPtr_mk ⟨by omega, of_decide_eq_true hlt, hc0, fun w24 e24 => ?_⟩
    obtain ⟨t3', c24⟩ := t3.set rfl (i := i) (x' := -5) hi' e24
    rw [wrapS (x := (i : Int) + 1) (by omega) (by omega)]
    exact ⟨⟨i + 1, _, ys, rfl, hi', t3', t4.chg c24 (fun g hg hs => hd (hs.symm.trans hg.symm)), keep c24 (fun g hg => .inl hg) O23, F23.step c24 (fun g hg => by have := (t3.lt hg.symm).2; omega), by have := c24.size; omega⟩, meas hi'⟩
  refine ⟨fun x w' => ∃ (i : Nat) (ys : List Int), x = i ∧ i ≤ l4 ∧ SE En.int w' w8.heap.size 3 q4 l4 c4 ys ∧ OutS w' b5 b2 b3 p1 e1 p2 e2 l3 l4 ps ts ∧ F7 w w' w.heap.size w1.heap.size w3.heap.size acs n ∧ N ≤ w'.heap.size, fun x _ => l4 - x.toNat,
    ⟨0, ys, rfl, Nat.zero_le _, t4, O23, F23, z23⟩, ?_⟩
  clear t3 t4 hi O23 F23 z23
  rintro x w25 ⟨i, ys, rfl, hi, t4, O25, F25, z25⟩
  refine bc (fun hlt => ?_) (fun _ => ?_)
  · have hi' : i < l4 := by have := of_decide_eq_true hlt; omega
    obtain ⟨p, rfl, hcan⟩ := t4.can hi'
    have hc0 := hcan 0 1 (by decide)
    rw [add_zero'] at hc0
    refine onPtr_mk ⟨by omega, of_decide_eq_true hlt, hc0, fun w24 e24 => ?_⟩
    obtain ⟨t4', c24⟩ := t4.set rfl (i := i) (x' := -6) hi' e24
    rw [wrapS (x := (i : Int) + 1) (by omega) (by omega)]
    exact ⟨⟨i + 1, _, rfl, hi', t4', keep c24 (fun g hg => .inr hg) O25, F25.step c24 (fun g hg => by have := (t4.lt hg.symm).2; omega), by have := c24.size; omega⟩, meas hi'⟩
  clear t4 hi keep
  have ofN : ∀ {wa wb : World} {S : Nat → Prop}, Chg S wa wb → (∀ g, S g → N ≤ g) → OutS wa b5 b2 b3 p1 e1 p2 e2 l3 l4 ps ts → OutS wb b5 b2 b3 p1 e1 p2 e2 l3 l4 ps ts := fun c hS O => O.chg c hS N0 b2l b3l pl tl
  have hn3 : w3.heap.size < N := by have := F22.N.lt; omega
  refine boxed rfl rfl fun w28 G28 k28 z28 => ?_
  refine ⟨fun p w' ms => ∃ g rd : Nat, p = some (ad g) ∧ N ≤ g ∧ rd ≤ 2 ∧ Blk w' g 3 #[.int .i64 (rd : Int)] ∧ F7 w w' w.heap.size w1.heap.size w3.heap.size acs n ∧ OutS w' b5 b2 b3 p1 e1 p2 e2 l3 l4 ps ts ∧ Marks w ms w', fun p w' => 2 - cellN p w',
    ⟨w25.heap.size, 0, rfl, z25, by omega, G28, F25.step k28 (fun _ h => h.elim), ofN k28 (fun _ h => h.elim) O25, Marks.nil _ _⟩, ?_⟩
  clear G28 k28 z28 F25 O25 z25
  rintro _ ms w29 ⟨g, rd, rfl, hg, hrd, G29, F29, O29, M29⟩
  refine onPtr_mk ⟨_, (G29.cell 0).trans rfl, bc (fun hlt => ?_) (fun hge => ⟨F29.R.canStore (by simp), fun w46 e46 => ?_⟩)⟩
  case refine_2 =>
    have R46 := F29.R.over e46 rfl
    have c46 : Chg (fun k => k = w1.heap.size) w29 w46 := (Chg.refl _ w29).sets' e46 (.inl rfl)
    have M46 := M29.chg c46 (fun x hx hs => M29.not F29.R (by rw [← hs]; exact hx))
    exact ⟨M46.ok, true, ((R46.take (M46.not R46)).cell 0).trans rfl, rfl, M46.take (F29.chg.up c46 (fun g hg => by have := F29.o0; have := F29.o1; omega))⟩
  have hrd2 : rd < 2 := by have := of_decide_eq_true hlt; omega
  refine boxed rfl rfl fun w31 I31 k31 z31 => ?_
  refine ⟨fun w' ms' => ms' = w31.heap.size :: ms ∧ ∃ j : Nat, (j = n ∨ rd = 0 ∧ (j : Int) = st) ∧ Blk w' w29.heap.size 3 #[.int .i64 (j : Int)] ∧ Blk w' g 3 #[.int .i64 (rd : Int)] ∧ F7 w w' w.heap.size w1.heap.size w3.heap.size acs n ∧ OutS w' b5 b2 b3 p1 e1 p2 e2 l3 l4 ps ts ∧ Marks w (w31.heap.size :: ms) w', ?_, ?_⟩
  · rintro ms' w32 ⟨rfl, j, hj, I32, G32, F32, O32, M32⟩
    have next : ∀ w40, w40 = w32.alloc (.cells #[.int .i64 0] 3) → canStore w40 (⟨w32.heap.size, 0, none⟩ : Addr) 1 ∧ ∀ w41, w41 = setCells (⟨w32.heap.size, 0, none⟩ : Addr) 0 [.int .i64 (rd : Int)] w40 → ∃ n11 : Int, w41.cell? (⟨w32.heap.size, 0, none⟩ : Addr) = some (.int .i64 n11) ∧ canStore w41 (⟨w32.heap.size, 0, none⟩ : Addr) 1 ∧
        ∀ w42, w42 = setCells (⟨w32.heap.size, 0, none⟩ : Addr) 0 [.int .i64 (IntKind.wrap .i64 (n11 + 1))] w41 → (∃ g rd : Nat, some (⟨w32.heap.size, 0, none⟩ : Addr) = some (ad g) ∧ N ≤ g ∧ rd ≤ 2 ∧ Blk w42 g 3 #[.int .i64 (rd : Int)] ∧ F7 w w42 w.heap.size w1.heap.size w3.heap.size acs n ∧ OutS w42 b5 b2 b3 p1 e1 p2 e2 l3 l4 ps ts ∧ Marks w (w31.heap.size :: ms) w42) ∧
          2 - cellN (some (⟨w32.heap.size, 0, none⟩ : Addr)) w42 < 2 - cellN (some (ad g)) w29 := boxed rfl rfl fun w41 B41 k41 z41 => ⟨_, (B41.cell 0).trans rfl, B41.canStore (by simp), fun w42 e42 => by
      rw [wrapS (x := (rd : Int) + 1) (by omega) (by omega)] at e42
      have B42 : Blk w42 w32.heap.size 3 #[.int .i64 ((rd + 1 : Nat) : Int)] := B41.over e42 rfl
      have k42 : Chg none_ w32 w42 := k41.sets' e42 (.inr (Nat.le_refl _))
      have hNz : N ≤ w32.heap.size := by have := G32.lt; omega
      refine ⟨⟨w32.heap.size, rd + 1, rfl, hNz, by omega, B42, F32.step k42 (fun _ h => h.elim), ofN k42 (fun _ h => h.elim) O32, M32.chgN k42⟩, ?_⟩
      rw [cellN_eq B42, cellN_eq G29]; omega⟩
    refine ⟨_, (I32.cell 0).trans rfl, _, (F32.N.cell 0).trans rfl, bc (fun hne => ?_) (fun _ => onPtr_mk ⟨_, (G32.cell 0).trans rfl, next⟩)⟩
    have hne : j ≠ n := fun e => by rw [e] at hne; simp at hne
    rcases hj with hj | ⟨hr0, hst⟩
    · exact absurd hj hne
    · refine onPtr_mk ⟨_, (G32.cell 0).trans rfl, bcF (by simp [hr0]) ⟨_, (I32.cell 0).trans rfl, st, ?_, bcF (by simp [hst]) (onPtr_mk ⟨_, (G32.cell 0).trans rfl, next⟩)⟩⟩
      have := F32.A.cell0 3
      rw [this, hacs]; rfl
  · refine ⟨53, #[], #[.pointer (some (ad b5)), .pointer (some (ad b2)), .pointer (some (ad b3))], rfl, rfl, fun rc hrc w33 e33 => ?_⟩
    obtain ⟨z33, d33, r33⟩ := entered e33
    have k3133 : Chg none_ w31 w33 := (Chg.refl none_ w31).entered e33
    have k33 := k31.trans k3133
    have gl := G29.lt
    have hz31 := k31.size
    have M33 := M29.chgN k33
    have G33 : G7 w w33 w.heap.size w1.heap.size w3.heap.size acs n g rd w29.heap.size 0 ms w31.heap.size :=
      ⟨F29.step k33 (fun _ h => h.elim), k33.blk G29 (fun x => x), k3133.blk I31 (fun x => x), M33, d33, by omega, gl, by omega, fun x hx => M29.lt x hx⟩
    have O33 := ofN k33 (fun _ h => h.elim) O29
    refine Calls.use (gone53 O33 N0 b2l b3l pl tl (by omega) (by omega) (w31.heap.size + 1)
      (fun i w' => i ≤ n ∧ G7 w w' w.heap.size w1.heap.size w3.heap.size acs n g rd w29.heap.size i ms w31.heap.size ∧ RecOk w' (w31.heap.size + 1) rc .ready none ∧ OutS w' b5 b2 b3 p1 e1 p2 e2 l3 l4 ps ts ∧ w33.heap.size ≤ w'.heap.size)
      (fun w' => ∃ j : Nat, (j = n ∨ rd = 0 ∧ (j : Int) = st) ∧ G7 w w' w.heap.size w1.heap.size w3.heap.size acs n g rd w29.heap.size j ms w31.heap.size ∧ RecOk w' (w31.heap.size + 1) rc .done (some (.exit 6)) ∧ OutS w' b5 b2 b3 p1 e1 p2 e2 l3 l4 ps ts)
      ⟨Nat.zero_le _, G33, RecOk.new hrc r33, O33, Nat.le_refl _⟩ ?_) ?_
    · rintro i wa wb q hi _ ⟨hin, Ga, ra, Oa, za⟩ kab sq
      have Gb := Ga.step kab (fun _ h => h.elim)
      have rb := ra.chg kab (fun x => x)
      have Ob := ofN kab (fun _ h => h.elim) Oa
      rw [hacs] at Gb
      refine (round7 (N := N) Gb h1 h2 hl hm hn hi hin hrc rb sq (by omega) (by omega)).mono ?_
      rintro b wc ⟨cc, ht, hf⟩
      have Oc := ofN cc (fun _ h => h) Ob
      refine ⟨cc, fun h => ?_, fun h => ?_⟩
      · obtain ⟨h1, h2, h3⟩ := ht h
        exact ⟨h1, by rw [hacs]; exact h2, h3, Oc, by have := kab.size; have := cc.size; omega⟩
      · obtain ⟨j, h1, h2, h3⟩ := hf h
        exact ⟨j, h1, by rw [hacs]; exact h2, h3, Oc⟩
    · have fin : ∀ {w' wz : World} {j : Nat}, (j = n ∨ rd = 0 ∧ (j : Int) = st) → G7 w w' w.heap.size w1.heap.size w3.heap.size acs n g rd w29.heap.size j ms w31.heap.size → OutS w' b5 b2 b3 p1 e1 p2 e2 l3 l4 ps ts → Chg (fun k => k = w31.heap.size + 1) w' wz →
          (w31.heap.size :: ms = w31.heap.size :: ms ∧ ∃ j : Nat, (j = n ∨ rd = 0 ∧ (j : Int) = st) ∧ Blk wz w29.heap.size 3 #[.int .i64 (j : Int)] ∧ Blk wz g 3 #[.int .i64 (rd : Int)] ∧ F7 w wz w.heap.size w1.heap.size w3.heap.size acs n ∧ OutS wz b5 b2 b3 p1 e1 p2 e2 l3 l4 ps ts ∧ Marks w (w31.heap.size :: ms) wz) := fun {w' wz j} hj G' O' c => by
        have Gz := G'.step c (fun k hk => by omega)
        refine ⟨rfl, j, hj, Gz.bi, Gz.bg, Gz.f, ofN c (fun k hk => by omega) O', ?_⟩
        exact (M29.chgN k31).cons Gz.m (by have := k31.size; have := F29.chg.size; omega) Gz.d
      rintro v w34 (⟨hin, G34, r34, O34, _⟩ | ⟨j, hj, G34, r34, O34⟩)
      · exact ⟨v, rfl, r34.after (by decide) fun wz c => fin (.inl (by omega)) G34 O34 c⟩
      · exact ⟨v, rfl, r34.afterExit (by decide) rfl fun wz c => fin hj G34 O34 c⟩
end Go.Proofs.YtdlbmmodlkmofaaDoor
