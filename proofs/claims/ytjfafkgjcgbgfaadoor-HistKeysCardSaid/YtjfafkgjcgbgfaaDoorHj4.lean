import Derived.Test.YtjfafkgjcgbgfaaDoorHj3
set_option maxRecDepth 20000
namespace Go.Proofs.YtjfafkgjcgbgfaaDoor
open Go Go.Vc Go.RowKit
theorem keysLaw9 {w : World} {q : Option Addr} {l c : Nat} {ms : List Mv} (hS : w.ShapedOpen Tryd.prog) (H : RE En.mv w q l ms) (hl : l * 80 ≤ 140737488351232) (hs : ∀ m ∈ ms, m.key.size ≤ maxLen) (s : ByteArray) (st : Int) :
    Calls Tryd.prog 9 #[.slice q l c, .string s, .int .i64 st] w (Ret fun v w' => v = .bool true ∧ Chg none_ w w') := by
  have hSt : ∀ {w' : World}, Chg none_ w w' → w'.ShapedOpen Tryd.prog := fun h => World.ShapedOpen.keptBut hS (h.below.frame (fun _ => False)) (fun _ h => h.elim)
  have hlen := H.len
  refine f9.calls _ _ _ _ _ ?_
  unfold f9.wp
  refine newBox fun w1 L1 k1 z1 => newBox fun w2 S2 k2 z2 => newBox fun w3 R3 k3 z3 => ?_
  have k03 := k1.trans (k2.trans k3)
  have L3 := (k2.trans k3).blk L1 (fun x => x)
  have S3 := k3.blk S2 (fun x => x)
  refine Calls.use (awake10 (hSt k03)) ?_
  rintro _ w4 ⟨rfl, k4⟩
  have L4 := k4.blk L3 (fun x => x)
  refine ⟨true, rfl, bcF rfl ⟨q, l, c, (L4.cell 0).trans rfl, Calls.use (copied11 (H.chg (k03.trans k4)) hl) ?_⟩⟩
  rintro _ w6 ⟨q2, c2, rfl, S6, k6⟩
  have k36 := k4.trans k6
  have L6 := k36.blk L3 (fun x => x)
  have hq2 : q2 = none → l = 0 := fun e => by
    rcases S6.ex with ⟨_, h0, _⟩ | ⟨_, _, _, h1, _⟩
    · exact h0
    · rw [e] at h1; cases h1
  refine ⟨q2, l, c2, rfl, fun p => p.block < w6.drew.heap.size, q, l, c, L6.lt, ((L6.drew).cell 0).trans rfl, Calls.use (keys23 (S6.drew.re) hl hs) ?_⟩
  rintro _ w7 ⟨q4, c4, rfl, S7, k7⟩
  have k37 := k36.drew.trans k7
  have k07 := k03.trans k37
  refine ⟨q4, _, c4, rfl, k7.keeps, Calls.use (keys24 (H.chg k07) hl) ?_⟩
  rintro _ w8 ⟨q5, c5, rfl, S8, k8⟩
  have k38 := k37.trans k8
  have hKl := refK_len ms ms.length (Nat.le_refl _)
  rw [List.take_length] at hKl
  refine ⟨q5, _, c5, rfl, bcF (by simp) ⟨fun x w' => ∃ n : Nat, x = (n : Int) ∧ n ≤ (refK ms).length ∧ Chg none_ w8 w', fun x _ => (refK ms).length - x.toNat, ⟨0, rfl, by omega, Chg.refl _ _⟩, ?_⟩⟩
  rintro _ w10 ⟨n, rfl, hn, k10⟩
  refine bc (fun g => ?_) fun g => ?_
  · have g : n < (refK ms).length := by simp at g; omega
    obtain ⟨a, y, ha, hy, hr⟩ := (S7.chgN (k8.trans k10.drew)).re.ex g
    obtain ⟨a', y', ha', hy', hr'⟩ := (S8.chgN k10.drew).re.ex g
    rw [hy] at hy'; cases hy'
    subst ha; subst ha'
    rw [wrapN (n := n) (by omega)]
    exact onPtr_mk ⟨by omega, by omega, y, reads_one' hr, onPtr_mk ⟨by omega, by omega, y, reads_one' hr', bcF (by simp) ⟨⟨n + 1, rfl, by omega, k10.drew⟩, by simp only [Int.toNat_natCast]; omega⟩⟩⟩
  intro w12 e12
  have k812 := k10.new' e12
  obtain ⟨q6, c6, w13, hr13, S13, k13, _⟩ := (S8.chgN k812).append1 (t := 69) (ty := 69) (x := s) elemStr (new_blk e12) (by simp only [maxLen]; omega) (by omega) (k8.trans k812).size
  have z7 := k37.size
  have z612 : w6.heap.size ≤ w7.heap.size := by have := (Chg.refl none_ w6).drew.trans k7; exact this.size
  have up13 : ∀ {a : World}, Chg none_ a w12 → a.heap.size ≤ w7.heap.size → Chg none_ a w13 := fun k h => k.up k13 fun g hg => by have := (S8.lt hg.symm).2; omega
  have k313 := up13 (k38.trans k812) z7
  have k013 : Chg none_ w w13 := k03.trans k313
  have L13 := k313.blk L3 (fun x => x)
  have S13' := k313.blk S3 (fun x => x)
  have R13 := k313.blk R3 (fun x => x)
  have hL := L13.lt
  have hR := R13.lt
  have In13 := (S6.chgN ((Chg.refl none_ w6).drew.trans (k7.trans (k8.trans k812)))).chg k13 fun g hg e => by
    have := (S6.lt hg).1
    have := (S8.lt e.symm).2
    omega
  generalize hXs : (refK ms).map bt ++ [s] = xs at *
  have hxl := S13.len
  refine ⟨q6, _, c6, w13, hr13, fun x w14 mk => ∃ n : Nat, x = (n : Int) ∧ n ≤ (refK ms).length + 1 ∧ Chg none_ w13 w14 ∧ Marks w13 mk w14, fun x _ => (refK ms).length + 1 - x.toNat, ⟨0, rfl, by omega, Chg.refl _ _, Marks.nil _ _⟩, ?_⟩
  clear S7 S8 k10 e12 k812 k13 up13 k38 k37 k36 k07 L6 L4 L3 L1 S3 S2 R3 k7 k8 k6 k4 hr13 g
  rintro _ mk w14 ⟨n, rfl, hn, k14, M14⟩
  have k014 := k013.trans k14
  refine bc (fun g => ?_) fun g => ?_
  · have g : n < (refK ms).length + 1 := by simp at g; omega
    obtain ⟨a, kk, ha, hkk, hr⟩ := (S13.chgN k14).re.ex g
    subst ha
    rw [wrapN (n := n) (by omega)]
    refine onPtr_mk ⟨by omega, by omega, kk, reads_one' hr, q, l, c, ((k14.blk L13 (fun x => x)).cell 0).trans rfl, Calls.use (of25 (H.chg k014) hl kk) ?_⟩
    rintro _ w15 ⟨q8, c8, rfl, S15, k15⟩
    refine ⟨q8, _, c8, rfl, boxed rfl rfl fun w17 P17 k17 z17 => Calls.use (of26 ((In13.chgN (k14.trans (k15.trans k17))).re) hl hq2 kk) ?_⟩
    rintro _ w18 ⟨b1, b2, q', c', rfl, T18, k18⟩
    refine ⟨_, rfl, boxed rfl rfl fun w20 G20 k20 z20 => ?_⟩
    have k1518 := k17.trans k18
    have z1415 := (k14.trans k15).size
    have z1518 := k18.size
    have k1318 := k14.trans (k15.trans k1518)
    have F18 : F9 w13 w18 st w.heap.size w1.heap.size w2.heap.size w15.heap.size q l c q8 c8 (ofF ms kk.data.toList l) :=
      ⟨k1318, k1318.blk L13 (fun x => x), k1318.blk S13' (fun x => x), k1318.blk R13 (fun x => x), k18.blk P17 (fun x => x), (S15.chgN k1518).lower (Nat.zero_le _), ⟨by omega, by omega, hR, z1415⟩, fun g hg => (S15.lt hg).1⟩
    refine ⟨fun p w' mk' => ∃ g rd : Nat, p = some ⟨g, 0, none⟩ ∧ w18.heap.size ≤ g ∧ rd ≤ 2 ∧ Blk w' g 3 #[.int .i64 (rd : Int)] ∧ F9 w13 w' st w.heap.size w1.heap.size w2.heap.size w15.heap.size q l c q8 c8 (ofF ms kk.data.toList l) ∧ It w' w18.heap.size b1 b2 q' l c' ms kk ∧ Marks w13 mk' w', fun p w' => 2 - cellN p w',
      ⟨w18.heap.size, 0, rfl, Nat.le_refl _, by omega, G20, F18.step k20 (fun _ h => h.elim), T18.step k20 (fun _ h => h.elim), M14.chgN (k15.trans (k1518.trans k20))⟩, ?_⟩
    clear G20 k20 z20 F18 T18 k1318
    rintro _ mk2 w21 ⟨g, rd, rfl, hg, hrd, G21, F21, T21, M21⟩
    refine onPtr_mk ⟨_, (G21.cell 0).trans rfl, bc (fun hlt => ?_) (fun hge => ⟨⟨n + 1, rfl, by omega, F21.chg, M21⟩, by simp only [Int.toNat_natCast]; omega⟩)⟩
    have hrd2 : rd < 2 := by have := of_decide_eq_true hlt; omega
    refine boxed rfl rfl fun w23 I23 k23 z23 => ?_
    refine ⟨fun w' mk' => mk' = w23.heap.size :: mk2 ∧ ∃ j : Nat, (j = (ofF ms kk.data.toList l).length ∨ rd = 0 ∧ (j : Int) = st) ∧ Blk w' w21.heap.size 3 #[.int .i64 (j : Int)] ∧ Blk w' g 3 #[.int .i64 (rd : Int)] ∧ F9 w13 w' st w.heap.size w1.heap.size w2.heap.size w15.heap.size q l c q8 c8 (ofF ms kk.data.toList l) ∧ It w' w18.heap.size b1 b2 q' l c' ms kk ∧ Marks w13 (w23.heap.size :: mk2) w', ?_, ?_⟩
    · rintro mk' w24 ⟨rfl, j, hj, I24, G24, F24, T24, M24⟩
      have next : ∀ w40, w40 = w24.alloc (.cells #[.int .i64 0] 3) → canStore w40 (⟨w24.heap.size, 0, none⟩ : Addr) 1 ∧ ∀ w41, w41 = setCells (⟨w24.heap.size, 0, none⟩ : Addr) 0 [.int .i64 (rd : Int)] w40 → ∃ n11 : Int, w41.cell? (⟨w24.heap.size, 0, none⟩ : Addr) = some (.int .i64 n11) ∧ canStore w41 (⟨w24.heap.size, 0, none⟩ : Addr) 1 ∧
          ∀ w42, w42 = setCells (⟨w24.heap.size, 0, none⟩ : Addr) 0 [.int .i64 (IntKind.wrap .i64 (n11 + 1))] w41 → (∃ g rd : Nat, some (⟨w24.heap.size, 0, none⟩ : Addr) = some ⟨g, 0, none⟩ ∧ w18.heap.size ≤ g ∧ rd ≤ 2 ∧ Blk w42 g 3 #[.int .i64 (rd : Int)] ∧ F9 w13 w42 st w.heap.size w1.heap.size w2.heap.size w15.heap.size q l c q8 c8 (ofF ms kk.data.toList l) ∧ It w42 w18.heap.size b1 b2 q' l c' ms kk ∧ Marks w13 (w23.heap.size :: mk2) w42) ∧
            2 - cellN (some (⟨w24.heap.size, 0, none⟩ : Addr)) w42 < 2 - cellN (some (⟨g, 0, none⟩ : Addr)) w21 := boxed rfl rfl fun w41 B41 k41 z41 => ⟨_, (B41.cell 0).trans rfl, B41.canStore (by simp), fun w42 e42 => by
        rw [wrapS (x := (rd : Int) + 1) (by omega) (by omega)] at e42
        have B42 : Blk w42 w24.heap.size 3 #[.int .i64 ((rd + 1 : Nat) : Int)] := B41.over e42 rfl
        have k42 : Chg none_ w24 w42 := k41.sets' e42 (.inr (Nat.le_refl _))
        refine ⟨⟨w24.heap.size, rd + 1, rfl, by have := G24.lt; omega, by omega, B42, F24.step k42 (fun _ h => h.elim), T24.step k42 (fun _ h => h.elim), M24.chgN k42⟩, ?_⟩
        rw [cellN_eq B42, cellN_eq G21]; omega⟩
      refine ⟨_, (I24.cell 0).trans rfl, _, _, _, (F24.P.cell 0).trans rfl, bc (fun hne => ?_) (fun _ => onPtr_mk ⟨_, (G24.cell 0).trans rfl, next⟩)⟩
      have hne : j ≠ (ofF ms kk.data.toList l).length := fun e => by rw [e] at hne; simp at hne
      rcases hj with hj | ⟨hr0, hst⟩
      · exact absurd hj hne
      · exact onPtr_mk ⟨_, (G24.cell 0).trans rfl, bcF (by simp [hr0]) ⟨_, (I24.cell 0).trans rfl, st, (F24.S.cell 0).trans rfl, bcF (by simp [hst]) (onPtr_mk ⟨_, (G24.cell 0).trans rfl, next⟩)⟩⟩
    · refine ⟨43, #[], #[.pointer (some ⟨b1, 0, none⟩), .pointer (some ⟨b2, 0, none⟩)], rfl, rfl, fun rc hrc w25 e25 => ?_⟩
      obtain ⟨z25, d25, r25⟩ := entered e25
      have k2325 : Chg none_ w23 w25 := (Chg.refl none_ w23).entered e25
      have k25 := k23.trans k2325
      have gl := G21.lt
      have G25 : G9 w13 w25 st w.heap.size w1.heap.size w2.heap.size w15.heap.size q l c q8 c8 (ofF ms kk.data.toList l) g rd w21.heap.size 0 mk2 w23.heap.size :=
        ⟨F21.step k25 (fun _ h => h.elim), k25.blk G21 (fun x => x), k2325.blk I23 (fun x => x), M21.chgN k25, d25, by omega, gl, by omega, fun x hx => M21.lt x hx⟩
      have T25 := T21.step k25 (fun _ h => h.elim)
      refine Calls.use (iter43 T25 hl (w23.heap.size + 1)
        (fun i w' => G9 w13 w' st w.heap.size w1.heap.size w2.heap.size w15.heap.size q l c q8 c8 (ofF ms kk.data.toList l) g rd w21.heap.size i mk2 w23.heap.size ∧ RecOk w' (w23.heap.size + 1) rc .ready none ∧ It w' w18.heap.size b1 b2 q' l c' ms kk)
        (fun w' => ∃ j : Nat, (rd = 0 ∧ (j : Int) = st) ∧ G9 w13 w' st w.heap.size w1.heap.size w2.heap.size w15.heap.size q l c q8 c8 (ofF ms kk.data.toList l) g rd w21.heap.size j mk2 w23.heap.size ∧ RecOk w' (w23.heap.size + 1) rc .done (some (.exit 6)) ∧ It w' w18.heap.size b1 b2 q' l c' ms kk)
        ⟨G25, RecOk.new hrc r25, T25⟩ (fun i a b _ ⟨Ga, ra, Ta⟩ k => ⟨Ga.step k (fun _ h => h.elim), ra.chg k (fun x => x), Ta.step k (fun _ h => h.elim)⟩) ?_) ?_
      · rintro i n' m wa hx hm za ⟨Ga, ra, Ta⟩
        refine (round9 (N := w18.heap.size) (H.chg k013) hl Ga (ofF_len _ _ _) hx hm hrc ra (by omega)).mono ?_
        rintro b wc ⟨cc, ht, hf⟩
        have Tc := Ta.step cc (fun k hk => hk.1)
        refine ⟨cc.mono fun k _ hk => ⟨hk.1, by omega⟩, fun h => ⟨(ht h).1, (ht h).2, Tc⟩, fun h => ?_⟩
        obtain ⟨j, h1, h2, h3⟩ := hf h
        exact ⟨j, h1, h2, h3, Tc⟩
      · have fin : ∀ {w' wz : World} {j : Nat}, (j = (ofF ms kk.data.toList l).length ∨ rd = 0 ∧ (j : Int) = st) → G9 w13 w' st w.heap.size w1.heap.size w2.heap.size w15.heap.size q l c q8 c8 (ofF ms kk.data.toList l) g rd w21.heap.size j mk2 w23.heap.size → It w' w18.heap.size b1 b2 q' l c' ms kk → Chg (fun k => k = w23.heap.size + 1) w' wz →
            (w23.heap.size :: mk2 = w23.heap.size :: mk2 ∧ ∃ j : Nat, (j = (ofF ms kk.data.toList l).length ∨ rd = 0 ∧ (j : Int) = st) ∧ Blk wz w21.heap.size 3 #[.int .i64 (j : Int)] ∧ Blk wz g 3 #[.int .i64 (rd : Int)] ∧ F9 w13 wz st w.heap.size w1.heap.size w2.heap.size w15.heap.size q l c q8 c8 (ofF ms kk.data.toList l) ∧ It wz w18.heap.size b1 b2 q' l c' ms kk ∧ Marks w13 (w23.heap.size :: mk2) wz) := fun {w' wz j} hj G' T' k => by
          have Gz := G'.step k (fun k hk => by omega)
          refine ⟨rfl, j, hj, Gz.bi, Gz.bg, Gz.f, T'.step k (fun k hk => by omega), ?_⟩
          exact (M21.chgN k23).cons Gz.m (by have := k23.size; have := F21.chg.size; omega) Gz.d
        rintro v w34 (⟨G34, r34, T34⟩ | ⟨j, hj, G34, r34, T34⟩)
        · exact ⟨v, rfl, r34.after (by decide) fun wz k => fin (.inl rfl) G34 T34 k⟩
        · exact ⟨v, rfl, r34.afterExit (by decide) rfl fun wz k => fin (.inr hj) G34 T34 k⟩
  · refine ⟨q, l, c, ((k14.blk L13 (fun x => x)).cell 0).trans rfl, Calls.use (same14 (In13.chgN k14).re (H.chg k014) (by omega)) ?_⟩
    rintro _ w38 ⟨b, rfl, hb, k38⟩
    obtain rfl : b = true := hb rfl
    have R38 := (k14.trans k38).blk R13 (fun x => x)
    have M38 := M14.chgN k38
    refine ⟨true, rfl, R38.canStore (by simp), fun w39 e39 => ?_⟩
    have R39 := R38.over e39 rfl
    have c39 : Chg (fun k => k = w2.heap.size) w38 w39 := (Chg.refl _ w38).sets' e39 (.inl rfl)
    have M39 := M38.chg c39 (fun x hx e => M38.not R38 (by rw [← e]; exact hx))
    have hw2 : w.heap.size ≤ w2.heap.size := by omega
    exact ⟨M39.ok, true, ((R39.take (M39.not R39)).cell 0).trans rfl, rfl, takeAll_chg mk ((k014.trans k38).up c39 (fun k hk => by omega)) (fun r hr => Nat.le_trans k013.size (M39.new r hr))⟩
end Go.Proofs.YtjfafkgjcgbgfaaDoor
