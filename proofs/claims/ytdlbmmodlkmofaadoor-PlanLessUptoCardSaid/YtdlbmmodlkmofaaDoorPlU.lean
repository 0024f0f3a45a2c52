import Derived.Test.YtdlbmmodlkmofaaDoorPlT
set_option maxRecDepth 20000
namespace Go.Proofs.YtdlbmmodlkmofaaDoor
open Go Go.Vc Go.RowKit
/-! # copied, of the program -/
theorem copied54 {w : World} {q1 q2 : Option Addr} {l1 c1 l2 c2 : Nat} {fs : List T3} {cs : List Cr} (h1 : RE En.t3 w q1 l1 fs) (h2 : CrsR w q2 l2 cs) (hl1 : l1 * 24 ≤ 140737488351232) (hl2 : l2 * 40 ≤ 140737488351232) :
    Calls Tryd.prog 54 #[.agg #[.slice q1 l1 c1, .slice q2 l2 c2]] w (Ret fun v w' => ∃ q3 c3 q4 c4, v = .agg #[.slice q3 l1 c3, .slice q4 l2 c4] ∧ SE En.t3 w' w.heap.size 37 q3 l1 c3 fs ∧ CrsD w' w.heap.size q4 l2 c4 cs ∧ Chg none_ w w') := by
  obtain ⟨hs, hh1, hh2, hh3⟩ := h2.ex
  have hhl := hh1.len
  refine f54.calls _ _ _ _ _ _ ?_
  unfold f54.wp
  refine newBox fun w1 B1 k1 z1 => newBox fun w2 B2 k2 z2 => ?_
  have A2 := k2.blk B1 (fun x => x)
  have k02 := k1.trans k2
  refine ⟨fun x w3 => ∃ (b : Nat) (q3 : Option Addr) (c3 : Nat) (q4 : Option Addr) (c4 : Nat), x = some ⟨b, 0, none⟩ ∧ w.heap.size ≤ b ∧ b ≠ w1.heap.size ∧ Blk w3 b 28 #[.slice q3 l1 c3, .slice q4 l2 c4] ∧ SE En.t3 w3 w.heap.size 37 q3 l1 c3 fs ∧ SE En.crh w3 w.heap.size 42 q4 l2 c4 hs ∧ Blk w3 w1.heap.size 28 #[.slice none 0 0, .slice none 0 0] ∧ Chg none_ w w3, ?_, ?_⟩
  case refine_2 =>
    have A2d := A2.drew
    have B2d := B2.drew
    have k02d := k02.drew
    generalize w2.drew = W at *
    have zW := A2d.lt
    have zW2 := B2d.lt
    have hW := k02d.size
    have fin : ∀ {w' w'' : World} {b : Nat} {q3 q4 : Option Addr} {c3 c4 : Nat}, Blk w' b 28 #[.slice none 0 0, .slice none 0 0] → SE En.t3 w' w.heap.size 37 q3 l1 c3 fs → SE En.crh w' w.heap.size 42 q4 l2 c4 hs → Chg none_ W w' → W.heap.size ≤ b → w'' = setCells (⟨b, 0, none⟩ : Addr) 0 [.slice q3 l1 c3, .slice q4 l2 c4] w' →
        (∃ (b' : Nat) (q3 : Option Addr) (c3 : Nat) (q4 : Option Addr) (c4 : Nat), some (⟨b, 0, none⟩ : Addr) = some ⟨b', 0, none⟩ ∧ w.heap.size ≤ b' ∧ b' ≠ w1.heap.size ∧ Blk w'' b' 28 #[.slice q3 l1 c3, .slice q4 l2 c4] ∧ SE En.t3 w'' w.heap.size 37 q3 l1 c3 fs ∧ SE En.crh w'' w.heap.size 42 q4 l2 c4 hs ∧ Blk w'' w1.heap.size 28 #[.slice none 0 0, .slice none 0 0] ∧ Chg none_ w w'') := fun {w' w'' b q3 q4 c3 c4} B S T k hb e => by
      have k' : Chg (fun k => k = b) w' w'' := (Chg.refl _ w').sets' e (.inl rfl)
      exact ⟨b, q3, c3, q4, c4, rfl, by omega, by omega, B.over e rfl, S.chg k' (fun g hg h => SE.ne S B (by decide) g hg h), T.chg k' (fun g hg h => SE.ne T B (by decide) g hg h), k'.blk (k.blk B2d (fun x => x)) (by omega), (k02d.trans k).up k' fun k hk => by omega⟩
    have r1 := h1.chg k02d
    have r2 := hh1.chg k02d
    refine ⟨fun p => p.block < W.heap.size, q1, l1, c1, zW, (A2d.cell 0).trans rfl, q2, l2, c2, (by show (Addr.add _ _).block < _; rw [add_block]; exact zW), (A2d.cell0 1).trans rfl, Calls.use (clone84 r1 hl1) ?_, fun w13 e13 => ?_⟩
    · rintro _ w4 ⟨q3, c3, rfl, S4, k4⟩
      have S4' := S4.lower hW
      refine ⟨q3, l1, c3, rfl, k4.keeps, Calls.use (clone60 (r2.chg k4) hl2) ?_, fun w10 e10 => ?_⟩
      · rintro _ w5 ⟨q4, c4, rfl, T5, k5⟩
        have T5' := T5.lower (Nat.le_trans hW k4.size)
        have k45 := k4.trans k5
        have go : ∀ w6, w6 = w5.alloc (.cells #[.slice none 0 0, .slice none 0 0] 28) → Blk w6 w5.heap.size 28 #[.slice none 0 0, .slice none 0 0] ∧ Chg none_ W w6 ∧ SE En.t3 w6 w.heap.size 37 q3 l1 c3 fs ∧ SE En.crh w6 w.heap.size 42 q4 l2 c4 hs := fun w6 e6 => by
          have k6 := (Chg.refl none_ w5).new' e6
          exact ⟨new_blk e6, k45.trans k6, S4'.chgN (k5.trans k6), T5'.chgN k6⟩
        refine ⟨q4, l2, c4, rfl, k45.keeps, ⟨k45.keeps, fun w6 e6 => ?_⟩, fun w6 e6 => ?_⟩
        · obtain ⟨B6, k6, S6, T6⟩ := go w6 e6
          exact ⟨k6.keeps, B6.canStore (by show 0 + 2 ≤ 2; decide), fun w7 e7 => fin B6 S6 T6 k6 k45.size e7⟩
        · obtain ⟨B6, k6, S6, T6⟩ := go w6 e6
          exact ⟨k6.keeps, k6.keeps, B6.canStore (by show 0 + 2 ≤ 2; decide), fun w7 e7 => fin B6 S6 T6 k6 k45.size e7⟩
      · have B10 := new_blk e10
        have k10 := (Chg.refl none_ w4).new' e10
        have k410 := k4.trans k10
        refine ⟨k410.keeps, Calls.use (clone60 (r2.chg k410) hl2) ?_⟩
        rintro _ w11 ⟨q4, c4, rfl, T11, k11⟩
        have k411 := k410.trans k11
        have B11 := k11.blk B10 (fun x => x)
        exact ⟨q4, l2, c4, rfl, k411.keeps, k411.keeps, B11.canStore (by show 0 + 2 ≤ 2; decide), fun w12 e12 => fin B11 (S4'.chgN (k10.trans k11)) (T11.lower (Nat.le_trans hW k410.size)) k411 k4.size e12⟩
    · have B13 := new_blk e13
      have k13 := (Chg.refl none_ W).new' e13
      refine ⟨k13.keeps, Calls.use (clone84 (r1.chg k13) hl1) ?_⟩
      rintro _ w14 ⟨q3, c3, rfl, S14, k14⟩
      have k1314 := k13.trans k14
      refine ⟨q3, l1, c3, rfl, k1314.keeps, Calls.use (clone60 (r2.chg k1314) hl2) ?_⟩
      rintro _ w15 ⟨q4, c4, rfl, T15, k15⟩
      have k1315 := k1314.trans k15
      have B15 := (k14.trans k15).blk B13 (fun x => x)
      exact ⟨q4, l2, c4, rfl, k1315.keeps, k1315.keeps, B15.canStore (by show 0 + 2 ≤ 2; decide), fun w16 e16 => fin B15 ((S14.lower (Nat.le_trans hW k13.size)).chgN k15) (T15.lower (Nat.le_trans hW k1314.size)) k1315 (Nat.le_refl _) e16⟩
  rintro x w3 ⟨b, q3, c3, q4, c4, rfl, hb, hb1, P3, S3, T3', R3, k3⟩
  refine onPtr_mk ⟨q4, l2, c4, (P3.cell0 1).trans rfl, fun x w' => ∃ (i : Nat) (hs' : List CrH), x = (i : Int) ∧ i ≤ l2 ∧ Blk w' b 28 #[.slice q3 l1 c3, .slice q4 l2 c4] ∧ SE En.t3 w' w.heap.size 37 q3 l1 c3 fs ∧ SE En.crh w' w.heap.size 42 q4 l2 c4 hs' ∧ (∀ j, i ≤ j → hs'[j]? = hs[j]?) ∧
      (∀ (j : Nat) (h : CrH) (c : Cr), j < i → hs'[j]? = some h → cs[j]? = some c → OwnP w' w.heap.size h c) ∧ (∀ (j k : Nat) (x y : CrH), j < k → k < i → hs'[j]? = some x → hs'[k]? = some y → ∀ g, qB x.q = some g → qB y.q ≠ some g) ∧ Blk w' w1.heap.size 28 #[.slice none 0 0, .slice none 0 0] ∧ Chg none_ w w', fun x _ => l2 - x.toNat,
    ⟨0, hs, rfl, by omega, P3, S3, T3', fun _ _ => rfl, fun j h c hj => by omega, fun j k x y _ hk => by omega, R3, k3⟩, ?_⟩
  rintro _ w17 ⟨i, hs', rfl, hi, P, S, T, hsame, hown, hdst, R, k⟩
  have hTl := T.len
  refine bc (fun g => ?_) fun g => ?_
  · have g : i < l2 := by simp at g; omega
    have Pd := P.drew
    have Sd := S.drew
    have Td := T.drew
    have Rd := R.drew
    have kd := k.drew
    have hownd : ∀ (j : Nat) (h : CrH) (c : Cr), j < i → hs'[j]? = some h → cs[j]? = some c → OwnP w17.drew w.heap.size h c := fun j h c a b d => (hown j h c a b d).chg (Chg.refl none_ w17).drew fun _ _ x => x
    generalize w17.drew = W at *
    obtain ⟨a, x, ha, hx, hr⟩ := Td.re.ex g
    have hx' : hs[i]? = some x := by rw [← hsame i (Nat.le_refl _)]; exact hx
    obtain ⟨f, hf⟩ := get_ex (l := cs) (i := i) (by omega)
    obtain ⟨e1, e2, hfa, hub, huc⟩ := hh3 i x f hx' hf
    have hP := Pd.lt
    obtain ⟨a', ha', hcan⟩ := Td.can g
    rw [ha] at ha'; cases ha'
    have hblk : ∀ n, ((a.add n).add 2).block < W.heap.size := fun n => by
      rw [add_block, add_block]
      exact (Td.lt (by rw [ha]; rfl)).1
    refine ⟨fun p => p.block < W.heap.size, onPtr_mk ⟨q4, l2, c4, (by show (Addr.add _ _).block < _; rw [add_block]; exact hP), (Pd.cell0 1).trans rfl, onPtr_mk ⟨q4, l2, c4, (by show (Addr.add _ _).block < _; rw [add_block]; exact hP), (Pd.cell0 1).trans rfl, onPtr_eq ha ⟨by omega, by omega, x.q, x.l, x.c, hblk _, hr 2 _ rfl, Calls.use (clone85 (hfa.chg kd) hub) ?_⟩⟩⟩⟩
    rintro _ w18 ⟨q12, c12, rfl, S18, k18⟩
    have T18 := Td.chgN k18
    obtain ⟨a'', ha'', hcan18⟩ := T18.can g
    rw [ha] at ha''; cases ha''
    refine ⟨q12, x.l, c12, rfl, k18.keeps, onPtr_eq ha ⟨by omega, by omega, hcan18 2 1 (by decide), fun w19 e19 => ?_⟩⟩
    obtain ⟨T19, k19⟩ := T18.setAt (w' := w19) ha (i := i) (o := 2) (x' := ⟨x.step, x.rest, q12, x.l, c12⟩) (vs := [.slice q12 x.l c12]) hx (Nat.le_of_ble_eq_true rfl) (fun j => by rcases j with _ | _ | _ | j <;> rfl) e19
    rw [wrapS (x := (i : Int) + 1) (by omega) (by omega)]
    have hW := kd.size
    have far : ∀ {b0 : Nat} {q : Option Addr} {l c : Nat} {e : TypeId} {xs : List T3}, e ≠ 42 → SE En.t3 w18 b0 e q l c xs → SE En.t3 w19 b0 e q l c xs := fun he hS => hS.chg k19 fun g hg hk => SE.ne2 hS T18 (Ne.symm he) g hg hk
    refine ⟨⟨i + 1, _, by omega, by omega, k19.blk (k18.blk Pd (fun x => x)) (fun e => SE.ne T18 (k18.blk Pd (fun x => x)) (by decide) _ e.symm rfl), far (by decide) (Sd.chgN k18), T19, fun j hj => ?_, fun j h c hj hh hc => ?_, fun j k y z hjk hk hy hz g hg => ?_, k19.blk (k18.blk Rd (fun x => x)) (fun e => SE.ne T18 (k18.blk Rd (fun x => x)) (by decide) _ e.symm rfl), (kd.trans k18).up k19 fun k hk => (T18.lt hk.symm).2⟩, by simp only [Int.toNat_natCast]; omega⟩
    · rw [List.getElem?_set_ne (by omega)]; exact hsame j (by omega)
    · by_cases hji : j = i
      · subst hji
        rw [List.getElem?_set_self (get_lt hx)] at hh
        cases hh
        rw [hf] at hc; cases hc
        exact ⟨e1, e2, far (by decide) (S18.lower hW), hub⟩
      · rw [List.getElem?_set_ne (Ne.symm hji)] at hh
        have o := hownd j h c (by omega) hh hc
        exact ⟨o.1, o.2.1, far (by decide) (o.2.2.1.chgN k18), o.2.2.2⟩
    · rw [List.getElem?_set_ne (by omega)] at hy
      by_cases hki : k = i
      · subst hki
        rw [List.getElem?_set_self (get_lt hx)] at hz
        cases hz
        obtain ⟨cj, hcj⟩ := get_ex (l := cs) (i := j) (by have := get_lt hy; omega)
        intro e
        have := ((hownd j y cj (by omega) hy hcj).2.2.1.lt hg).1
        have := (S18.lt e).2
        omega
      · rw [List.getElem?_set_ne (Ne.symm hki)] at hz
        exact hdst j k y z hjk (by omega) hy hz g hg
  · have hie : i = l2 := by simp at g; omega
    subst hie
    refine onPtr_mk ⟨_, _, _, _, _, _, P.reads0, R.canStore (by show 0 + 2 ≤ 2; decide), fun w20 e20 => ?_⟩
    have R20 := R.over e20 rfl
    have k20 : Chg (fun k => k = w1.heap.size) w17 w20 := (Chg.refl _ w17).sets' e20 (.inl rfl)
    refine ⟨_, _, _, _, _, _, R20.reads0, q3, c3, q4, c4, rfl, S.chg k20 fun g hg hk => SE.ne S R (by decide) g hg hk, ⟨hs', T.chg k20 fun g hg hk => SE.ne T R (by decide) g hg hk, by omega, fun j h c hj hc => ?_, fun j k x y hjk hx hy => hdst j k x y hjk (by have := get_lt hy; omega) hx hy⟩, k.up k20 fun g hg => by omega⟩
    have o := hown j h c (by have := get_lt hj; omega) hj hc
    exact o.chg k20 fun g hg hk => SE.ne o.2.2.1 R (by decide) g hg hk
end Go.Proofs.YtdlbmmodlkmofaaDoor
