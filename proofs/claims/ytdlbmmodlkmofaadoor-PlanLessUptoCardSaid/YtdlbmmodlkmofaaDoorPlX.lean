import Derived.Test.YtdlbmmodlkmofaaDoorPlV
set_option maxRecDepth 20000
namespace Go.Proofs.YtdlbmmodlkmofaaDoor
open Go Go.Vc Go.RowKit
/-! # the program's Smaller: the iterator -/
structure ItS (w : World) (b base : Nat) (q1 : Option Addr) (l1 c1 : Nat) (q2 : Option Addr) (l2 c2 : Nat) (p : Pn) : Prop where
  b : Blk w b 28 #[.slice q1 l1 c1, .slice q2 l2 c2]
  f : SE En.t3 w base 37 q1 l1 c1 p.faults
  c : CrsO w base q2 l2 c2 p.crashes
theorem ItS.chgN {w w' : World} {b base : Nat} {q1 : Option Addr} {l1 c1 : Nat} {q2 : Option Addr} {l2 c2 : Nat} {p : Pn} (h : ItS w b base q1 l1 c1 q2 l2 c2 p) (k : Chg none_ w w') : ItS w' b base q1 l1 c1 q2 l2 c2 p :=
  ⟨k.blk h.b (fun x => x), h.f.chgN k, h.c.chgN k⟩
theorem smaller28 {w : World} {q1 q2 : Option Addr} {l1 c1 l2 c2 : Nat} {p : Pn} (h1 : RE En.t3 w q1 l1 p.faults) (h2 : CrsR w q2 l2 p.crashes) (hl1 : l1 * 24 ≤ 140737488351232) (hl2 : l2 * 40 ≤ 140737488351232) :
    Calls Tryd.prog 28 #[.agg #[.slice q1 l1 c1, .slice q2 l2 c2]] w (Ret fun v w' => ∃ q3 c3 q4 c4, v = .func (.func 55) #[] #[.pointer (some (ad w.heap.size))] ∧ ItS w' w.heap.size w.heap.size q3 l1 c3 q4 l2 c4 p ∧ Chg none_ w w') := by
  refine f28.calls _ _ _ _ _ _ ?_
  unfold f28.wp
  refine newBox fun w1 B1 k1 z1 => ?_
  refine ⟨_, _, _, _, _, _, B1.reads0, Calls.use (copied54 (h1.chg k1) (h2.chg k1) hl1 hl2) ?_⟩
  rintro _ w2 ⟨q3, c3, q4, c4, rfl, S2, D2, k2⟩
  have B2 := k2.blk B1 (fun x => x)
  refine ⟨_, _, _, _, _, _, rfl, B2.canStore (by simp), fun w3 e3 => ?_⟩
  have k3 : Chg (fun k => k = w.heap.size) w2 w3 := (Chg.refl _ w2).sets' e3 (.inl rfl)
  refine ⟨q3, c3, q4, c4, rfl, ⟨B2.over e3 rfl, (S2.chg k3 fun g hg hk => by have := (S2.lt hg).2; omega).lower (by omega), ((D2.chg k3 fun g hg => by omega).o).lower (by omega)⟩, (k1.trans k2).sets' e3 (.inr (Nat.le_refl _))⟩
theorem Dst.er {hs : List CrH} {i : Nat} (h : Dst hs) (hi : i < hs.length) : Dst (er hs i) := fun a b x y hab hx hy g hg e => by
  obtain ⟨a', ha, _, ca⟩ := er_two rfl hi hx hx
  obtain ⟨b', hb, _, cb⟩ := er_two rfl hi hy hy
  exact h a' b' x y (by omega) ha hb g hg e
section
variable {w : World} {b base : Nat} {q1 : Option Addr} {l1 c1 : Nat} {q2 : Option Addr} {l2 c2 : Nat} {p : Pn}
theorem gone55 (K : World → Prop) (hK : ∀ w', K w' → ItS w' b base q1 l1 c1 q2 l2 c2 p) (K0 : K w) (hN : (smL p).length ≤ 4194304) (z : Nat) (J : Nat → World → Prop) (D : World → Prop) (S0 : Nat → Prop)
    (hI : ∀ wa wb, Chg (fun k => S0 k ∨ w.heap.size ≤ k) wa wb → K wa → K wb) (hJ : ∀ i wa wb, J i wa → Chg none_ wa wb → J i wb) (h0 : J 0 w)
    (hy : ∀ (i B : Nat) (wb : World) (q3 : Option Addr) (l3 c3 : Nat) (q4 : Option Addr) (l4 c4 : Nat) (p' : Pn), (smL p)[i]? = some p' → J i wb → w.heap.size ≤ B → B ≤ wb.heap.size → SE En.t3 wb B 37 q3 l3 c3 p'.faults → CrsD wb B q4 l4 c4 p'.crashes → l3 ≤ l1 → l4 ≤ l2 →
      YieldTo Tryd.prog z #[.agg #[.slice q3 l3 c3, .slice q4 l4 c4]] wb fun r w3 => Chg (fun k => S0 k ∨ B ≤ k) wb w3 ∧ (r = true → J (i + 1) w3) ∧ (r = false → D w3)) :
    Calls Tryd.prog 55 #[.func (.yield z) #[] #[], .pointer (some (ad b))] w (Ret fun _ w' => J (smL p).length w' ∨ D w') := by
  have I := hK _ K0
  have hs := sm_len p
  have el1 := I.f.len
  have el2 := I.c.re.len
  refine f55_y.calls _ _ ?_
  unfold f55_y.wp
  refine onPtr_mk ⟨q1, l1, c1, (I.b.cell 0).trans rfl, fun x w' => ∃ i : Nat, x = (i : Int) ∧ i ≤ l1 ∧ J i w' ∧ K w' ∧ w.heap.size ≤ w'.heap.size, fun x _ => l1 - x.toNat,
    ⟨0, rfl, Nat.zero_le _, h0, K0, Nat.le_refl _⟩, ?_⟩
  rintro _ w1 ⟨i, rfl, hi, J1, I1, z1⟩
  refine bc (fun g => ?_) fun g => ?_
  · have g : i < l1 := by simpa using g
    rw [wS (by omega)]
    refine onPtr_mk ⟨_, _, _, _, _, _, (hK _ I1).b.reads0, Calls.use (copied54 (hK _ I1).f.re (hK _ I1).c.re (by omega) (by omega)) ?_⟩
    rintro _ w2 ⟨q4, c4, q5, c5, rfl, S2, D2, k2⟩
    refine ⟨_, _, _, _, _, _, rfl, boxed rfl rfl fun w4 B4 k4 z4 => ⟨_, _, _, (B4.cell 0).trans rfl, Calls.use (delete56 (S2.chgN k4) g (by omega)) ?_⟩⟩
    rintro _ w5 ⟨rfl, S5, k5⟩
    have S4 := S2.chgN k4
    have B5 := k5.blk B4 (fun e => SE.ne S4 B4 (by decide) _ e.symm rfl)
    have D5 : CrsD w5 w1.heap.size q5 l2 c5 p.crashes := by
      obtain ⟨hs, h1, h2, h3, h4⟩ := (D2.chgN k4).ex
      exact ⟨hs, h1.chg k5 fun g hg hk => SE.ne2 h1 S4 (by decide) g hg hk, h2, fun a x y hx hy => (h3 a x y hx hy).chg k5 fun g hg hk => SE.ne2 (h3 a x y hx hy).2.2.1 S4 (by decide) g hg hk, h4⟩
    refine ⟨_, _, _, rfl, B5.canStore (by simp), fun w6 e6 => ?_⟩
    have B6 : Blk w6 w2.heap.size 28 #[.slice q4 (l1 - 1) c4, .slice q5 l2 c5] := B5.sets' e6
    have k6 : Chg (fun k => k = w2.heap.size) w5 w6 := (Chg.refl _ w5).sets' e6 (.inl rfl)
    have hz2 := k2.size
    have k16 : Chg none_ w1 w6 := ((k2.trans k4).up k5 fun k hk => (S4.lt hk.symm).2).up k6 fun k hk => by omega
    have S6 := S5.chg k6 fun g hg hk => SE.ne S5 B5 (by decide) g hg hk
    have D6 : CrsD w6 w1.heap.size q5 l2 c5 p.crashes := by
      obtain ⟨hs, h1, h2, h3, h4⟩ := D5.ex
      exact ⟨hs, h1.chg k6 fun g hg hk => SE.ne h1 B5 (by decide) g hg hk, h2, fun a x y hx hy => (h3 a x y hx hy).chg k6 fun g hg hk => SE.ne (h3 a x y hx hy).2.2.1 B5 (by decide) g hg hk, h4⟩
    refine ⟨_, _, _, _, _, _, B6.reads0, (hy i w1.heap.size w6 q4 (l1 - 1) c4 q5 l2 c5 ⟨er p.faults i, p.crashes⟩ (sm_get1 (by omega)) (hJ _ _ _ J1 k16) z1 k16.size S6 D6 (by omega) (by omega)).mono fun r w7 ⟨k7, ht, hf⟩ => ?_⟩
    have I7 := hI _ _ (k7.mono fun k _ hk => hk.imp id (by omega)) (hI _ _ (k16.mono fun _ _ h => h.elim) I1)
    cases r with
    | false => exact bcT rfl (.inr (hf rfl))
    | true => exact bcF rfl ⟨⟨i + 1, by omega, g, ht rfl, I7, by have := k16.size; have := k7.size; omega⟩, meas g⟩
  have : i = l1 := by simp at g; omega
  subst this
  clear g hi
  refine onPtr_mk ⟨q2, l2, c2, ((hK _ I1).b.cell0 1).trans rfl, fun x w' => ∃ j : Nat, x = (j : Int) ∧ j ≤ l2 ∧ J (p.faults.length + j) w' ∧ K w' ∧ w.heap.size ≤ w'.heap.size, fun x _ => l2 - x.toNat,
    ⟨0, rfl, Nat.zero_le _, by rw [el1]; exact J1, I1, z1⟩, ?_⟩
  clear J1 I1 z1
  rintro _ w1 ⟨j, rfl, hj, J1, I1, z1⟩
  refine bc (fun g => ?_) fun g => ?_
  · have g : j < l2 := by simpa using g
    rw [wS (by omega)]
    refine onPtr_mk ⟨_, _, _, _, _, _, (hK _ I1).b.reads0, Calls.use (copied54 (hK _ I1).f.re (hK _ I1).c.re (by omega) (by omega)) ?_⟩
    rintro _ w2 ⟨q4, c4, q5, c5, rfl, S2, D2, k2⟩
    obtain ⟨hs4, T4, hl4, hO4, hD4⟩ := D2.ex
    refine ⟨_, _, _, _, _, _, rfl, boxed rfl rfl fun w4 B4 k4 z4 => ⟨_, _, _, (B4.cell0 1).trans rfl, Calls.use (delete57 (T4.chgN k4) g (by omega)) ?_⟩⟩
    rintro _ w5 ⟨rfl, T5, k5⟩
    have T4' := T4.chgN k4
    have B5 := k5.blk B4 (fun e => SE.ne T4' B4 (by decide) _ e.symm rfl)
    refine ⟨_, _, _, rfl, B5.canStore0 (show 1 + 1 ≤ 2 by decide), fun w6 e6 => ?_⟩
    have B6 : Blk w6 w2.heap.size 28 #[.slice q4 i c4, .slice q5 (l2 - 1) c5] := B5.sets' e6
    have k6 : Chg (fun k => k = w2.heap.size) w5 w6 := (Chg.refl _ w5).sets' e6 (.inl rfl)
    have hz2 := k2.size
    have k16 : Chg none_ w1 w6 := ((k2.trans k4).up k5 fun k hk => (T4'.lt hk.symm).2).up k6 fun k hk => by omega
    have S5 := (S2.chgN k4).chg k5 fun g hg hk => SE.ne2 (S2.chgN k4) T4' (by decide) g hg hk
    have S6 := S5.chg k6 fun g hg hk => SE.ne S5 B5 (by decide) g hg hk
    have T6 := T5.chg k6 fun g hg hk => SE.ne T5 B5 (by decide) g hg hk
    have D6 : CrsD w6 w1.heap.size q5 (l2 - 1) c5 (er p.crashes j) := ⟨er hs4 j, T6, er_len2 hl4, fun a x y hx hy => by
      obtain ⟨a', hx', hy', _⟩ := er_two hl4 (by omega) hx hy
      have o4 := (hO4 a' x y hx' hy').chg k4 fun _ _ x => x
      have o5 := o4.chg k5 fun g hg hk => SE.ne2 o4.2.2.1 T4' (by decide) g hg hk
      exact o5.chg k6 fun g hg hk => SE.ne o5.2.2.1 B5 (by decide) g hg hk, hD4.er (by omega)⟩
    refine ⟨_, _, _, _, _, _, B6.reads0, (hy (p.faults.length + j) w1.heap.size w6 q4 i c4 q5 (l2 - 1) c5 ⟨p.faults, er p.crashes j⟩ (sm_get2 (by omega)) (hJ _ _ _ J1 k16) z1 k16.size S6 D6 (by omega) (by omega)).mono fun r w7 ⟨k7, ht, hf⟩ => ?_⟩
    have I7 := hI _ _ (k7.mono fun k _ hk => hk.imp id (by omega)) (hI _ _ (k16.mono fun _ _ h => h.elim) I1)
    cases r with
    | false => exact bcT rfl (.inr (hf rfl))
    | true => exact bcF rfl ⟨⟨j + 1, by omega, g, ht rfl, I7, by have := k16.size; have := k7.size; omega⟩, meas g⟩
  have : j = l2 := by simp at g; omega
  subst this
  clear g hj
  refine onPtr_mk ⟨q2, j, c2, ((hK _ I1).b.cell0 1).trans rfl, fun x w' => ∃ m : Nat, x = (m : Int) ∧ m ≤ j ∧ J (p.faults.length + p.crashes.length + (smX p m).length) w' ∧ K w' ∧ w.heap.size ≤ w'.heap.size, fun x _ => j - x.toNat,
    ⟨0, rfl, Nat.zero_le _, by rw [el2]; exact J1, I1, z1⟩, ?_⟩
  clear J1 I1 z1
  rintro _ w1 ⟨m, rfl, hm, J1, I1, z1⟩
  refine bc (fun g => ?_) fun g => ?_
  · have g : m < j := by simpa using g
    rw [wS (by omega)]
    obtain ⟨hs0, T0, hl0, H0⟩ := (hK _ I1).c.ex
    obtain ⟨a, x, ha, hx, hr⟩ := T0.re.ex g
    obtain ⟨f, hf⟩ := get_ex (l := p.crashes) (i := m) (by omega)
    have hxl := (H0 m x f hx hf).2.2.1.len
    have hle := smX_le hf
    refine onPtr_eq ha ⟨by omega, by omega, _, _, _, _, _, hr, boxed rfl rfl fun w3 C3 k3 z3 => ⟨_, _, _, (C3.cell0 2).trans rfl, fun y w' => ∃ k : Nat, y = (k : Int) ∧ k ≤ x.l ∧ J (p.faults.length + p.crashes.length + (smX p m).length + k) w' ∧ K w' ∧ w.heap.size ≤ w'.heap.size, fun y _ => x.l - y.toNat,
      ⟨0, rfl, Nat.zero_le _, hJ _ _ _ J1 k3, hI _ _ (k3.mono fun _ _ h => h.elim) I1, by have := k3.size; omega⟩, ?_⟩⟩
    clear J1 I1 z1 hr T0 H0 hx C3 z3 k3
    rintro _ w1 ⟨k, rfl, hk, J1, I1, z1⟩
    refine bc (fun g1 => ?_) fun g1 => ?_
    · have g1 : k < x.l := by simpa using g1
      rw [wS (by omega)]
      refine onPtr_mk ⟨_, _, _, _, _, _, (hK _ I1).b.reads0, Calls.use (copied54 (hK _ I1).f.re (hK _ I1).c.re (by omega) (by omega)) ?_⟩
      rintro _ w2 ⟨q4, c4, q5, c5, rfl, S2, D2, k2⟩
      refine ⟨_, _, _, _, _, _, rfl, boxed rfl rfl fun w4 B4 k4 z4 => ?_⟩
      have k24 := k4.drew
      have B4 := B4.drew
      have z4 : w4.drew.heap.size = w2.heap.size + 1 := z4
      generalize w4.drew = W at *
      obtain ⟨hs4, T4, hl4, hO4, hD4⟩ := (D2.chgN k24).ex
      have S4 := S2.chgN k24
      have zB := B4.lt
      have hB1 : ((⟨w2.heap.size, 0, none⟩ : Addr).add 1).block < W.heap.size := by rw [add_block]; exact zB
      obtain ⟨e, he, hcan⟩ := T4.can g
      subst he
      obtain ⟨x4, hx4⟩ := get_ex (l := hs4) (i := m) (by omega)
      obtain ⟨ex1, ex2, F4, F4b⟩ := hO4 m x4 f hx4 hf
      have hfl := F4.len
      have hcell : W.cell? ((e.add (m * 3)).add 2) = some (.slice x4.q x4.l x4.c) := T4.re.get m x4 hx4 |>.elim fun a' h => by
        obtain ⟨h1, h2⟩ := h
        cases h1
        exact h2 2 _ rfl
      have hE : ((e.add (m * 3)).add 2).block < W.heap.size := by
        rw [add_block, add_block]
        exact (T4.lt rfl).1
      have hB2 : ¬ some ((⟨w2.heap.size, 0, none⟩ : Addr).add 1).block = qB x4.q := by
        rw [add_block]
        exact fun h => SE.ne F4 B4 (by decide) _ h.symm rfl
      have hE2 : ¬ some ((e.add (m * 3)).add 2).block = qB x4.q := by
        rw [add_block, add_block]
        exact fun h => SE.ne2 F4 T4 (by decide) _ h.symm rfl
      refine ⟨fun p => p.block < W.heap.size ∧ ¬ some p.block = qB x4.q, some e, j, c5, ⟨hB1, hB2⟩, (B4.cell0 1).trans rfl, some e, j, c5, ⟨hB1, hB2⟩, (B4.cell0 1).trans rfl, onPtr_mk ⟨by omega, by omega, x4.q, x4.l, x4.c, ⟨hE, hE2⟩, hcell, Calls.use (delete58 F4 (by omega) (by omega)) ?_⟩⟩
      rintro _ w5 ⟨rfl, F5, k5⟩
      have T5 := T4.chg k5 fun g hg hk => SE.ne2 F4 T4 (by decide) g hk.symm hg.symm
      have B5 := k5.blk B4 (fun e => SE.ne F4 B4 (by decide) _ e.symm rfl)
      have S5 := S4.chg k5 fun g hg hk => SE.ne2 S4 F4 (by decide) g hg hk
      obtain ⟨e', he', hcan5⟩ := T5.can g
      cases he'
      refine ⟨_, _, _, rfl, fun q hq => k5.cell hq.1 hq.2, onPtr_mk ⟨by omega, by omega, hcan5 2 1 (by decide), fun w6 e6 => ?_⟩⟩
      have hO5 : ∀ (u : Nat) (h : CrH) (c : Cr), u ≠ m → hs4[u]? = some h → p.crashes[u]? = some c → OwnP w5 w1.heap.size h c := fun u h c hu hh hc => (hO4 u h c hh hc).chg k5 fun g hg hk => by
        rcases Nat.lt_or_ge u m with hlt | hge
        · exact hD4 u m h x4 hlt hh hx4 g hg hk.symm
        · exact hD4 m u x4 h (by omega) hx4 hh g hk.symm hg
      obtain ⟨D6, k6⟩ := crsSet T5 hl4 hO5 hx4 hf ex1 ex2 F5 (by omega) (hD4.keep hx4 rfl) e6
      have B6 := k6.blk B5 (fun h => SE.ne T5 B5 (by decide) _ h.symm rfl)
      have S6 := S5.chg k6 fun g hg hk => SE.ne2 S5 T5 (by decide) g hg hk
      have k16 : Chg none_ w1 w6 := ((k2.trans k24).up k5 fun k hk => (F4.lt hk.symm).2).up k6 fun k hk => (T5.lt hk.symm).2
      refine ⟨_, _, _, _, _, _, B6.reads0, (hy (p.faults.length + p.crashes.length + (smX p m).length + k) w1.heap.size w6 q4 i c4 (some e) j c5 ⟨p.faults, p.crashes.set m (setF f (er f.fates k))⟩ (sm_get3 hf (by omega)) (hJ _ _ _ J1 k16) z1 k16.size S6 D6 (by omega) (by omega)).mono fun r w7 ⟨k7, ht, hf'⟩ => ?_⟩
      have I7 := hI _ _ (k7.mono fun k _ hk => hk.imp id (by omega)) (hI _ _ (k16.mono fun _ _ h => h.elim) I1)
      cases r with
      | false => exact bcT rfl (.inr (hf' rfl))
      | true => exact bcF rfl ⟨⟨k + 1, by omega, g1, ht rfl, I7, by have := k16.size; have := k7.size; omega⟩, meas g1⟩
    · have : k = x.l := by simp at g1; omega
      subst this
      refine ⟨⟨m + 1, by omega, g, by rw [smX_next hf, List.length_append, smK_len, hxl, ← Nat.add_assoc]; exact J1, I1, z1⟩, meas g⟩
  have : m = j := by simp at g; omega
  subst this
  left
  rw [hs]
  rw [el2] at J1 ⊢
  exact J1
end
end Go.Proofs.YtdlbmmodlkmofaaDoor
