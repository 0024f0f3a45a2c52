import Derived.Test.YtibpbbjlecohiaaLeP
set_option maxRecDepth 20000
namespace Go.Proofs.Ytibpbbjlecohiaa
namespace Full
open Go Go.Vc Go.RowKit
/-! # the reference's Order; LatchOrders -/
theorem acts63 {w : World} {z : Hd} {acts : List (List Act)} (hA : ActsR w z acts) (hb : ∀ ys ∈ acts, ys.length ≤ 10000000000000) (hz : z.2.1 ≤ 1000000000000000) :
    Calls Try.prog 63 #[.slice z.1 z.2.1 z.2.2] w (Ret fun v w' => ∃ n : Int, v = .tuple #[.int .i64 n, .bool (!(acts.any fun ys => ys.any badA))] ∧ (z.2.1 ≤ 16 → n = (sumL acts : Int)) ∧ Chg none_ w w') := by
  refine f63.calls _ _ _ ?_
  unfold f63.wp
  have hzl := hA.len
  refine ⟨fun x1 x2 x3 w' => ∃ j : Nat, x3 = (j : Int) ∧ j ≤ z.2.1 ∧ x2 = (!((acts.take j).any fun ys => ys.any badA)) ∧ (z.2.1 ≤ 16 → x1 = (sumL (acts.take j) : Int)) ∧ Chg none_ w w', fun _ _ x3 _ => z.2.1 - x3.toNat, ⟨0, rfl, Nat.zero_le _, by simp, fun _ => by simp [sumL], Chg.refl _ _⟩, ?_⟩
  rintro x1 _ _ w1 ⟨j, rfl, hj, rfl, hs, k1⟩
  refine bc (fun hlt => ?_) fun hge => ?_
  · have hj' : j < z.2.1 := by simpa using hlt
    obtain ⟨ys, hy⟩ := get_ex (l := acts) (i := j) (by omega)
    obtain ⟨_, az, hd, hq, hc0, hR⟩ := hA.at' hy
    have hc := k1.cellS hc0 fun x => x
    have hlen := hR.len
    have hyl := hb ys (List.mem_of_getElem? hy)
    rw [wrapS (x := (j : Int) + 1) (by omega) (by omega)]
    refine onPtr_q hq ⟨by omega, by omega, _, _, _, hc, fun x4 x5 w' => ∃ i : Nat, x5 = (i : Int) ∧ i ≤ hd.2.1 ∧ x4 = (!(((acts.take j).any fun ys => ys.any badA) || (ys.take i).any badA)) ∧ Chg none_ w w', fun _ x5 _ => hd.2.1 - x5.toNat, ⟨0, rfl, Nat.zero_le _, by simp, k1⟩, ?_⟩
    rintro _ _ w2 ⟨i, rfl, hi, rfl, k2⟩
    refine bc (fun hlt => ?_) fun hge => ?_
    · have hi' : i < hd.2.1 := by simpa using hlt
      obtain ⟨ax, x, hqx, hx, hr⟩ := (hR.chg k2).ex hi'
      rw [wrapS (x := (i : Int) + 1) (by omega) (by omega)]
      refine onPtr_q hqx ⟨by omega, by omega, _, _, _, hr, boxed rfl rfl fun w4 B4 k4 _ => ?_⟩
      have k04 := k2.trans k4
      have hn := any_next (f := badA) hx
      refine bc (fun hok => ⟨_, (B4.cell 0).trans rfl, bc (fun h1 => ⟨_, (B4.cell 0).trans rfl, ⟨i + 1, by omega, hi', ?_, k04⟩, meas hi'⟩) fun h1 => ⟨⟨i + 1, by omega, hi', ?_, k04⟩, meas hi'⟩⟩) fun hok => ⟨⟨i + 1, by omega, hi', ?_, k04⟩, meas hi'⟩
      · have h1 : 1 ≤ x.1 := of_decide_eq_true h1
        rw [hn, ← Bool.or_assoc, Bool.not_or (x := _ || _), hok, Bool.true_and, badA, decide_eq_true h1]
        simp
      · have h1 : ¬ 1 ≤ x.1 := of_decide_eq_false h1
        rw [hn, ← Bool.or_assoc, Bool.not_or (x := _ || _), hok, Bool.true_and, badA, decide_eq_false h1]
        simp
      · rw [hn, ← Bool.or_assoc, Bool.not_or (x := _ || _), hok, Bool.false_and]
    · have hil : i = hd.2.1 := by have := of_decide_eq_false hge; omega
      refine ⟨⟨j + 1, by omega, hj', ?_, fun h16 => ?_, k2⟩, meas hj'⟩
      · rw [any_next (f := fun ys => ys.any badA) hy, hil, List.take_of_length_le (l := ys) (by omega)]
      · have h1 := sumL_take_le acts hb j
        have h4 : j * 10000000000000 ≤ 16 * 10000000000000 := Nat.mul_le_mul_right _ (by omega)
        rw [hs h16, sum_next hy, wrapS (by omega) (by omega)]
        omega
  have hjl : j = z.2.1 := by have := of_decide_eq_false hge; omega
  rw [hjl, List.take_of_length_le (by omega)] at hs ⊢
  exact ⟨_, rfl, hs, k1⟩
theorem must_there {acts : List (List Act)} (h m : Int) (hh : (prAll acts).2 h m = true) : (prAll acts).1 m = true := by
  have st : ∀ (p : PrS) (a : Act), (∀ h m, p.must h m = true → p.there m = true) → ∀ h m, (prStep p a).must h m = true → (prStep p a).there m = true := fun p a hp h m hh => by
    unfold prStep at hh ⊢
    by_cases h1 : (mutF a).2 = false
    · rw [if_pos h1] at hh ⊢; exact hp h m hh
    · rw [if_neg h1] at hh ⊢
      by_cases h2 : a.1 = 2
      · rw [if_pos h2] at hh ⊢; exact hp h m hh
      · rw [if_neg h2] at hh ⊢
        simp only [setF, Bool.or_eq_true, Bool.and_eq_true, decide_eq_true_eq] at hh ⊢
        by_cases e : m = (mutF a).1
        · rw [if_pos e]
        · rw [if_neg e]
          rcases hh with hh | hh
          · exact hp h m hh
          · exact absurd hh.1.1 e
  have f1 : ∀ (ys : List Act) (p : PrS), (∀ h m, p.must h m = true → p.there m = true) → ∀ h m, (ys.foldl prStep p).must h m = true → (ys.foldl prStep p).there m = true := fun ys => by
    induction ys with
    | nil => intro p hp; exact hp
    | cons a ys ih => intro p hp; exact ih (prStep p a) (st p a hp)
  have f2 : ∀ (acts : List (List Act)) (t : TM), (∀ h m, t.2 h m = true → t.1 m = true) → ∀ h m, (acts.foldl prProg t).2 h m = true → (acts.foldl prProg t).1 m = true := fun acts => by
    induction acts with
    | nil => intro t ht; exact ht
    | cons a acts ih => intro t ht; exact ih (prProg t a) (f1 a ⟨_, t.1, t.2⟩ ht)
  exact f2 acts _ (fun h m hh => by cases hh) h m hh
def rowM (must : Int → Int → Bool) : Array Value := bgB (fun k => must ((k / 64 : Nat) : Int) ((k % 64 : Nat) : Int)) 4096
section
variable {w : World} {b : Nat} {t : TypeId} {must : Int → Int → Bool} {h m : Int}
theorem mat_ix (hh : 0 ≤ h ∧ h < 64) (hm : 0 ≤ m ∧ m < 64) : h.toNat * 64 + m.toNat < 4096 ∧ (((h.toNat * 64 + m.toNat) / 64 : Nat) : Int) = h ∧ (((h.toNat * 64 + m.toNat) % 64 : Nat) : Int) = m := by omega
theorem mat_addr : (((⟨b, 0, none⟩ : Addr).add (h.toNat * 64)).add (m.toNat * 1)) = (⟨b, 0, none⟩ : Addr).add (h.toNat * 64 + m.toNat) := by rw [Addr.add_add, Nat.mul_one]
theorem rowM_at (B : Blk w b t (rowM must)) (hh : 0 ≤ h ∧ h < 64) (hm : 0 ≤ m ∧ m < 64) : w.cell? (((⟨b, 0, none⟩ : Addr).add (h.toNat * 64)).add (m.toNat * 1)) = some (.bool (must h m)) := by
  obtain ⟨h1, h2, h3⟩ := mat_ix hh hm
  rw [mat_addr, B.cell0]
  unfold rowM
  rw [bgB_get h1, h2, h3]
theorem rowM_put {C : World → Prop} (B : Blk w b t (rowM must)) (hh : 0 ≤ h ∧ h < 64) (hm : 0 ≤ m ∧ m < 64) (hC : ∀ w', Blk w' b t (rowM fun x y => if x = h ∧ y = m then true else must x y) → Chg (fun g => g = b) w w' → C w') :
    canStore w (((⟨b, 0, none⟩ : Addr).add (h.toNat * 64)).add (m.toNat * 1)) 1 ∧ ∀ w', w' = setCells (((⟨b, 0, none⟩ : Addr).add (h.toNat * 64)).add (m.toNat * 1)) 0 [.bool true] w → C w' := by
  obtain ⟨h1, h2, h3⟩ := mat_ix hh hm
  rw [mat_addr]
  refine ⟨B.canStore0 (by unfold rowM; rw [bgB_size]; omega), fun w' e' => ?_⟩
  obtain ⟨B', k'⟩ := B.put e'
  unfold rowM at B'
  rw [bgB_set h1] at B'
  refine hC w' ?_ k'
  have : rowM (fun x y => if x = h ∧ y = m then true else must x y) = bgB (fun j => if j = h.toNat * 64 + m.toNat then true else must ((j / 64 : Nat) : Int) ((j % 64 : Nat) : Int)) 4096 := bgB_congr fun i _ => by
    by_cases e : i = h.toNat * 64 + m.toNat
    · rw [if_pos e]
      show (if ((i / 64 : Nat) : Int) = h ∧ ((i % 64 : Nat) : Int) = m then true else must ((i / 64 : Nat) : Int) ((i % 64 : Nat) : Int)) = _
      rw [if_pos (by omega)]
    · rw [if_neg e]
      show (if ((i / 64 : Nat) : Int) = h ∧ ((i % 64 : Nat) : Int) = m then true else must ((i / 64 : Nat) : Int) ((i % 64 : Nat) : Int)) = _
      rw [if_neg (by omega)]
  rw [this]; exact B'
end
theorem order_fuel {x : Int} {out : List Int} (hn : out.Nodup) (hr : ∀ y ∈ out, 0 ≤ y ∧ y < 64) (hx : x ∉ out) (h0 : 0 ≤ x ∧ x < 64) : out.length < 64 := by
  have : (x :: out).length ≤ ((List.range 64).map fun i : Nat => (i : Int)).length := by
    refine List.Nodup.length_le_of_subset (List.nodup_cons.2 ⟨hx, hn⟩) fun y hy => ?_
    have h1 : 0 ≤ y ∧ y < 64 := by
      rcases List.mem_cons.1 hy with rfl | hy
      · exact h0
      · exact hr y hy
    exact List.mem_map.2 ⟨y.toNat, by rw [List.mem_range]; omega, by show ((y.toNat : Nat) : Int) = y; omega⟩
  simp at this
  omega
theorem order27 {w : World} {z : Hd} {acts : List (List Act)} (hA : ActsR w z acts) (hb : ∀ ys ∈ acts, ys.length ≤ 10000000000000) (hz : z.2.1 ≤ 1000000000000000) :
    Calls Try.prog 27 #[.slice z.1 z.2.1 z.2.2] w (Ret fun v w' => OrdR w' (orderF acts) v ∧ Chg none_ w w') := by
  refine f27.calls _ _ _ ?_
  unfold f27.wp
  have hzl := hA.len
  have nil : ∀ (w' : World) (e : Int), OrdR w' ([], e) (.tuple #[.slice none 0 0, .int .i64 e]) := fun w' e => ⟨none, 0, 0, rfl, RE.nil _ _ _, Nat.zero_le _⟩
  refine Calls.use (acts63 hA hb hz) ?_
  rintro _ w1 ⟨n1, rfl, hn1, k1⟩
  refine ⟨_, _, rfl, bc (fun h => ?_) fun h16 => ?_⟩
  · have h : 16 < z.2.1 := by have := of_decide_eq_true h; omega
    have e : pmayF acts [] = 3 := by rw [pmayF, if_pos (.inl (by omega))]
    rw [orderF, if_pos (by rw [e]; decide), e]
    exact ⟨nil _ _, k1⟩
  have h16 : z.2.1 ≤ 16 := by have := of_decide_eq_false h16; omega
  rw [hn1 h16]
  refine bc (fun h => ?_) fun hs => ?_
  · have h : 4096 < sumL acts := by have := of_decide_eq_true h; omega
    have e : pmayF acts [] = 3 := by rw [pmayF, if_pos (.inr (.inl h))]
    rw [orderF, if_pos (by rw [e]; decide), e]
    exact ⟨nil _ _, k1⟩
  have hs : sumL acts ≤ 4096 := by have := of_decide_eq_false hs; omega
  have hP : pmayF acts [] = if acts.any (fun ys => ys.any badA) then 1 else 0 := by
    rw [pmayF, if_neg (by simp only [List.length_nil]; omega)]; rfl
  have hO : orderF acts = if (acts.any (fun ys => ys.any badA) || acts.any (fun ys => ys.any mutBad)) = true then ([], 1) else orderN (prAll acts).2 65 (prAll acts).1 [] := by
    rw [orderF, hP]
    cases acts.any fun ys => ys.any badA with
    | true => rfl
    | false => cases acts.any fun ys => ys.any mutBad <;> rfl
  rw [hO]
  have lens : ∀ ys ∈ acts, ys.length ≤ 4096 := fun ys hy => by
    have h1 : ys.length ∈ acts.map List.length := List.mem_map.2 ⟨ys, hy, rfl⟩
    have := le_sum h1
    unfold sumL at hs
    omega
  generalize acts.any (fun ys => ys.any badA) = bad at *
  refine ⟨fun x1 x2 w' => ∃ j : Nat, x2 = (j : Int) ∧ j ≤ z.2.1 ∧ x1 = (!(bad || (acts.take j).any fun ys => ys.any mutBad)) ∧ Chg none_ w w', fun _ x2 _ => z.2.1 - x2.toNat, ⟨0, rfl, Nat.zero_le _, by simp, k1⟩, ?_⟩
  rintro _ _ w2 ⟨j, rfl, hj, rfl, k2⟩
  refine bc (fun hlt => ?_) fun hge => ?_
  · have hj' : j < z.2.1 := by simpa using hlt
    obtain ⟨ys, hy⟩ := get_ex (l := acts) (i := j) (by omega)
    obtain ⟨_, az, hd, hq, hc0, hR⟩ := hA.at' hy
    have hc := k2.cellS hc0 fun x => x
    have hlen := hR.len
    have hyl := lens ys (List.mem_of_getElem? hy)
    rw [wrapS (x := (j : Int) + 1) (by omega) (by omega)]
    refine onPtr_q hq ⟨by omega, by omega, _, _, _, hc, fun x3 x4 w' => ∃ i : Nat, x4 = (i : Int) ∧ i ≤ hd.2.1 ∧ x3 = (!((bad || (acts.take j).any fun ys => ys.any mutBad) || (ys.take i).any mutBad)) ∧ Chg none_ w w', fun _ x4 _ => hd.2.1 - x4.toNat, ⟨0, rfl, Nat.zero_le _, by simp, k2⟩, ?_⟩
    rintro _ _ w3 ⟨i, rfl, hi, rfl, k3⟩
    refine bc (fun hlt => ?_) fun hge => ?_
    · have hi' : i < hd.2.1 := by simpa using hlt
      obtain ⟨ax, x, hqx, hx, hr⟩ := (hR.chg k3).ex hi'
      rw [wrapS (x := (i : Int) + 1) (by omega) (by omega)]
      have hn := any_next (f := mutBad) hx
      refine onPtr_q hqx ⟨by omega, by omega, _, _, _, hr, boxed rfl rfl fun w5 B5 k5 _ => ⟨_, (B5.cell0 1).trans rfl, ?_⟩⟩
      have k05 := k3.trans k5
      have next : ∀ {b : Bool}, b = (!((bad || (acts.take j).any fun ys => ys.any mutBad) || (ys.take (i + 1)).any mutBad)) → (∃ i' : Nat, ((i : Int) + 1) = (i' : Int) ∧ i' ≤ hd.2.1 ∧ b = (!((bad || (acts.take j).any fun ys => ys.any mutBad) || (ys.take i').any mutBad)) ∧ Chg none_ w w5) ∧ hd.2.1 - ((i : Int) + 1).toNat < hd.2.1 - (i : Int).toNat := fun hb => ⟨⟨i + 1, by omega, hi', hb, k05⟩, meas hi'⟩
      have nbad : mutBad x = true → false = (!((bad || (acts.take j).any fun ys => ys.any mutBad) || (ys.take (i + 1)).any mutBad)) := fun hb => by rw [hn, hb]; simp
      have ngood : mutBad x = false → (!((bad || (acts.take j).any fun ys => ys.any mutBad) || (ys.take i).any mutBad)) = (!((bad || (acts.take j).any fun ys => ys.any mutBad) || (ys.take (i + 1)).any mutBad)) := fun hb => by rw [hn, hb]; simp
      refine ⟨fun x5 w' => x5 = (if x.1 = 7 then x.2.2 else x.2.1) ∧ w' = w5, ?_, ?_⟩
      rotate_left
      · refine ⟨_, (B5.cell 0).trans rfl, bc (fun h7 => ⟨_, (B5.cell0 2).trans rfl, ?_, rfl⟩) fun h7 => ⟨?_, rfl⟩⟩
        · have h7 : x.1 = 7 := by simpa using h7
          rw [if_pos h7]
        · have h7 : ¬ x.1 = 7 := by simpa using h7
          rw [if_neg h7]
      rintro _ _ ⟨rfl, rfl⟩
      have hmut : (x.1 = 1 ∨ x.1 = 2 ∨ x.1 = 7) → mutBad x = (decide ((if x.1 = 7 then x.2.2 else x.2.1) < 0) || decide ((if x.1 = 7 then x.2.2 else x.2.1) ≥ 64)) := fun h => by
        unfold mutBad mutF
        by_cases h12 : x.1 = 1 ∨ x.1 = 2
        · rw [if_pos h12, if_neg (by omega)]; rfl
        · rw [if_neg h12, if_pos (by omega), if_pos (by omega)]; rfl
      have hnot : ¬ (x.1 = 1 ∨ x.1 = 2 ∨ x.1 = 7) → mutBad x = false := fun h => by
        unfold mutBad mutF
        rw [if_neg (by omega), if_neg (by omega)]; rfl
      generalize (if x.1 = 7 then x.2.2 else x.2.1) = m at *
      have three : (x.1 = 1 ∨ x.1 = 2 ∨ x.1 = 7) → ∀ {X Y Z : Prop}, (false = (!((bad || (acts.take j).any fun ys => ys.any mutBad) || (ys.take (i + 1)).any mutBad)) → X) → (false = (!((bad || (acts.take j).any fun ys => ys.any mutBad) || (ys.take (i + 1)).any mutBad)) → Y) → ((!((bad || (acts.take j).any fun ys => ys.any mutBad) || (ys.take i).any mutBad)) = (!((bad || (acts.take j).any fun ys => ys.any mutBad) || (ys.take (i + 1)).any mutBad)) → Z) → bcase (decide (m < 0)) X (bcase (decide (m ≥ 64)) Y Z) := fun h X Y Z hX hY hZ => by
        have hm := hmut h
        refine bc (fun h1 => hX (nbad (by rw [hm, h1]; rfl))) fun h1 => bc (fun h2 => hY (nbad (by rw [hm, h1, h2]; rfl))) fun h2 => hZ (ngood (by rw [hm, h1, h2]; rfl))
      refine ⟨_, (B5.cell 0).trans rfl, bc (fun h1 => ?_) fun h1 => ?_⟩
      · have h1 : x.1 = 1 := by simpa using h1
        exact three (.inl h1) next next next
      have h1 : ¬ x.1 = 1 := by simpa using h1
      refine ⟨_, (B5.cell 0).trans rfl, bc (fun h2 => ?_) fun h2 => ?_⟩
      · have h2 : x.1 = 2 := by simpa using h2
        exact three (.inr (.inl h2)) next next next
      have h2 : ¬ x.1 = 2 := by simpa using h2
      refine ⟨_, (B5.cell 0).trans rfl, bc (fun h7 => ?_) fun h7 => ?_⟩
      · have h7 : x.1 = 7 := by simpa using h7
        exact three (.inr (.inr h7)) next next next
      have h7 : ¬ x.1 = 7 := by simpa using h7
      exact next (ngood (hnot (by omega)))
    · have hil : i = hd.2.1 := by have := of_decide_eq_false hge; omega
      refine ⟨⟨j + 1, by omega, hj', ?_, k3⟩, meas hj'⟩
      rw [any_next (f := fun ys => ys.any mutBad) hy, hil, List.take_of_length_le (l := ys) (by omega), Bool.or_assoc]
  have hjl : j = z.2.1 := by have := of_decide_eq_false hge; omega
  rw [hjl, List.take_of_length_le (by omega)]
  refine bc (fun hbad => ?_) fun hgood => ?_
  · have hbad : (bad || acts.any fun ys => ys.any mutBad) = true := by simpa using hbad
    rw [if_pos hbad]
    exact ⟨nil _ _, k2⟩
  have hgood : (bad || acts.any fun ys => ys.any mutBad) = false := by simpa using hgood
  rw [if_neg (by rw [hgood]; decide)]
  have hmr : ∀ ys ∈ acts, ∀ a ∈ ys, (mutF a).2 = true → 0 ≤ (mutF a).1 ∧ (mutF a).1 < 64 := fun ys hy a hay h2 => by
    have h3 : mutBad a = false := by
      cases hb : mutBad a with
      | false => rfl
      | true =>
        have : acts.any (fun ys => ys.any mutBad) = true := List.any_eq_true.2 ⟨ys, hy, List.any_eq_true.2 ⟨a, hay, hb⟩⟩
        rw [this] at hgood; simp at hgood
    rw [mutBad, h2, Bool.true_and, Bool.or_eq_false_iff] at h3
    have h4 := of_decide_eq_false h3.1
    have h5 := of_decide_eq_false h3.2
    omega
  obtain ⟨hin, hmu⟩ := prAll_ok hmr
  have hmt : ∀ h m, (prAll acts).2 h m = true → (prAll acts).1 m = true := fun h m hh => must_there h m hh
  refine Calls.use (ahead64 (hA.chg k2) (by omega) hs hmr) ?_
  rintro _ w7 ⟨q2, l2, c2, Z, As, rfl, AR, hl2⟩
  generalize hPR : orderN (prAll acts).2 65 (prAll acts).1 [] = PR
  generalize (prAll acts).1 = there0 at *
  generalize (prAll acts).2 = must at *
  refine ⟨q2, l2, c2, _, _, _, rfl, newBox fun w8 T8 k8 s8 => ?_⟩
  have T8' : Blk w8 w7.heap.size 143 (rowM fun _ _ => false) := cast (by kernel_rfl) T8
  clear T8
  have A8 := AR.chgN k8
  have hZT : Z ≠ w7.heap.size := by have := AR.zb.lt; omega
  have hT2 : w2.heap.size ≤ w7.heap.size := AR.chg.size
  have hse : ∀ g, qB q2 = some g → g ≠ w7.heap.size := fun g hg => by have := (AR.se.lt hg).1; omega
  generalize w7.heap.size = T at T8' hZT hT2 hse ⊢
  have hAl := A8.se.len
  have e0 : (fun (_ _ : Int) => false) = fun h m => decide ((h, m) ∈ As.take 0) := by funext h m; simp
  rw [e0] at T8'
  refine ⟨fun x6 w' => ∃ k : Nat, x6 = (k : Int) ∧ k ≤ l2 ∧ Blk w' T 143 (rowM fun h m => decide ((h, m) ∈ As.take k)) ∧ Chg (fun g => g = T) w8 w', fun x6 _ => l2 - x6.toNat, ⟨0, rfl, Nat.zero_le _, T8', Chg.refl _ _⟩, ?_⟩
  rintro _ w9 ⟨k, rfl, hk, T9, k9⟩
  refine bc (fun hlt => ?_) fun hge => ?_
  · have hk' : k < l2 := by simpa using hlt
    obtain ⟨ax, x, hqx, hx, hr⟩ := (A8.se.chg k9 fun g hg e => hse g hg e).re.ex hk'
    obtain ⟨h, m⟩ := x
    have hmem : must h m = true := (AR.mem h m).1 (List.mem_of_getElem? hx)
    have hh := hin h (hmu h m hmem)
    have hm := hin m (hmt h m hmem)
    rw [wrapS (x := (k : Int) + 1) (by omega) (by omega)]
    refine onPtr_q hqx ⟨by omega, by omega, _, _, hr, boxed rfl rfl fun w11 B11 k11 _ => ?_⟩
    have kd : Chg none_ w9 w11.drew := k11.trans ((Chg.refl none_ w11).drew)
    have B11d : Blk w11.drew w9.heap.size 82 _ := B11
    have T11 := kd.blk T9 fun x => x
    refine ⟨_, (B11d.cell 0).trans rfl, _, (B11d.cell0 1).trans rfl, hh.1, by omega, hm.1, by omega, rowM_put T11 hh hm fun w12 T12 k12 => ⟨⟨k + 1, by omega, hk', ?_, (k9.trans' kd fun _ h => h.elim).trans' k12 fun g hg => .inl hg⟩, meas hk'⟩⟩
    have : (fun h_1 m_1 => decide ((h_1, m_1) ∈ As.take (k + 1))) = fun x y => if x = h ∧ y = m then true else decide ((x, y) ∈ As.take k) := by
      funext x y
      rw [List.take_add_one, hx]
      by_cases e : x = h ∧ y = m
      · rw [if_pos e, e.1, e.2]; simp
      · rw [if_neg e]
        have : ¬ (x, y) = (h, m) := fun hh => e (by simpa using hh)
        simp [this]
    rw [this]; exact T12
  have hkl : k = l2 := by have := of_decide_eq_false hge; omega
  have e1 : (fun h m => decide ((h, m) ∈ As.take k)) = must := by
    funext h m
    rw [hkl, List.take_of_length_le (by omega)]
    cases hh : must h m with
    | true => exact decide_eq_true ((AR.mem h m).2 hh)
    | false => exact decide_eq_false fun hm => by rw [(AR.mem h m).1 hm] at hh; cases hh
  rw [e1] at T9
  have k29 : Chg none_ w2 w9 := A8.chg.up k9 fun g hg => by rw [hg]; exact hT2
  have Z9 := k9.blk A8.zb hZT
  have hZ2 := AR.lo
  refine ⟨fun q4 l4 c4 w' => ∃ (f : Nat) (there : Int → Bool) (out : List Int), SE En.int w' w2.heap.size 3 q4 l4 c4 out ∧ Blk w' Z 4 (rowB there) ∧ Blk w' T 143 (rowM must) ∧ orderN must f there out = PR ∧ f + l4 = 65 ∧ InR there ∧ out.Nodup ∧ (∀ y ∈ out, (0 ≤ y ∧ y < 64) ∧ there y = false) ∧ Chg none_ w2 w', fun _ l4 _ _ => 100 - l4,
    ⟨65, there0, [], SE.nil _ _ _ _, Z9, T9, hPR, rfl, hin, List.nodup_nil, (fun y hy => by cases hy), k29⟩, ?_⟩
  rintro q4 l4 c4 w13 ⟨f, there, out, S13, Z13, T13, hord, hfl, hinr, hnd, hout, k13⟩
  have hol := S13.len
  have h64 : out.length ≤ 64 := by
    have : out.length ≤ ((List.range 64).map fun i : Nat => (i : Int)).length := List.Nodup.length_le_of_subset hnd fun y hy => by
      obtain ⟨⟨a1, a2⟩, _⟩ := hout y hy
      exact List.mem_map.2 ⟨y.toNat, by rw [List.mem_range]; omega, by show ((y.toNat : Nat) : Int) = y; omega⟩
    simpa using this
  obtain ⟨f, rfl⟩ : ∃ f', f = f' + 1 := ⟨f - 1, by omega⟩
  rw [orderN] at hord
  refine ⟨fun x7 x8 x9 w' => w' = w13 ∧ -1 ≤ x9 ∧ x9 ≤ 63 ∧ (x8 = true ↔ ∃ y, x9 < y ∧ there y = true) ∧ ((x7 = -1 ∧ ∀ y, x9 < y → freeM (there, must) y = false) ∨ (x9 < x7 ∧ freeM (there, must) x7 = true ∧ ∀ y, x9 < y → freeM (there, must) y = true → x7 ≤ y)), fun _ _ x9 _ => (x9 + 1).toNat,
    ⟨rfl, by decide, by decide, ⟨(fun h => by cases h), fun ⟨y, h1, h2⟩ => by have := hinr y h2; omega⟩, .inl ⟨rfl, fun y hy => ?_⟩⟩, ?_⟩
  · cases hf : freeM (there, must) y with
    | false => rfl
    | true => have := hinr y ((freeM_iff (t := (there, must)) hinr y).1 hf).1; omega
  rintro x7 x8 x9 w14 ⟨rfl, hlo, hhi, hleft, hbest⟩
  refine bc (fun hge0 => ?_) fun hend => ?_
  · have hge0 : 0 ≤ x9 := of_decide_eq_true hge0
    have h9 : 0 ≤ x9 ∧ x9 < 64 := by omega
    have ew : IntKind.wrap .i64 (x9 - 1) = x9 - 1 := wrapS (by omega) (by omega)
    rw [ew]
    have hms : (x9 - 1 + 1).toNat < (x9 + 1).toNat := by omega
    refine onPtr_mk ⟨hge0, by omega, _, rowB_at Z13 h9, bc (fun hb2 => ?_) fun hb2 => ?_⟩
    · have hb2 : there x9 = false := by simpa using hb2
      have hnf : freeM (there, must) x9 = false := by
        cases hf : freeM (there, must) x9 with
        | false => rfl
        | true =>
          have h1 : there x9 = true := ((freeM_iff (t := (there, must)) hinr x9).1 hf).1
          rw [h1] at hb2; cases hb2
      refine ⟨⟨rfl, by omega, by omega, ⟨fun h => ?_, fun ⟨y, h1, h2⟩ => hleft.2 ⟨y, ?_, h2⟩⟩, ?_⟩, hms⟩
      · obtain ⟨y, h1, h2⟩ := hleft.1 h
        exact ⟨y, by omega, h2⟩
      · by_cases e : y = x9
        · rw [e, hb2] at h2; cases h2
        · omega
      · rcases hbest with ⟨h1, h2⟩ | ⟨h1, h2, h3⟩
        · refine .inl ⟨h1, fun y hy => ?_⟩
          by_cases e : y = x9
          · rw [e]; exact hnf
          · exact h2 y (by omega)
        · refine .inr ⟨by omega, h2, fun y hy hf => ?_⟩
          by_cases e : y = x9
          · rw [e, hnf] at hf; cases hf
          · exact h3 y (by omega) hf
    have hb2 : there x9 = true := by simpa using hb2
    refine ⟨fun x10 x11 w' => ∃ n : Nat, x11 = (n : Int) ∧ n ≤ 64 ∧ w' = w14 ∧ (x10 = true ↔ ∀ y : Int, 0 ≤ y → y < (n : Int) → (must y x9 && there y) = false), fun _ x11 _ => 64 - x11.toNat, ⟨0, rfl, Nat.zero_le _, rfl, ⟨fun _ y h1 h2 => by omega, fun _ => rfl⟩⟩, ?_⟩
    rintro x10 _ w15 ⟨n, rfl, hn, rfl, hx10⟩
    refine bc (fun hlt => ?_) fun hge => ?_
    · have hn' : n < 64 := by have := of_decide_eq_true hlt; omega
      have hnr : 0 ≤ (n : Int) ∧ (n : Int) < 64 := by omega
      rw [wrapS (x := (n : Int) + 1) (by omega) (by omega)]
      have step : ∀ {b : Bool}, (b = true ↔ (x10 = true ∧ (must (n : Int) x9 && there (n : Int)) = false)) → (∃ n' : Nat, ((n : Int) + 1) = (n' : Int) ∧ n' ≤ 64 ∧ w15 = w15 ∧ (b = true ↔ ∀ y : Int, 0 ≤ y → y < (n' : Int) → (must y x9 && there y) = false)) ∧ 64 - ((n : Int) + 1).toNat < 64 - (n : Int).toNat := fun {b} hb => by
        refine ⟨⟨n + 1, by omega, hn', rfl, hb.trans ?_⟩, meas hn'⟩
        rw [hx10]
        constructor
        · rintro ⟨h1, h2⟩ y h3 h4
          by_cases e : y = (n : Int)
          · rw [e]; exact h2
          · exact h1 y h3 (by omega)
        · intro h1
          exact ⟨fun y h3 h4 => h1 y h3 (by omega), h1 _ hnr.1 (by omega)⟩
      refine bc (fun h10 => onPtr_mk ⟨hnr.1, by omega, _, rowB_at Z13 hnr, bc (fun hb3 => ⟨hnr.1, by omega, hge0, by omega, _, rowM_at T13 hnr h9, step ?_⟩) fun hb3 => step ?_⟩) fun h10 => step ?_
      · rw [hb3, Bool.and_true]
        cases must (n : Int) x9 <;> simp [h10]
      · rw [hb3, Bool.and_false]; simp [h10]
      · rw [h10]; simp
    have hn64 : n = 64 := by have := of_decide_eq_false hge; omega
    have hfree : x10 = true ↔ freeM (there, must) x9 = true := by
      rw [hx10, freeM_iff (t := (there, must)) hinr]
      constructor
      · intro h1
        refine ⟨hb2, fun y => ?_⟩
        cases hy : there y with
        | false => simp only [hy]; rw [Bool.and_false]
        | true => have h2 := hinr y hy; have h3 := h1 y h2.1 (by omega); rw [hy] at h3; simp only [hy]; exact h3
      · rintro ⟨_, h1⟩ y _ _; exact h1 y
    have hl' : true = true ↔ ∃ y, x9 - 1 < y ∧ there y = true := ⟨fun _ => ⟨x9, by omega, hb2⟩, fun _ => rfl⟩
    refine bc (fun h10 => ⟨⟨rfl, by omega, by omega, hl', .inr ⟨by omega, hfree.1 h10, fun y hy _ => by omega⟩⟩, hms⟩) fun h10 => ⟨⟨rfl, by omega, by omega, hl', ?_⟩, hms⟩
    have hnf : freeM (there, must) x9 = false := by
      cases hf : freeM (there, must) x9 with
      | false => rfl
      | true => rw [hfree.2 hf] at h10; cases h10
    rcases hbest with ⟨h1, h2⟩ | ⟨h1, h2, h3⟩
    · refine .inl ⟨h1, fun y hy => ?_⟩
      by_cases e : y = x9
      · rw [e]; exact hnf
      · exact h2 y (by omega)
    · refine .inr ⟨by omega, h2, fun y hy hf => ?_⟩
      by_cases e : y = x9
      · rw [e, hnf] at hf; cases hf
      · exact h3 y (by omega) hf
  have h9 : x9 = -1 := by have := of_decide_eq_false hend; omega
  subst h9
  refine bc (fun hno => ?_) fun hyes => ?_
  · have hno : x8 = false := by simpa using hno
    have : anyT there = false := by
      cases h : anyT there with
      | false => rfl
      | true =>
        obtain ⟨y, hy⟩ := (anyT_iff hinr).1 h
        have := hleft.2 ⟨y, by have := hinr y hy; omega, hy⟩
        rw [hno] at this; cases this
    rw [if_pos this] at hord
    rw [← hord]
    exact ⟨⟨q4, l4, c4, rfl, S13.re, SE.lmax S13⟩, k2.trans k13⟩
  have hyes : x8 = true := by simpa using hyes
  have hany : anyT there = true := by
    obtain ⟨y, _, hy⟩ := hleft.1 hyes
    exact (anyT_iff hinr).2 ⟨y, hy⟩
  rw [if_neg (by rw [hany]; decide)] at hord
  refine bc (fun hneg => ?_) fun hneg => ?_
  · have hneg : x7 < 0 := of_decide_eq_true hneg
    have hnone : ∀ m, freeM (there, must) m = false := fun m => by
      rcases hbest with ⟨_, h2⟩ | ⟨h1, h2, _⟩
      · cases hf : freeM (there, must) m with
        | false => rfl
        | true =>
          have h3 := hinr m ((freeM_iff (t := (there, must)) hinr m).1 hf).1
          rw [h2 m (by omega)] at hf; cases hf
      · have := hinr x7 ((freeM_iff (t := (there, must)) hinr x7).1 h2).1; omega
    rw [leastF_none hnone] at hord
    rw [← hord]
    exact ⟨nil _ _, k2.trans k13⟩
  have hneg : ¬ x7 < 0 := of_decide_eq_false hneg
  obtain ⟨hx1, hx2, hx3⟩ : -1 < x7 ∧ freeM (there, must) x7 = true ∧ ∀ y, -1 < y → freeM (there, must) y = true → x7 ≤ y := by
    rcases hbest with ⟨h1, _⟩ | h
    · omega
    · exact h
  have hxt : there x7 = true := ((freeM_iff (t := (there, must)) hinr x7).1 hx2).1
  have hxr := hinr x7 hxt
  rw [leastF_some (t := (there, must)) hinr hx2 fun m hm => hx3 m (by have := hinr m ((freeM_iff (t := (there, must)) hinr m).1 hm).1; omega) hm] at hord
  simp only [] at hord
  have hxo : x7 ∉ out := fun hm => by
    have := (hout x7 hm).2
    rw [hxt] at this; cases this
  have hlt := order_fuel hnd (fun y hy => (hout y hy).1) hxo hxr
  refine newBox fun w16 B16 k16 _ => ?_
  obtain ⟨q5, c5, w17, hrun, S17, k17, _, _⟩ := (S13.chgN k16).append1 (t := 35) (ty := 35) (x := x7) elemInt B16 (by simp only [maxLen]; omega) (by show (l4 + 1) * 8 ≤ _; omega) (k13.trans k16).size
  have nb : ∀ {g : Nat} {t : TypeId} {cs : Array Value}, 3 ≠ t → Blk w16 g t cs → ¬ some g = qB q4 := fun ht B e => by
    obtain ⟨cs', B'⟩ := (S13.chgN k16).blk e.symm
    exact ht (B'.type B).1
  have Z16 := k16.blk Z13 fun x => x
  have T16 := k16.blk T13 fun x => x
  have Z17 := k17.blk Z16 (nb (by decide) Z16)
  have T17 := k17.blk T16 (nb (by decide) T16)
  refine ⟨q5, l4 + 1, c5, w17, hrun, onPtr_mk ⟨by omega, by omega, rowB_put (v := false) Z17 hxr fun w18 Z18 k18 => ⟨⟨f, setF there x7 false, out ++ [x7], S17.chg k18 fun g hg e => ?_, Z18, k18.blk T17 (Ne.symm hZT), hord, by omega, hinr.del x7, ?_, fun y hy => ?_, ((k13.trans k16).up k17 fun g hg => ((S13.chgN k16).lt hg.symm).2).up k18 fun g hg => by rw [hg]; exact hZ2⟩, by show 100 - (l4 + 1) < 100 - l4; omega⟩⟩⟩
  · obtain ⟨cs', B'⟩ := S17.blk hg
    rw [e] at B'
    exact absurd (B'.type Z17).1 (by decide)
  · rw [List.nodup_append]
    refine ⟨hnd, by simp, fun a ha c hc => ?_⟩
    rw [List.mem_singleton] at hc
    subst hc
    exact fun e => hxo (e ▸ ha)
  · rw [setF]
    rcases List.mem_append.1 hy with hy | hy
    · have h1 := hout y hy
      refine ⟨h1.1, ?_⟩
      split
      · rfl
      · exact h1.2
    · rw [List.mem_singleton] at hy
      subst hy
      exact ⟨hxr, by rw [if_pos rfl]⟩
end Full
end Go.Proofs.Ytibpbbjlecohiaa
