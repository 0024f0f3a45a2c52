import Derived.Test.YtdlbmmodlkmofaaDoorPlH
set_option maxRecDepth 20000
namespace Go.Proofs.YtdlbmmodlkmofaaDoor
open Go Go.Vc Go.RowKit
def nthV (m l : Nat) (k : Int) (ps ts : List Int) : List T3 × Int := if (cnt m l).2 ≠ 0 then ([], (cnt m l).2) else if k < 0 ∨ ((cnt m l).1 : Int) ≤ k then ([], 4) else (outc ps ts m k.toNat, 0)
theorem cnt_ok {m l : Nat} (h : (cnt m l).2 = 0) : l ≤ 64 ∧ (cnt m l).1 ≤ 65536 := by
  unfold cnt at h ⊢
  split
  · rename_i hh; exact hh
  · rename_i hh; rw [if_neg hh] at h; cases h
def NthR (w : World) (m l : Nat) (k : Int) (ps ts : List Int) (v : Value) (w' : World) : Prop :=
  ∃ q l' c', v = .tuple #[.slice q l' c', .int .i64 (nthV m l k ps ts).2] ∧ RE En.t3 w' q l' (nthV m l k ps ts).1 ∧ Chg none_ w w'
theorem nth23 {w : World} {q1 q2 : Option Addr} {l c1 m c2 : Nat} {k : Int} {ps ts : List Int} (h1 : RE En.int w q1 l ps) (h2 : RE En.int w q2 m ts) (hl : l ≤ 9223372036854775807) (hm : m ≤ 17592186044416) :
    Calls Tryd.prog 23 #[.slice q1 l c1, .slice q2 m c2, .int .i64 k] w (Ret (NthR w m l k ps ts)) := by
  refine f23.calls _ _ _ _ _ _ _ ?_
  unfold f23.wp
  refine Calls.use (count21 w hl hm) ?_
  rintro _ _ ⟨rfl, rfl⟩
  refine ⟨_, _, rfl, bc (fun h => ?_) (fun h => ?_)⟩
  · have h : (cnt m l).2 ≠ 0 := by simpa using h
    exact ⟨_, _, _, by rw [nthV, if_pos h], by rw [nthV, if_pos h]; exact RE.nil _ _ _, Chg.refl _ _⟩
  have h : (cnt m l).2 = 0 := by simpa using h
  have hc := cnt_ok h
  refine bc (fun h1 => ?_) (fun h0 => bc (fun h1 => ?_) (fun hlt => ?_))
  · have h1 := of_decide_eq_true h1
    exact ⟨_, _, _, by rw [nthV, if_neg (by simp [h]), if_pos (.inl h1)], by rw [nthV, if_neg (by simp [h]), if_pos (.inl h1)]; exact RE.nil _ _ _, Chg.refl _ _⟩
  · have h1 := of_decide_eq_true h1
    exact ⟨_, _, _, by rw [nthV, if_neg (by simp [h]), if_pos (.inr h1)], by rw [nthV, if_neg (by simp [h]), if_pos (.inr h1)]; exact RE.nil _ _ _, Chg.refl _ _⟩
  · have h0 := of_decide_eq_false h0
    have hlt := of_decide_eq_false hlt
    obtain ⟨n, rfl⟩ : ∃ n : Nat, k = n := ⟨k.toNat, by omega⟩
    refine Calls.use (outcome51 h1 h2 hc.1 hm (by omega)) ?_
    rintro _ w2 ⟨q, rfl, hq, k2⟩
    exact ⟨_, _, _, rfl, q, l, l, by rw [nthV, if_neg (by simp [h]), if_neg (by omega)], by rw [nthV, if_neg (by simp [h]), if_neg (by omega)]; exact hq, k2⟩
theorem nth24 {w : World} {q1 q2 : Option Addr} {l c1 m c2 : Nat} {k : Int} {ps ts : List Int} (h1 : RE En.int w q1 l ps) (h2 : RE En.int w q2 m ts) (hl : l ≤ 9223372036854775807) (hm : m ≤ 17592186044416) :
    Calls Tryd.prog 24 #[.slice q1 l c1, .slice q2 m c2, .int .i64 k] w (Ret (NthR w m l k ps ts)) := by
  refine f24.calls _ _ _ _ _ _ _ ?_
  unfold f24.wp
  refine Calls.use (count22 w hl hm) ?_
  rintro _ _ ⟨rfl, rfl⟩
  refine ⟨_, _, rfl, bc (fun h => ?_) (fun h => ?_)⟩
  · have h : (cnt m l).2 ≠ 0 := by simpa using h
    exact ⟨_, _, _, by rw [nthV, if_pos h], by rw [nthV, if_pos h]; exact RE.nil _ _ _, Chg.refl _ _⟩
  have h : (cnt m l).2 = 0 := by simpa using h
  have hc := cnt_ok h
  refine bc (fun h1 => ?_) (fun h0 => bc (fun h1 => ?_) (fun hlt => ?_))
  · have h1 := of_decide_eq_true h1
    exact ⟨_, _, _, by rw [nthV, if_neg (by simp [h]), if_pos (.inl h1)], by rw [nthV, if_neg (by simp [h]), if_pos (.inl h1)]; exact RE.nil _ _ _, Chg.refl _ _⟩
  · have h1 := of_decide_eq_true h1
    exact ⟨_, _, _, by rw [nthV, if_neg (by simp [h]), if_pos (.inr h1)], by rw [nthV, if_neg (by simp [h]), if_pos (.inr h1)]; exact RE.nil _ _ _, Chg.refl _ _⟩
  have h0 := of_decide_eq_false h0
  have hlt := of_decide_eq_false hlt
  obtain ⟨n, rfl⟩ : ∃ n : Nat, k = n := ⟨k.toNat, by omega⟩
  have e1 := h1.len
  refine ⟨by omega, by omega, by omega, by omega, newBox fun w1 B1 k1 s1 => ?_⟩
  simp only [Int.toNat_natCast] at B1 ⊢
  have S1 : SE En.t3 w1 w.heap.size 44 (some ⟨w.heap.size, 0, none⟩) l l (List.replicate l (0, 0, 0)) := SE.made (n := l) (x := (0, 0, 0)) B1 rfl (Nat.le_refl _) (by simp only [maxLen]; omega)
  rw [wrapS (x := (l : Int) - 1) (by omega) (by omega), wrapS (x := (m : Int) + 2) (by omega) (by omega)]
  refine ⟨fun x1 x2 w' => ∃ (i n' : Nat) (out : List T3), x2 = (i : Int) - 1 ∧ i ≤ l ∧ x1 = n' ∧ n' ≤ 9223372036854775807 ∧ SE En.t3 w' w.heap.size 44 (some ⟨w.heap.size, 0, none⟩) l l out ∧ outI ps ts m n' i out = outc ps ts m n ∧ Chg none_ w w', fun _ x2 _ => (x2 + 1).toNat, ⟨l, n, _, rfl, Nat.le_refl _, rfl, by omega, S1, by rw [outc, e1], k1⟩, ?_⟩
  rintro x1 x2 w2 ⟨i, n', out, rfl, hi, rfl, hn, S2, ho, k2⟩
  refine bc (fun hlt => ?_) (fun hge => ?_)
  · obtain ⟨i, rfl⟩ : ∃ j, i = j + 1 := ⟨i - 1, by have := of_decide_eq_true hlt; omega⟩
    have ex : (((i + 1 : Nat) : Int) - 1) = (i : Int) := by omega
    rw [ex]
    obtain ⟨a, p, rfl, hp, hr⟩ := (h1.chg k2).ex (i := i) (by omega)
    have hml : n' % (2 + m) < 2 + m := Nat.mod_lt _ (by omega)
    have hmod : Int.tmod (n' : Int) ((m : Int) + 2) = ((n' % (2 + m) : Nat) : Int) := by
      rw [show ((m : Int) + 2) = ((2 + m : Nat) : Int) by omega]; rfl
    have hdiv : Int.tdiv (n' : Int) ((m : Int) + 2) = ((n' / (2 + m) : Nat) : Int) := by
      rw [show ((m : Int) + 2) = ((2 + m : Nat) : Int) by omega]; rfl
    have hdl : n' / (2 + m) ≤ n' := Nat.div_le_self _ _
    rw [hmod, hdiv, wrapN (n := n' / (2 + m)) (by omega), wrapS (x := (i : Int) - 1) (by omega) (by omega)]
    generalize hd : n' % (2 + m) = d at *
    rw [wrapS (x := (d : Int) + 1) (by omega) (by omega)]
    obtain ⟨a', ha', hcan⟩ := S2.can (i := i) (by omega)
    cases ha'
    have hc0 := hcan 0 3 (by decide)
    rw [add_mk, add_mk, Nat.add_zero] at hc0
    refine ⟨by omega, by omega, onPtr_mk ⟨by omega, by omega, p, reads_one' hr, by omega, by omega, by rw [add_mk]; exact hc0, fun w4 e4 => ?_⟩⟩
    obtain ⟨S4, k4⟩ := S2.set rfl (i := i) (x' := (p, (d : Int) + 1, 0)) (by omega) e4
    have k04 : Chg none_ w w4 := k2.up k4 fun j hj => by simp [qB] at hj; omega
    have hms : ((i : Int) - 1 + 1).toNat < ((i : Int) + 1).toNat := by omega
    refine bc (fun h2' => ?_) (fun h2' => ⟨⟨i, n' / (2 + m), _, rfl, by omega, rfl, by omega, S4, ?_, k04⟩, hms⟩)
    · have hd2 : 2 ≤ d := by have := of_decide_eq_true h2'; omega
      have k04' := k04.drew
      have S4' := S4.drew
      generalize w4.drew = w4' at *
      obtain ⟨a3, p3, ha3, hp3, hr3⟩ := (h1.chg k04').ex (i := i) (by omega)
      cases ha3
      rw [hp] at hp3; cases hp3
      obtain ⟨b, t, rfl, ht, hrt⟩ := (h2.chg k04').ex (i := d - 2) (by omega)
      obtain ⟨a', ha', hcan⟩ := S4'.can (i := i) (by omega)
      cases ha'
      have hc0 := hcan 0 3 (by decide)
      rw [add_mk, add_mk, Nat.add_zero] at hc0
      rw [wrapS (x := (d : Int) - 2) (by omega) (by omega)]
      refine onPtr_mk ⟨by omega, by omega, p, reads_one' hr3, onPtr_mk ⟨by omega, by omega, t, ?_, by omega, by omega, by rw [add_mk]; exact hc0, fun w5 e5 => ?_⟩⟩
      · rw [show ((d : Int) - 2).toNat = d - 2 by omega]; exact reads_one' hrt
      obtain ⟨S5, k5⟩ := S4'.set rfl (i := i) (x' := (p, 3, t)) (by omega) e5
      have k05 : Chg none_ w w5 := k04'.up k5 fun j hj => by simp [qB] at hj; omega
      refine ⟨⟨i, n' / (2 + m), _, rfl, by omega, rfl, by omega, S5, ?_, k05⟩, hms⟩
      rw [← ho, outI, hd, hp]
      have : fateOf ((some p).getD 0) ts d = (p, 3, t) := by simp [fateOf, show d ≠ 0 by omega, show d ≠ 1 by omega, ht]
      rw [this, List.set_set]
    · have h2' : ¬ (2 ≤ d) := by have := of_decide_eq_false h2'; omega
      rw [← ho, outI, hd, hp]
      have : fateOf ((some p).getD 0) ts d = (p, (d : Int) + 1, 0) := by
        have : d = 0 ∨ d = 1 := by omega
        rcases this with rfl | rfl <;> rfl
      rw [this]
  · obtain rfl : i = 0 := by have := of_decide_eq_false hge; omega
    exact ⟨_, _, _, by rw [nthV, if_neg (by simp [h]), if_neg (by omega)], by rw [nthV, if_neg (by simp [h]), if_neg (by omega), Int.toNat_natCast, ← ho]; exact S2.re, k2⟩
theorem sameFates25 {w : World} {q1 q2 : Option Addr} {l c1 m c2 : Nat} {xs : List T3} (h1 : RE En.t3 w q1 l xs) (h2 : RE En.t3 w q2 m xs) (hl : l ≤ 9223372036854775807) :
    Calls Tryd.prog 25 #[.slice q1 l c1, .slice q2 m c2] w (Ret fun v w' => v = .bool true ∧ Chg none_ w w') := by
  refine f25.calls _ _ _ _ _ _ ?_
  unfold f25.wp
  have e1 := h1.len
  obtain rfl : l = m := e1.symm.trans h2.len
  refine bcF (by simp) ⟨fun x w' => ∃ i : Nat, x = i ∧ i ≤ l ∧ Chg none_ w w', fun x _ => l - x.toNat, ⟨0, rfl, Nat.zero_le _, Chg.refl _ _⟩, ?_⟩
  rintro x w1 ⟨i, rfl, hi, k1⟩
  refine bc (fun hlt => ?_) (fun hge => ⟨rfl, k1⟩)
  have hi' : i < l := by simpa using hlt
  obtain ⟨a, u, rfl, hu, hru⟩ := (h1.chg k1.drew).ex hi'
  obtain ⟨b, v, rfl, hv, hrv⟩ := (h2.chg k1.drew).ex hi'
  rw [hu] at hv; cases hv
  rw [wrapS (x := (i : Int) + 1) (by omega) (by omega)]
  exact onPtr_mk ⟨by omega, by omega, _, _, _, hru, onPtr_mk ⟨by omega, by omega, _, _, _, hrv, bcF (by simp) ⟨⟨i + 1, by omega, hi', k1.drew⟩, meas hi'⟩⟩⟩
theorem sameFaults49 {w : World} {q1 q2 : Option Addr} {l c1 m c2 : Nat} {xs : List T3} (h1 : RE En.t3 w q1 l xs) (h2 : RE En.t3 w q2 m xs) (hl : l ≤ 9223372036854775807) :
    Calls Tryd.prog 49 #[.slice q1 l c1, .slice q2 m c2] w (Ret fun v w' => v = .bool true ∧ Chg none_ w w') := by
  refine f49.calls _ _ _ _ _ _ ?_
  unfold f49.wp
  have e1 := h1.len
  obtain rfl : l = m := e1.symm.trans h2.len
  refine bcF (by simp) ⟨fun x w' => ∃ i : Nat, x = i ∧ i ≤ l ∧ Chg none_ w w', fun x _ => l - x.toNat, ⟨0, rfl, Nat.zero_le _, Chg.refl _ _⟩, ?_⟩
  rintro x w1 ⟨i, rfl, hi, k1⟩
  refine bc (fun hlt => ?_) (fun hge => ⟨rfl, k1⟩)
  have hi' : i < l := by simpa using hlt
  obtain ⟨a, u, rfl, hu, hru⟩ := (h1.chg k1.drew).ex hi'
  obtain ⟨b, v, rfl, hv, hrv⟩ := (h2.chg k1.drew).ex hi'
  rw [hu] at hv; cases hv
  rw [wrapS (x := (i : Int) + 1) (by omega) (by omega)]
  exact onPtr_mk ⟨by omega, by omega, _, _, _, hru, onPtr_mk ⟨by omega, by omega, _, _, _, hrv, bcF (by simp) ⟨⟨i + 1, by omega, hi', k1.drew⟩, meas hi'⟩⟩⟩
theorem counts6 {w : World} {q1 q2 : Option Addr} {l c1 m c2 : Nat} (k st : Int) {ps ts : List Int} (h1 : RE En.int w q1 l ps) (h2 : RE En.int w q2 m ts) (hl : l ≤ 17592186044416) (hm : m ≤ 17592186044416) :
    Calls Tryd.prog 6 #[.agg #[.slice q1 l c1, .slice q2 m c2, .int .i64 k, .int .i64 st]] w (Ret fun v w' => v = .bool true ∧ Chg none_ w w') := by
  refine f6.calls _ _ _ _ _ _ _ _ ?_
  unfold f6.wp
  refine newBox fun w1 B1 k1 _ => Calls.use (awake12 w1) ?_
  rintro _ w2 ⟨rfl, k2⟩
  have B2 := k2.blk B1 (fun x => x)
  have k02 := k1.trans k2
  refine ⟨_, rfl, bcF rfl ⟨_, _, _, (B2.cell 0).trans rfl, _, _, _, (B2.cell0 1).trans rfl, Calls.use (count21 w2 (by omega) hm) ?_⟩⟩
  rintro _ _ ⟨rfl, rfl⟩
  refine ⟨_, _, rfl, _, _, _, (B2.cell 0).trans rfl, _, _, _, (B2.cell0 1).trans rfl, Calls.use (count22 w2 (by omega) hm) ?_⟩
  rintro _ _ ⟨rfl, rfl⟩
  refine ⟨_, _, rfl, bcF (by simp) (bcF (by simp) ⟨_, _, _, (B2.cell 0).trans rfl, _, _, _, (B2.cell0 1).trans rfl, _, (B2.cell0 2).trans rfl, Calls.use (nth23 (h1.chg k02) (h2.chg k02) (by omega) hm) ?_⟩)⟩
  rintro _ w5 ⟨q5, l5, c5, rfl, r5, k5⟩
  have B5 := k5.blk B2 (fun x => x)
  have k05 := k02.trans k5
  refine ⟨_, _, _, _, rfl, _, _, _, (B5.cell 0).trans rfl, _, _, _, (B5.cell0 1).trans rfl, _, (B5.cell0 2).trans rfl, Calls.use (nth24 (h1.chg k05) (h2.chg k05) (by omega) hm) ?_⟩
  rintro _ w6 ⟨q6, l6, c6, rfl, r6, k6⟩
  have hb : l5 ≤ 64 := by
    rw [← r5.len, nthV]
    split
    · simp
    · split
      · simp
      · rename_i hh _
        rw [outc, outI_len, List.length_replicate, h1.len]
        exact (cnt_ok (by simpa using hh)).1
  refine ⟨_, _, _, _, rfl, Calls.use (sameFates25 (r5.chg k6) r6 (by omega)) ?_⟩
  rintro _ w7 ⟨rfl, k7⟩
  exact ⟨_, rfl, bcT rfl ⟨by simp, k05.trans (k6.trans k7)⟩⟩
end Go.Proofs.YtdlbmmodlkmofaaDoor
