import Derived.Test.YtibpbbjlecohiaaLgC
set_option maxRecDepth 20000
namespace Go.Proofs.Ytibpbbjlecohiaa
namespace Full
open Go Go.Vc Go.RowKit
/-! # the document's New and Fits, what they tell -/
theorem mkStepL {W w : World} {L : List (Nat × TypeId × Array Value)} {M : Option Nat} {n : Int} {k : Nat} {t : TypeId} {cs : Array Value} {C : World → Prop} (h : St W w L M) (h1 : 0 ≤ n) (h2 : ((k : Nat) : Int) * n ≤ 281474976710656) (h3 : n ≤ 9223372036854775807) (hC : ∀ w', St W w' ((w.heap.size, t, cs) :: L) M → w'.heap.size = w.heap.size + 1 → C w') :
    0 ≤ n ∧ n ≤ n ∧ ((k : Nat) : Int) * n ≤ 281474976710656 ∧ n ≤ 9223372036854775807 ∧ ∀ w' : World, w' = w.alloc (.cells cs t) → Keeps (fun p => p.block < W.heap.size) W w' ∧ C w' :=
  ⟨h1, Int.le_refl _, h2, h3, fun w' e => ⟨(h.step e).chg.keeps, hC w' (h.step e) (by rw [e]; simp)⟩⟩
def NewL (w : World) (a b c d : Int) (v : Value) (w' : World) : Prop :=
  (¬ (okN a ∧ okN b ∧ okN c ∧ okN d) ∧ v = .tuple #[.pointer none, .int .i64 1] ∧ Chg none_ w w') ∨ ((okN a ∧ okN b ∧ okN c ∧ okN d) ∧ ∃ o, v = .tuple #[.pointer (some o), .int .i64 0] ∧ Chg none_ w w')
theorem leafL {w0 W w : World} {L : List (Nat × TypeId × Array Value)} {a b c d : Int} {cs : Array Value} (hall : okN a ∧ okN b ∧ okN c ∧ okN d) (k0 : Chg none_ w0 W) (h : St W w L none) :
    ∀ w' : World, w' = w.alloc (.cells cs 152) → NewL w0 a b c d (.tuple #[.pointer (some (⟨w.heap.size, 0, none⟩ : Addr)), .int .i64 0]) w' := fun _ e => .inr ⟨hall, _, rfl, k0.trans (h.step e).chg⟩
theorem new58L (w : World) (a b c d : Int) : Calls Try.prog 58 #[.agg #[.int .i64 a, .int .i64 b, .int .i64 c, .int .i64 d]] w (Ret (NewL w a b c d)) := by
  refine f58.calls _ _ _ _ ?_
  unfold f58.wp
  refine newBox fun w1 B1 k1 _ => ⟨_, (B1.cell 0).trans rfl, _, (B1.cell0 1).trans rfl, _, (B1.cell0 2).trans rfl, _, (B1.cell0 3).trans rfl, newBox fun w2 B2 k2 _ => ?_⟩
  have k02 := k1.trans k2
  have A2 := k2.blk B1 (fun x => x)
  have at4 : ∀ i : Nat, i < 4 → ∃ v, [a, b, c, d][i]? = some v ∧ w2.cell? ((⟨w1.heap.size, 0, none⟩ : Addr).add (i * 1)) = some (.int .i64 v) := fun i hi => by
    obtain ⟨v, hv⟩ := get_ex (l := [a, b, c, d]) (i := i) hi
    refine ⟨v, hv, ?_⟩
    rw [Nat.mul_one, B2.cell0]
    rcases i with _ | _ | _ | _ | i
    · cases hv; rfl
    · cases hv; rfl
    · cases hv; rfl
    · cases hv; rfl
    · omega
  refine ⟨fun x w' => ∃ i : Nat, x = i ∧ i ≤ 4 ∧ w2 = w' ∧ ∀ (j : Nat) v, j < i → [a, b, c, d][j]? = some v → okN v, fun x _ => 4 - x.toNat, ⟨0, rfl, by decide, rfl, fun j v hj => by omega⟩, ?_⟩
  rintro x _ ⟨i, rfl, hi, rfl, hin⟩
  refine bc (fun hlt => ?_) (fun hge => ?_)
  · have hi' : i < 4 := by have := of_decide_eq_true hlt; omega
    obtain ⟨v, hv, hc⟩ := at4 i hi'
    have bad : ¬ okN v → ¬ (okN a ∧ okN b ∧ okN c ∧ okN d) := fun hb h => hb (by
      have : v ∈ [a, b, c, d] := List.mem_of_getElem? hv
      simp at this
      rcases this with rfl | rfl | rfl | rfl
      · exact h.1
      · exact h.2.1
      · exact h.2.2.1
      · exact h.2.2.2)
    rw [wrapS (x := (i : Int) + 1) (by omega) (by omega)]
    refine ⟨by omega, by omega, v, hc, bc (fun h => .inl ⟨bad fun ho => ?_, rfl, k02⟩) (fun h0 => bc (fun h => .inl ⟨bad fun ho => ?_, rfl, k02⟩) (fun h1 => ⟨⟨i + 1, by omega, hi', rfl, fun j u hj hu => ?_⟩, ?_⟩))⟩
    · have := of_decide_eq_true h; have := ho.1; omega
    · have := of_decide_eq_true h; have := ho.2; omega
    · rcases Nat.lt_or_ge j i with h2 | h2
      · exact hin j u h2 hu
      · have : j = i := by omega
        subst this
        rw [hv] at hu; cases hu
        have := of_decide_eq_false h0; have := of_decide_eq_false h1
        exact ⟨by omega, by omega⟩
    · show 4 - ((i : Int) + 1).toNat < 4 - (i : Int).toNat
      omega
  have hi4 : i = 4 := by have := of_decide_eq_false hge; omega
  subst hi4
  have ha : okN a := hin 0 a (by decide) rfl
  have hb : okN b := hin 1 b (by decide) rfl
  have hc : okN c := hin 2 c (by decide) rfl
  have hd : okN d := hin 3 d (by decide) rfl
  have hall : okN a ∧ okN b ∧ okN c ∧ okN d := ⟨ha, hb, hc, hd⟩
  obtain ⟨ha0, ha1⟩ := ha
  obtain ⟨hb0, hb1⟩ := hb
  obtain ⟨hc0, hc1⟩ := hc
  obtain ⟨hd0, hd1⟩ := hd
  have D2 := A2.drew
  have k02' := k02.drew
  generalize w2.drew = W at *
  refine ⟨fun p => p.block < W.heap.size, _, D2.lt, (D2.cell 0).trans rfl, _, D2.lt, (D2.cell0 1).trans rfl, _, D2.lt, (D2.cell0 2).trans rfl, _, D2.lt, (D2.cell0 3).trans rfl, ?_⟩
  have S0 : St W W [] none := ⟨Chg.refl _ _, fun b t cs hm => (by cases hm), fun m hm => (by cases hm)⟩
  clear hin at4 hge hi B2 A2 D2 B1 k1 k2 k02
  repeat' (first
    | (refine mkStepL (by assumption) (by omega) (by omega) (by omega) fun w' h' hz' => ?_)
    | (exact leafL hall k02' (by assumption))
    | (refine ⟨?_, ?_⟩))
def fitL (a b c d : Int) (acts : List (List Act)) (picks : List Int) : Int := if ¬ (okN a ∧ okN b ∧ okN c ∧ okN d) then 1 else pmayF acts picks
theorem fits29L {w : World} (a b c d : Int) {z : Hd} {acts : List (List Act)} (hA : ActsR w z acts) (hb : ∀ ys ∈ acts, ys.length ≤ 10000000000000) (hz : z.2.1 ≤ 1000000000000000) {q : Option Addr} {l cp : Nat} {picks : List Int} (hp : RE En.int w q l picks) (hl : l ≤ 1000000000000000) :
    Calls Try.prog 29 #[.agg #[.int .i64 a, .int .i64 b, .int .i64 c, .int .i64 d], .slice z.1 z.2.1 z.2.2, .slice q l cp] w (Ret fun v w' => v = .int .i64 (fitL a b c d acts picks) ∧ Chg none_ w w') := by
  refine f29.calls _ _ _ _ _ _ _ _ _ _ ?_
  unfold f29.wp
  refine newBox fun w1 B1 k1 s1 => ?_
  have hzl := hA.len
  have hpl := hp.len
  refine ⟨_, _, _, _, B1.reads0, Calls.use (new58L w1 a b c d) ?_⟩
  rintro _ w2 (⟨hno, rfl, k2⟩ | ⟨hok, b2, rfl, k2⟩)
  · exact ⟨_, _, rfl, bcT (by decide) ⟨by rw [fitL, if_pos hno], k1.trans k2⟩⟩
  refine ⟨_, _, rfl, bcF (by decide) ?_⟩
  have k02 := k1.trans k2
  have e : fitL a b c d acts picks = pmayF acts picks := by rw [fitL, if_neg (fun h => h hok)]
  rw [e]
  refine Calls.use (acts63 (hA.chg k02) hb hz) ?_
  rintro _ w3 ⟨n, rfl, hn, k3⟩
  have k03 := k02.trans k3
  refine ⟨_, _, rfl, bc (fun h1 => ⟨?_, k03⟩) fun h1 => bc (fun h2 => ⟨?_, k03⟩) fun h2 => bc (fun h3 => ⟨?_, k03⟩) fun h3 => ?_⟩
  · have h1 := of_decide_eq_true h1
    rw [pmayF, if_pos (.inl (by omega))]
  · have h1 := of_decide_eq_false h1
    have h2 := of_decide_eq_true h2
    have := hn (by omega)
    rw [pmayF, if_pos (.inr (.inl (by omega)))]
  · have h3 := of_decide_eq_true h3
    rw [pmayF, if_pos (.inr (.inr (by omega)))]
  have h1 := of_decide_eq_false h1
  have h2 := of_decide_eq_false h2
  have h3 := of_decide_eq_false h3
  have hn := hn (by omega)
  rw [pmayF, if_neg (by omega)]
  refine ⟨fun x1 x2 w' => ∃ j : Nat, x2 = (j : Int) ∧ j ≤ l ∧ x1 = (!(acts.any fun ys => ys.any badA) && !((picks.take j).any badP)) ∧ Chg none_ w w', fun _ x2 _ => l - x2.toNat, ⟨0, rfl, Nat.zero_le _, by simp, k03⟩, ?_⟩
  rintro _ _ w4 ⟨j, rfl, hj, rfl, k4⟩
  refine bc (fun hlt => ?_) fun hge => ?_
  · have hj' : j < l := by simpa using hlt
    obtain ⟨ap, x, hq, hx, hr⟩ := (hp.chg k4).ex hj'
    have hnx := any_next (f := badP) hx
    rw [wrapS (x := (j : Int) + 1) (by omega) (by omega)]
    refine onPtr_q hq ⟨by omega, by omega, _, reads_one' hr, bc (fun hok => bc (fun hge => ?_) fun hge => ?_) fun hok => ?_⟩
    · have hge : x ≥ 0 := of_decide_eq_true hge
      refine ⟨⟨j + 1, by omega, hj', ?_, k4⟩, meas hj'⟩
      rw [hnx, Bool.not_or, ← Bool.and_assoc, hok, Bool.true_and, badP, decide_eq_false (show ¬ x < 0 by omega), Bool.false_or]
      by_cases h : x ≤ 2147483647
      · rw [decide_eq_true h, decide_eq_false (by omega)]; rfl
      · rw [decide_eq_false h, decide_eq_true (by omega)]; rfl
    · have hge : ¬ x ≥ 0 := of_decide_eq_false hge
      refine ⟨⟨j + 1, by omega, hj', ?_, k4⟩, meas hj'⟩
      rw [hnx, Bool.not_or, ← Bool.and_assoc, hok, Bool.true_and, badP, decide_eq_true (show x < 0 by omega)]; rfl
    · refine ⟨⟨j + 1, by omega, hj', ?_, k4⟩, meas hj'⟩
      rw [hnx, Bool.not_or, ← Bool.and_assoc, hok, Bool.false_and]
  · have hjl : j = l := by have := of_decide_eq_false hge; omega
    rw [hjl, List.take_of_length_le (by omega)]
    cases h1 : acts.any fun ys => ys.any badA <;> cases h2 : picks.any badP <;> exact ⟨rfl, k4⟩
end Full
end Go.Proofs.Ytibpbbjlecohiaa
set_option maxRecDepth 20000
namespace Go.Proofs.Ytibpbbjlecohiaa
namespace Full
open Go Go.Vc Go.RowKit
/-! # LatchOrdered -/
def okE (a d : Int) (x : Act) : Bool := if x.1 = 1 ∨ x.1 = 2 then decide (0 ≤ x.2.1) && decide (x.2.1 < a) && decide (x.2.1 < 64) else if x.1 = 10 then decide (0 ≤ x.2.1) && decide (x.2.1 < d) else decide (x.1 = 11)
def endsF (a d : Int) (ys : List Act) : Bool := ys.all (okE a d) && (List.range 64).all fun i : Nat => !heldF ys (i : Int)
theorem all_next {ys : List Act} {f : Act → Bool} {j : Nat} {x : Act} (hx : ys[j]? = some x) : (ys.take (j + 1)).all f = ((ys.take j).all f && f x) := by
  rw [List.take_add_one, hx, List.all_append]; simp
theorem ends_bad {a d : Int} {ys : List Act} {j : Nat} {x : Act} (hx : ys[j]? = some x) (h : okE a d x = false) : endsF a d ys = false := by
  have : ys.all (okE a d) = false := by
    cases hb : ys.all (okE a d) with
    | false => rfl
    | true =>
      have := List.all_eq_true.1 hb x (List.mem_of_getElem? hx)
      rw [h] at this; cases this
  rw [endsF, this]; rfl
theorem ends30 {w : World} (a b c d : Int) {q : Option Addr} {l cp : Nat} {ys : List Act} (h : RE En.act w q l ys) (hl : l ≤ 1000000000000000) :
    Calls Try.prog 30 #[.agg #[.int .i64 a, .int .i64 b, .int .i64 c, .int .i64 d], .slice q l cp] w (Ret fun v w' => v = .bool (endsF a d ys) ∧ Chg none_ w w') := by
  refine f30.calls _ _ _ _ _ _ _ ?_
  unfold f30.wp
  refine newBox fun w1 B1 k1 s1 => ⟨by decide, by decide, by decide, by decide, ?_⟩
  rw [show (Int.toNat 64 * 1) = 64 * 1 from rfl, made_bgB, zero64]
  refine newBox fun w2 B2 k2 s2 => ?_
  have A2 := k2.blk B1 fun x => x
  have k02 := k1.trans k2
  have hlen := h.len
  have hw : w.heap.size < w1.heap.size := B1.lt
  have k2' : Chg none_ w w2 := k02
  have hlt2 := B2.lt
  generalize hZ : w1.heap.size = Z at B2 hw hlt2 ⊢
  refine ⟨fun x1 w' => ∃ j : Nat, x1 = (j : Int) ∧ j ≤ l ∧ Blk w' Z 4 (rowB (heldF (ys.take j))) ∧ Blk w' w.heap.size 24 #[.int .i64 a, .int .i64 b, .int .i64 c, .int .i64 d] ∧ (ys.take j).all (okE a d) = true ∧ Chg none_ w w', fun x1 _ => l - x1.toNat, ⟨0, rfl, Nat.zero_le _, B2, A2, rfl, k02⟩, ?_⟩
  rintro _ w3 ⟨j, rfl, hj, Z3, A3, ha3, k3⟩
  refine bc (fun hlt => ?_) fun hge => ?_
  · have hj' : j < l := by simpa using hlt
    obtain ⟨ax, x, hq, hx, hr⟩ := (h.chg k3).ex hj'
    obtain ⟨k, n, z⟩ := x
    have hnx := heldF_next hx
    have hal := all_next (f := okE a d) hx
    rw [ha3, Bool.true_and] at hal
    rw [wrapS (x := (j : Int) + 1) (by omega) (by omega)]
    refine onPtr_q hq ⟨by omega, by omega, _, _, _, hr, boxed rfl rfl fun w5 B5 k5 s5 => ?_⟩
    have k35 := k3.trans k5
    have Z5 := k5.blk Z3 fun x => x
    have A5 := k5.blk A3 fun x => x
    refine ⟨_, (B5.cell0 0).trans rfl, fun x2 w' => x2 = decide (k = 1 ∨ k = 2) ∧ w' = w5, ?_, ?_⟩
    · rintro x2 _ ⟨rfl, rfl⟩
      refine bc (fun h12 => ?_) fun h12 => ?_
      · have h12 : k = 1 ∨ k = 2 := of_decide_eq_true h12
        have he : okE a d (k, n, z) = (decide (0 ≤ n) && decide (n < a) && decide (n < 64)) := by rw [okE, if_pos h12]
        refine ⟨_, (B5.cell0 1).trans rfl, bc (fun h1 => ⟨?_, k35⟩) fun h1 => ⟨_, (B5.cell0 1).trans rfl, _, (A5.cell 0).trans rfl, bc (fun h2 => ⟨?_, k35⟩) fun h2 => ⟨_, (B5.cell0 1).trans rfl, bc (fun h3 => ⟨?_, k35⟩) fun h3 => ⟨_, (B5.cell0 1).trans rfl, _, (B5.cell 0).trans rfl, ?_⟩⟩⟩⟩
        · have h1 : n < 0 := of_decide_eq_true h1
          rw [ends_bad hx (by rw [he, decide_eq_false (by omega)]; rfl)]
        · have h2 : n ≥ a := of_decide_eq_true h2
          rw [ends_bad hx (by rw [he, decide_eq_false (show ¬ n < a by omega), Bool.and_false]; rfl)]
        · have h3 : n ≥ 64 := of_decide_eq_true h3
          rw [ends_bad hx (by rw [he, decide_eq_false (show ¬ n < 64 by omega), Bool.and_false])]
        · have h1 : ¬ n < 0 := of_decide_eq_false h1
          have h2 : ¬ n ≥ a := of_decide_eq_false h2
          have h3 : ¬ n ≥ 64 := of_decide_eq_false h3
          refine ⟨by show 0 ≤ n; omega, by show n < 64; omega, rowB_put Z5 ⟨by show 0 ≤ n; omega, by show n < 64; omega⟩ fun w7 Z7 k7 => ⟨⟨j + 1, by omega, hj', ?_, k7.blk A5 (by omega), ?_, k35.up k7 fun g hg => by rw [hg]; omega⟩, meas hj'⟩⟩
          · rw [hnx, hstF, if_pos h12]; exact Z7
          · rw [hal, he, decide_eq_true (by omega), decide_eq_true (by omega), decide_eq_true (by omega)]; rfl
      · have h12 : ¬ (k = 1 ∨ k = 2) := of_decide_eq_false h12
        have hz : heldF (ys.take (j + 1)) = heldF (ys.take j) := by rw [hnx, hstF, if_neg h12]
        refine bc (fun h10 => ?_) fun h10 => bc (fun h11 => ⟨⟨j + 1, by omega, hj', by rw [hz]; exact Z5, A5, ?_, k35⟩, meas hj'⟩) fun h11 => ⟨?_, k35⟩
        · have h10 : k = 10 := by simpa using h10
          have he : okE a d (k, n, z) = (decide (0 ≤ n) && decide (n < d)) := by rw [okE, if_neg h12, if_pos h10]
          refine ⟨_, (B5.cell0 1).trans rfl, bc (fun h1 => ⟨?_, k35⟩) fun h1 => ⟨_, (B5.cell0 1).trans rfl, _, (A5.cell0 3).trans rfl, bc (fun h2 => ⟨?_, k35⟩) fun h2 => ⟨⟨j + 1, by omega, hj', by rw [hz]; exact Z5, A5, ?_, k35⟩, meas hj'⟩⟩⟩
          · have h1 : n < 0 := of_decide_eq_true h1
            rw [ends_bad hx (by rw [he, decide_eq_false (by omega)]; rfl)]
          · have h2 : n ≥ d := of_decide_eq_true h2
            rw [ends_bad hx (by rw [he, decide_eq_false (show ¬ n < d by omega), Bool.and_false])]
          · have h1 : ¬ n < 0 := of_decide_eq_false h1
            have h2 : ¬ n ≥ d := of_decide_eq_false h2
            rw [hal, he, decide_eq_true (by omega), decide_eq_true (by omega)]; rfl
        · have h10 : ¬ k = 10 := by simpa using h10
          have h11 : k = 11 := by simpa using h11
          rw [hal, okE, if_neg h12, if_neg h10, decide_eq_true h11]
        · have h10 : ¬ k = 10 := by simpa using h10
          have h11 : ¬ k = 11 := by simpa using h11
          rw [ends_bad hx (by rw [okE, if_neg h12, if_neg h10, decide_eq_false h11])]
    · refine bc (fun h1 => ⟨?_, rfl⟩) fun h1 => ⟨?_, rfl⟩
      · have h1' : k = 1 := by simpa using h1
        rw [decide_eq_true (.inl h1')]; simp [h1']
      · have h1' : ¬ k = 1 := by simpa using h1
        show decide (k = 2) = _
        rw [decide_eq_decide]
        omega
  have hjl : j = l := by have := of_decide_eq_false hge; omega
  rw [hjl, List.take_of_length_le (by omega)] at Z3 ha3
  refine ⟨fun x3 w' => ∃ i : Nat, x3 = (i : Int) ∧ i ≤ 64 ∧ (∀ k : Nat, k < i → heldF ys (k : Int) = false) ∧ w' = w3, fun x3 _ => 64 - x3.toNat, ⟨0, rfl, by decide, fun k hk => by omega, rfl⟩, ?_⟩
  rintro _ _ ⟨i, rfl, hi, hf, rfl⟩
  refine bc (fun hlt => ?_) fun hge => ?_
  · have hi' : i < 64 := by have : (i : Int) < 64 := of_decide_eq_true hlt; omega
    rw [wrapS (x := (i : Int) + 1) (by omega) (by omega)]
    refine ⟨by omega, hi' |> fun h => by show (i : Int) < 64; omega, _, rowB_at Z3 ⟨by omega, by omega⟩, bc (fun hb => ⟨?_, k3⟩) fun hb => ⟨⟨i + 1, by omega, hi', fun k hk => ?_, rfl⟩, meas hi'⟩⟩
    · have : ((List.range 64).all fun i : Nat => !heldF ys (i : Int)) = false := by
        cases hA : (List.range 64).all fun i : Nat => !heldF ys (i : Int) with
        | false => rfl
        | true =>
          have := List.all_eq_true.1 hA i (List.mem_range.2 hi')
          rw [hb] at this; cases this
      rw [endsF, this, Bool.and_false]
    · rcases Nat.lt_or_ge k i with h1 | h1
      · exact hf k h1
      · have : k = i := by omega
        rw [this]; exact hb
  · have hi64 : i = 64 := by have : ¬ (i : Int) < 64 := of_decide_eq_false hge; omega
    have : ((List.range 64).all fun i : Nat => !heldF ys (i : Int)) = true := List.all_eq_true.2 fun k hk => by
      rw [hf k (by rw [hi64]; exact List.mem_range.1 hk)]; rfl
    exact ⟨by rw [endsF, ha3, this]; rfl, k3⟩
end Full
end Go.Proofs.Ytibpbbjlecohiaa
set_option maxRecDepth 20000
namespace Go.Proofs.Ytibpbbjlecohiaa
namespace Full
open Go Go.Vc Go.RowKit
theorem okA_of {a d : Int} (ha : 0 ≤ a) (hd : 0 ≤ d) {x : Act} (h : okE a d x = true) : OkA a.toNat d.toNat x := by
  unfold okE at h
  by_cases h1 : x.1 = 1 ∨ x.1 = 2
  · rw [if_pos h1] at h
    simp only [Bool.and_eq_true, decide_eq_true_eq] at h
    exact .inl ⟨h1, h.1.1, by omega⟩
  · rw [if_neg h1] at h
    by_cases h2 : x.1 = 10
    · rw [if_pos h2] at h
      simp only [Bool.and_eq_true, decide_eq_true_eq] at h
      exact .inr (.inl ⟨h2, h.1, by omega⟩)
    · rw [if_neg h2] at h
      exact .inr (.inr (of_decide_eq_true h))
theorem orderedLaw10 {w : World} (a b c d : Int) {z : Hd} {acts : List (List Act)} (hA : ActsR w z acts) (hb : ∀ ys ∈ acts, ys.length ≤ 10000000000000) (hz : z.2.1 ≤ 1000000000000000) {q : Option Addr} {l cp : Nat} {picks : List Int} (hp : RE En.int w q l picks) (hl : l ≤ 1000000000000000) :
    Calls Try.prog 10 #[.agg #[.int .i64 a, .int .i64 b, .int .i64 c, .int .i64 d, .slice z.1 z.2.1 z.2.2, .slice q l cp]] w (Ret fun v w' => v = .bool true ∧ Chg none_ w w') := by
  refine f10.calls _ _ _ _ _ _ _ _ _ _ ?_
  unfold f10.wp
  refine newBox fun w1 B1 k1 s1 => Calls.use (plays22 w1) ?_
  rintro _ w2 ⟨rfl, k2⟩
  have A2 := k2.blk B1 fun x => x
  have k02 := k1.trans k2
  have hzl := hA.len
  have hG : ∀ {w' : World}, Blk w' w.heap.size 51 #[.int .i64 a, .int .i64 b, .int .i64 c, .int .i64 d, .slice z.1 z.2.1 z.2.2, .slice q l cp] → reads w' (⟨w.heap.size, 0, none⟩ : Addr) [.int .i64 a, .int .i64 b, .int .i64 c, .int .i64 d] := fun B => B.reads fun j v hj => by rcases j with _ | _ | _ | _ | j; exact hj; exact hj; exact hj; exact hj; simp at hj
  refine ⟨_, rfl, bcF rfl ⟨_, _, _, _, hG A2, _, _, _, (A2.cell0 4).trans rfl, _, _, _, (A2.cell0 5).trans rfl, Calls.use (fits29L a b c d (hA.chg k02) hb hz (hp.chg k02) (cp := cp) hl) ?_⟩⟩
  rintro _ w3 ⟨rfl, k3⟩
  have k03 := k02.trans k3
  have A3 := k3.blk A2 fun x => x
  refine ⟨_, rfl, bc (fun _ => ⟨rfl, k03⟩) fun heq => ?_⟩
  have heq : fitL a b c d acts picks = 0 := by simpa using heq
  obtain ⟨hok, hpm⟩ : (okN a ∧ okN b ∧ okN c ∧ okN d) ∧ pmayF acts picks = 0 := by
    unfold fitL at heq
    split at heq
    · cases heq
    · rename_i h; exact ⟨Decidable.not_not.1 h, heq⟩
  refine ⟨_, _, _, (A3.cell0 4).trans rfl, fun x1 w' => ∃ j : Nat, x1 = (j : Int) ∧ j ≤ z.2.1 ∧ (∀ ys ∈ acts.take j, endsF a d ys = true) ∧ Chg none_ w3 w', fun x1 _ => z.2.1 - x1.toNat, ⟨0, rfl, Nat.zero_le _, fun ys hy => by simp at hy, Chg.refl _ _⟩, ?_⟩
  rintro _ w4 ⟨j, rfl, hj, hall, k4⟩
  have A4 := k4.blk A3 fun x => x
  have k04 := k03.trans k4
  refine bc (fun hlt => ?_) fun hge => ?_
  · have hj' : j < z.2.1 := by simpa using hlt
    obtain ⟨ys, hy⟩ := get_ex (l := acts) (i := j) (by omega)
    obtain ⟨_, az, hd, hqz, hcz, hR⟩ := (hA.chg k04).at' hy
    have hlen := hR.len
    have hyl := hb ys (List.mem_of_getElem? hy)
    rw [wrapS (x := (j : Int) + 1) (by omega) (by omega)]
    refine onPtr_q hqz ⟨by omega, by omega, _, _, _, hcz, _, _, _, _, hG A4, Calls.use (ends30 a b c d hR (by omega)) ?_⟩
    rintro _ w5 ⟨rfl, k5⟩
    refine ⟨_, rfl, bc (fun _ => ⟨rfl, k04.trans k5⟩) fun he => ⟨⟨j + 1, by omega, hj', fun zs hzs => ?_, k4.trans k5⟩, meas hj'⟩⟩
    have he : endsF a d ys = true := by simpa using he
    rw [List.take_add_one, hy] at hzs
    rcases List.mem_append.1 hzs with h | h
    · exact hall zs h
    · simp at h; subst h; exact he
  have hjl : j = z.2.1 := by have := of_decide_eq_false hge; omega
  rw [hjl, List.take_of_length_le (by omega)] at hall
  refine ⟨_, _, _, (A4.cell0 4).trans rfl, Calls.use (order27 (hA.chg k04) hb hz) ?_⟩
  rintro _ w6 ⟨⟨q6, l6, c6, rfl, _, _⟩, k6⟩
  have k06 := k04.trans k6
  have A6 := k6.blk A4 fun x => x
  refine ⟨_, _, _, _, rfl, bc (fun _ => ⟨rfl, k06⟩) fun ho => ?_⟩
  have ho : (orderF acts).2 = 0 := by simpa using ho
  have h23 := play23 a b c d (hA.chg k06) hb hz (hp.chg k06) (cp := cp) hl
  refine ⟨_, _, _, _, hG A6, _, _, _, (A6.cell0 4).trans rfl, _, _, _, (A6.cell0 5).trans rfl, Calls.use h23 ?_⟩
  obtain ⟨t1, t2, t3⟩ := play_ordered (picks := picks) hok hpm (fun ys hy x hx => by
    have h1 := hall ys hy
    rw [endsF, Bool.and_eq_true] at h1
    have g1 := hok.1.1
    have g2 := hok.2.2.2.1
    exact okA_of (by omega) (by omega) (List.all_eq_true.1 h1.1 x hx)) (fun ys hy i hi => by
    have h1 := hall ys hy
    rw [endsF, Bool.and_eq_true] at h1
    have g1 := hok.1.2
    have h2 := List.all_eq_true.1 h1.2 i (List.mem_range.2 (by omega))
    simpa using h2) ho
  generalize playT a b c d acts picks = t at t1 t2 t3
  rintro _ w7 ⟨⟨q1, l1, c1, q2, l2, c2, q3, l3, c3, q4, l4, c4, rfl, R1, R2, R3, R4, m1, m2, m3, m4, hf⟩, k7⟩
  refine ⟨_, _, _, _, _, _, _, _, _, _, _, _, _, rfl, boxed rfl rfl fun w9 B9 k9 s9 => bcF (by rw [t1]; rfl) ?_⟩
  have k79 := k7.trans k9
  have k09 := k06.trans k79
  have A9 := k79.blk A6 fun x => x
  have e1 := R1.len
  have e4 := R4.len
  rw [t2] at e4
  rw [t3] at e1 R1
  rw [List.length_map] at e1
  have hl4 : l4 = 0 := e4.symm
  refine ⟨_, _, _, (B9.cell0 3).trans rfl, bcF (by rw [hl4]; rfl) ⟨_, _, _, (B9.cell 0).trans rfl, _, _, _, (A9.cell0 4).trans rfl, bcF (by rw [← e1, hzl]; simp) ⟨_, _, _, (B9.cell 0).trans rfl, ?_⟩⟩⟩
  refine ⟨fun x2 w' => ∃ j : Nat, x2 = (j : Int) ∧ j ≤ l1 ∧ w' = w9, fun x2 _ => l1 - x2.toNat, ⟨0, rfl, Nat.zero_le _, rfl⟩, ?_⟩
  rintro _ _ ⟨j, rfl, hj, rfl⟩
  refine bc (fun hlt => ?_) fun _ => ⟨rfl, k09⟩
  have hj' : j < l1 := by simpa using hlt
  obtain ⟨ys, hy⟩ := get_ex (l := acts) (i := j) (by omega)
  obtain ⟨_, az, hd, hqz, hcz, hR⟩ := (hA.chg k09).at' hy
  have hlen := hR.len
  obtain ⟨a1, x1, hq1, hx1, hr1⟩ := (R1.chg k9).ex hj'
  rw [List.getElem?_map, hy] at hx1
  have hx1 : x1 = (ys.length : Int) := (Option.some.inj hx1).symm
  rw [wrapS (x := (j : Int) + 1) (by omega) (by omega)]
  exact onPtr_q hq1 ⟨by omega, by omega, _, reads_one' hr1, _, _, _, (A9.cell0 4).trans rfl, onPtr_q hqz ⟨by omega, by omega, _, _, _, hcz, bcF (by rw [hx1, hlen]; simp) ⟨⟨j + 1, by omega, hj', rfl⟩, meas hj'⟩⟩⟩
end Full
end Go.Proofs.Ytibpbbjlecohiaa
