import Derived.Test.YtibpbbjlecohiaaLfA
import Derived.Test.YtibpbbjlecohiaaLcJ
import Derived.Test.YtibpbbjlecohiaaLeH
set_option maxRecDepth 20000
namespace Go.Proofs.Ytibpbbjlecohiaa
namespace Full
open Go Go.Vc Go.RowKit
/-! # the document's Act, Counters (printed by lfb.py) -/
section
variable {w w' : World} {base Q o : Nat} {g : GR} {s : R8}
theorem WokeQ.pre {w1 : World} {q : Option Addr} {l : Nat} {r : List Int} {s' : R8} (h : WokeQ w1 w' base Q o g q l r s') (k : Chg none_ w w1) : WokeQ w w' base Q o g q l r s' := by
  obtain ⟨h1, h2, g', I, st, hn⟩ := h
  exact ⟨h1, fun b hb => ⟨Nat.le_trans k.size (h2 b hb).1, (h2 b hb).2⟩, g', I, (StpR.ofN k).trans st, hn⟩
def ActR (w : World) (base Q o : Nat) (g : GR) (k : Int) (d : Told × R8) (v : Value) (w' : World) : Prop :=
  ∃ q l c, v = .tuple #[.bool (actW k d.1), .slice q l c, .int .i64 d.1.err] ∧ WokeQ w w' base Q o g q l d.1.woken d.2
theorem ract59 (h : InvR w base Q o g s) (hm : CondM s) (hQ : Q ≤ 4398046511104) (task k n m : Int) :
    Calls Try.prog 59 #[.pointer (some (ad o)), .int .i64 task, .agg #[.int .i64 k, .int .i64 n, .int .i64 m]] w (Ret (ActR w base (Q + 1) o g k (mustR s task k n m))) := by
  refine f59.calls _ _ _ _ _ ?_
  unfold f59.wp
  refine newBox fun w1 B1 k1 s1 => ?_
  have h1 := h.chgN k1
  refine ⟨fun q1 l1 c1 x1 x2 w2 => x1 = (mustR s task k n m).1.err ∧ (decide (x1 = 0) && !x2) = actW k (mustR s task k n m).1 ∧ WokeQ w w2 base (Q + 1) o g q1 l1 (mustR s task k n m).1.woken (mustR s task k n m).2, ?_, ?_⟩
  · rintro q1 l1 c1 x1 x2 w2 ⟨e1, e2, W⟩
    refine bc (fun hx => ⟨q1, l1, c1, ?_, W⟩) fun hx => ⟨q1, l1, c1, ?_, W⟩
    · have hx : x1 = 0 := by simpa using hx
      rw [← e2, ← e1, hx]; simp
    · have hx : ¬ x1 = 0 := by simpa using hx
      rw [← e2, ← e1, decide_eq_false hx]; simp
  refine ⟨_, (B1.cell0 0).trans rfl, ?_⟩
  refine bc (fun hk => ?_) (fun hk1 => ?_)
  · have hk : k = 1 := by simpa using hk
    subst hk
    refine ⟨_, (B1.cell 1).trans rfl, Calls.use (rLock65 h1 hQ task n) ?_⟩
    rintro _ w4 ⟨rfl, g4, I4, st4⟩
    exact ⟨_, _, rfl, rfl, rfl, (WokeQ.nil I4 st4).pre k1⟩
  refine bc (fun hk => ?_) (fun hk2 => ?_)
  · have hk : k = 2 := by simpa using hk
    subst hk
    refine ⟨_, (B1.cell 1).trans rfl, Calls.use (rUnlock66 h1 hQ task n) ?_⟩
    rintro _ w4 ⟨q, l, c, rfl, hW⟩
    exact ⟨_, _, _, _, rfl, rfl, by simp [actW], (hW.q.up (Nat.le_succ Q)).pre k1⟩
  refine bc (fun hk => ?_) (fun hk3 => ?_)
  · have hk : k = 3 := by simpa using hk
    subst hk
    refine ⟨_, (B1.cell 1).trans rfl, Calls.use (rRLock67 h1 hQ task n) ?_⟩
    rintro _ w4 ⟨rfl, g4, I4, st4⟩
    exact ⟨_, _, rfl, rfl, rfl, (WokeQ.nil I4 st4).pre k1⟩
  refine bc (fun hk => ?_) (fun hk4 => ?_)
  · have hk : k = 4 := by simpa using hk
    subst hk
    refine ⟨_, (B1.cell 1).trans rfl, Calls.use (rRUnlock68 h1 hQ task n) ?_⟩
    rintro _ w4 ⟨q, l, c, rfl, hW⟩
    exact ⟨_, _, _, _, rfl, rfl, by simp [actW], (hW.q.up (Nat.le_succ Q)).pre k1⟩
  refine bc (fun hk => ?_) (fun hk5 => ?_)
  · have hk : k = 5 := by simpa using hk
    subst hk
    refine ⟨_, (B1.cell 1).trans rfl, Calls.use (rWLock69 h1 hQ task n) ?_⟩
    rintro _ w4 ⟨rfl, g4, I4, st4⟩
    exact ⟨_, _, rfl, rfl, rfl, (WokeQ.nil I4 st4).pre k1⟩
  refine bc (fun hk => ?_) (fun hk6 => ?_)
  · have hk : k = 6 := by simpa using hk
    subst hk
    refine ⟨_, (B1.cell 1).trans rfl, Calls.use (rWUnlock70 h1 hQ task n) ?_⟩
    rintro _ w4 ⟨q, l, c, rfl, hW⟩
    exact ⟨_, _, _, _, rfl, rfl, by simp [actW], (hW.q.up (Nat.le_succ Q)).pre k1⟩
  refine bc (fun hk => ?_) (fun hk7 => ?_)
  · have hk : k = 7 := by simpa using hk
    subst hk
    refine ⟨_, (B1.cell 1).trans rfl, _, (B1.cell 2).trans rfl, Calls.use (rWait71 h1 hQ task n m) ?_⟩
    rintro _ w4 ⟨q, l, c, rfl, hW⟩
    exact ⟨_, _, _, _, rfl, rfl, by simp [actW]; rfl, hW.q.pre k1⟩
  refine bc (fun hk => ?_) (fun hk8 => ?_)
  · have hk : k = 8 := by simpa using hk
    subst hk
    refine ⟨_, (B1.cell 1).trans rfl, Calls.use (rSignal72 h1 hQ hm task n) ?_⟩
    rintro _ w4 ⟨q, l, c, rfl, hW⟩
    exact ⟨_, _, _, _, rfl, rfl, by simp [actW], (hW.q.up (Nat.le_succ Q)).pre k1⟩
  refine bc (fun hk => ?_) (fun hk9 => ?_)
  · have hk : k = 9 := by simpa using hk
    subst hk
    refine ⟨_, (B1.cell 1).trans rfl, Calls.use (rBroadcast73 h1 hQ hm task n) ?_⟩
    rintro _ w4 ⟨q, l, c, rfl, hW⟩
    exact ⟨_, _, _, _, rfl, rfl, by simp [actW], (hW.q.up (Nat.le_succ Q)).pre k1⟩
  have hno : ∀ d : Told, actW k d = false := fun d => by
    have hk1 : ¬ k = 1 := by simpa using hk1
    have hk3 : ¬ k = 3 := by simpa using hk3
    have hk5 : ¬ k = 5 := by simpa using hk5
    have hk7 : ¬ k = 7 := by simpa using hk7
    rw [actW, if_neg (by omega), if_neg hk7]
  refine bc (fun hk => ?_) (fun hk10 => ?_)
  · have hk : k = 10 := by simpa using hk
    subst hk
    refine ⟨_, (B1.cell 1).trans rfl, _, (B1.cell 2).trans rfl, Calls.use (rAdd74 h1 hQ task n m) ?_⟩
    rintro _ w4 ⟨rfl, g4, I4, st4⟩
    exact ⟨_, _, rfl, rfl, by simp [actW], ((WokeQ.nil I4 st4).up (Nat.le_succ Q)).pre k1⟩
  have e : mustR s task k n m = (⟨false, [], 0, 0⟩, s) := by
    unfold mustR
    rw [if_neg (by simpa using hk1), if_neg (by simpa using hk2), if_neg (by simpa using hk3), if_neg (by simpa using hk4), if_neg (by simpa using hk5), if_neg (by simpa using hk6), if_neg (by simpa using hk7), if_neg (by simpa using hk8), if_neg (by simpa using hk9), if_neg (by simpa using hk10)]
  rw [e]
  exact ⟨rfl, by rw [hno]; rfl, ((WokeQ.nil h1 (StpR.ofN (Chg.refl _ _))).up (Nat.le_succ Q)).pre k1⟩
theorem elemI64 : ElemOk Try.prog 53 2 1 8 := ⟨Try.underlying53, .int .i64 0, by kernel_rfl, rfl⟩
theorem rcounters60 (h : InvR w base Q o g s) (hn : s.ns.length ≤ 1000000) : Calls Try.prog 60 #[.pointer (some (ad o))] w (Ret fun v w' => ∃ q l c, v = .slice q l c ∧ RE En.int w' q l s.ns ∧ l ≤ maxLen ∧ (∀ b, qB q = some b → w.heap.size ≤ b ∧ b < w'.heap.size) ∧ Chg none_ w w') := by
  refine f60.calls _ ?_
  unfold f60.wp
  refine newBox fun w1 B1 k1 s1 => ?_
  have h1 := h.chgN k1
  have hB := B1.lt
  have E0 : SE En.int w1 w.heap.size 2 (some ⟨w.heap.size, 0, none⟩) 0 0 [] := ⟨rfl, .inr ⟨w.heap.size, 0, #[], rfl, Nat.le_refl _, B1, Nat.le_refl _, Nat.zero_le _, by simp, fun n v hv => by simp [En.flat] at hv⟩⟩
  obtain ⟨q', c', w2, hrun, A, k2, hq, _⟩ := E0.append (t := 53) (ty := 53) (c2 := g.c4) elemI64 h1.ct.re (by simp only [maxLen]; omega) (by show (0 + s.ns.length) * 8 ≤ _; omega) (by omega)
  rw [List.nil_append] at A
  refine onPtr_mk ⟨_, _, _, (h1.obj.cell0 4).trans rfl, _, _, _, _, hrun, q', _, c', rfl, A.re, by simp only [maxLen]; omega, fun b hb => ⟨(A.lt hb).2, (A.lt hb).1⟩, ?_⟩
  exact k1.up k2 fun x hx => by simp [qB] at hx; omega
theorem does_ns (s : S8) (t k n m : Int) : (doesF s t k n m).2.ns.length = s.ns.length := by
  have hl : ∀ (s : S8) (i : Nat), (letS s i).2.ns = s.ns := fun s i => by
    unfold letS
    split
    · split
      · unfold letF; split <;> rfl
      · rfl
    · rfl
  have hN : ∀ (j : Nat) (s : S8) (i : Nat), (letN j s i).2.ns = s.ns := fun j => by
    induction j with
    | zero => intro s i; rfl
    | succ j ih => intro s i; exact (ih (letS s i).2 i).trans (hl s i)
  unfold doesF
  split
  · unfold lockF; split
    · rfl
    · split
      · rfl
      · split
        · rfl
        · split <;> rfl
  split
  · unfold unlockF; split
    · rfl
    · split
      · rfl
      · split
        · rfl
        · exact congrArg List.length (handF_cs s n.toNat _).2.2.2
  split
  · unfold takeF; split
    · rfl
    · split
      · rfl
      · split
        · rfl
        · split <;> rfl
  split
  · unfold runF; split
    · rfl
    · split
      · rfl
      · split <;> rfl
  split
  · unfold takeF; split
    · rfl
    · split
      · rfl
      · split
        · rfl
        · split <;> rfl
  split
  · unfold wunF; split
    · rfl
    · split
      · rfl
      · split <;> rfl
  split
  · unfold waitF; split
    · rfl
    · split
      · split
        · rfl
        · exact congrArg List.length (handF_cs s m.toNat _).2.2.2
      · rfl
  split
  · unfold sigF; split
    · rfl
    · exact congrArg List.length (hl s _)
  split
  · unfold broF; split
    · rfl
    · exact congrArg List.length (hN _ s _)
  split
  · unfold addF; split
    · rfl
    · split
      · rfl
      · simp
  rfl
end
end Full
end Go.Proofs.Ytibpbbjlecohiaa
set_option maxRecDepth 20000
namespace Go.Proofs.Ytibpbbjlecohiaa
namespace Full
open Go Go.Vc Go.RowKit
/-! # the document's Fits -/
theorem racts63 {w : World} {z : Hd} {acts : List (List Act)} (hA : ActsR w z acts) (hb : ∀ ys ∈ acts, ys.length ≤ 10000000000000) (hz : z.2.1 ≤ 1000000000000000) :
    Calls Try.prog 63 #[.slice z.1 z.2.1 z.2.2] w (Ret fun v w' => ∃ n : Int, v = .tuple #[.int .i64 n, .bool (!(acts.any fun ys => ys.any badA))] ∧ (z.2.1 ≤ 16 → n = (sumL acts : Int)) ∧ Chg none_ w w') := by
  refine f63.calls _ _ _ ?_
  unfold f63.wp
  have hzl := hA.len
  refine ⟨fun x1 x2 x3 w' => ∃ j : Nat, x3 = (j : Int) ∧ j ≤ z.2.1 ∧ x2 = (!((acts.take j).any fun ys => ys.any badA)) ∧ (z.2.1 ≤ 16 → x1 = (sumL (acts.take j) : Int)) ∧ Chg none_ w w', fun _ _ x3 _ => z.2.1 - x3.toNat, ⟨0, rfl, Nat.zero_le _, by simp, fun _ => by simp [sumL], Chg.refl _ _⟩, ?_⟩
  rintro x1 _ _ w1 ⟨j, rfl, hj, rfl, hs, k1⟩
  refine bc (fun hlt => ?_) fun hge => ?_
  · have hj' : j < z.2.1 := by simpa using hlt
    obtain ⟨ys, hy⟩ := get_ex (l := acts) (i := j) (by omega)
    obtain ⟨_, az, hd, hq, hc0, hR⟩ := hA.at' hy
    have hc := k1.cellS hc0 fun x => x
    have hlen := hR.len
    have hyl := hb ys (List.mem_of_getElem? hy)
    rw [wrapS (x := (j : Int) + 1) (by omega) (by omega)]
    refine onPtr_q hq ⟨by omega, by omega, _, _, _, hc, fun x4 x5 w' => ∃ i : Nat, x5 = (i : Int) ∧ i ≤ hd.2.1 ∧ x4 = (!(((acts.take j).any fun ys => ys.any badA) || (ys.take i).any badA)) ∧ Chg none_ w w', fun _ x5 _ => hd.2.1 - x5.toNat, ⟨0, rfl, Nat.zero_le _, by simp, k1⟩, ?_⟩
    rintro _ _ w2 ⟨i, rfl, hi, rfl, k2⟩
    refine bc (fun hlt => ?_) fun hge => ?_
    · have hi' : i < hd.2.1 := by simpa using hlt
      obtain ⟨ax, x, hqx, hx, hr⟩ := (hR.chg k2).ex hi'
      rw [wrapS (x := (i : Int) + 1) (by omega) (by omega)]
      refine onPtr_q hqx ⟨by omega, by omega, _, _, _, hr, boxed rfl rfl fun w4 B4 k4 _ => ?_⟩
      have k04 := k2.trans k4
      have hn := any_next (f := badA) hx
      refine bc (fun hok => ⟨_, (B4.cell 0).trans rfl, bc (fun h1 => ⟨_, (B4.cell 0).trans rfl, ⟨i + 1, by omega, hi', ?_, k04⟩, meas hi'⟩) fun h1 => ⟨⟨i + 1, by omega, hi', ?_, k04⟩, meas hi'⟩⟩) fun hok => ⟨⟨i + 1, by omega, hi', ?_, k04⟩, meas hi'⟩
      · have h1 : 1 ≤ x.1 := of_decide_eq_true h1
        rw [hn, ← Bool.or_assoc, Bool.not_or (x := _ || _), hok, Bool.true_and, badA, decide_eq_true h1]
        simp
      · have h1 : ¬ 1 ≤ x.1 := of_decide_eq_false h1
        rw [hn, ← Bool.or_assoc, Bool.not_or (x := _ || _), hok, Bool.true_and, badA, decide_eq_false h1]
        simp
      · rw [hn, ← Bool.or_assoc, Bool.not_or (x := _ || _), hok, Bool.false_and]
    · have hil : i = hd.2.1 := by have := of_decide_eq_false hge; omega
      refine ⟨⟨j + 1, by omega, hj', ?_, fun h16 => ?_, k2⟩, meas hj'⟩
      · rw [any_next (f := fun ys => ys.any badA) hy, hil, List.take_of_length_le (l := ys) (by omega)]
      · have h1 := sumL_take_le acts hb j
        have h4 : j * 10000000000000 ≤ 16 * 10000000000000 := Nat.mul_le_mul_right _ (by omega)
        rw [hs h16, sum_next hy, wrapS (by omega) (by omega)]
        omega
  have hjl : j = z.2.1 := by have := of_decide_eq_false hge; omega
  rw [hjl, List.take_of_length_le (by omega)] at hs ⊢
  exact ⟨_, rfl, hs, k1⟩
def fitsF (a b c d : Int) (acts : List (List Act)) (picks : List Int) : Int := if ¬ (okN a ∧ okN b ∧ okN c ∧ okN d) then 1 else pmayF acts picks
theorem fits29 {w : World} (a b c d : Int) {z : Hd} {acts : List (List Act)} (hA : ActsR w z acts) (hb : ∀ ys ∈ acts, ys.length ≤ 10000000000000) (hz : z.2.1 ≤ 1000000000000000) {q : Option Addr} {l cp : Nat} {picks : List Int} (hp : RE En.int w q l picks) (hl : l ≤ 1000000000000000) :
    Calls Try.prog 29 #[.agg #[.int .i64 a, .int .i64 b, .int .i64 c, .int .i64 d], .slice z.1 z.2.1 z.2.2, .slice q l cp] w (Ret fun v w' => v = .int .i64 (fitsF a b c d acts picks) ∧ Chg none_ w w') := by
  refine f29.calls _ _ _ _ _ _ _ _ _ _ ?_
  unfold f29.wp
  refine newBox fun w1 B1 k1 s1 => ?_
  have hzl := hA.len
  have hpl := hp.len
  refine ⟨_, _, _, _, B1.reads0, Calls.use (new58 w1 a b c d) ?_⟩
  rintro _ w2 (⟨hno, rfl, k2⟩ | ⟨hok, o, g, rfl, I2, k2⟩)
  · exact ⟨_, _, rfl, bcT (by decide) ⟨by rw [fitsF, if_pos hno], k1.trans k2⟩⟩
  refine ⟨_, _, rfl, bcF (by decide) ?_⟩
  have k02 := k1.trans k2
  have e : fitsF a b c d acts picks = pmayF acts picks := by rw [fitsF, if_neg (fun h => h hok)]
  rw [e]
  refine Calls.use (racts63 (hA.chg k02) hb hz) ?_
  rintro _ w3 ⟨n, rfl, hn, k3⟩
  have k03 := k02.trans k3
  refine ⟨_, _, rfl, bc (fun h1 => ⟨?_, k03⟩) fun h1 => bc (fun h2 => ⟨?_, k03⟩) fun h2 => bc (fun h3 => ⟨?_, k03⟩) fun h3 => ?_⟩
  · have h1 := of_decide_eq_true h1
    rw [pmayF, if_pos (.inl (by omega))]
  · have h1 := of_decide_eq_false h1
    have h2 := of_decide_eq_true h2
    have := hn (by omega)
    rw [pmayF, if_pos (.inr (.inl (by omega)))]
  · have h3 := of_decide_eq_true h3
    rw [pmayF, if_pos (.inr (.inr (by omega)))]
  have h1 := of_decide_eq_false h1
  have h2 := of_decide_eq_false h2
  have h3 := of_decide_eq_false h3
  have hn := hn (by omega)
  rw [pmayF, if_neg (by omega)]
  refine ⟨fun x1 x2 w' => ∃ j : Nat, x2 = (j : Int) ∧ j ≤ l ∧ x1 = (!(acts.any fun ys => ys.any badA) && !((picks.take j).any badP)) ∧ Chg none_ w w', fun _ x2 _ => l - x2.toNat, ⟨0, rfl, Nat.zero_le _, by simp, k03⟩, ?_⟩
  rintro _ _ w4 ⟨j, rfl, hj, rfl, k4⟩
  refine bc (fun hlt => ?_) fun hge => ?_
  · have hj' : j < l := by simpa using hlt
    obtain ⟨ap, x, hq, hx, hr⟩ := (hp.chg k4).ex hj'
    have hnx := any_next (f := badP) hx
    rw [wrapS (x := (j : Int) + 1) (by omega) (by omega)]
    refine onPtr_q hq ⟨by omega, by omega, _, reads_one' hr, bc (fun hok => bc (fun hge => ?_) fun hge => ?_) fun hok => ?_⟩
    · have hge : x ≥ 0 := of_decide_eq_true hge
      refine ⟨⟨j + 1, by omega, hj', ?_, k4⟩, meas hj'⟩
      rw [hnx, Bool.not_or, ← Bool.and_assoc, hok, Bool.true_and, badP, decide_eq_false (show ¬ x < 0 by omega), Bool.false_or]
      by_cases h : x ≤ 2147483647
      · rw [decide_eq_true h, decide_eq_false (by omega)]; rfl
      · rw [decide_eq_false h, decide_eq_true (by omega)]; rfl
    · have hge : ¬ x ≥ 0 := of_decide_eq_false hge
      refine ⟨⟨j + 1, by omega, hj', ?_, k4⟩, meas hj'⟩
      rw [hnx, Bool.not_or, ← Bool.and_assoc, hok, Bool.true_and, badP, decide_eq_true (show x < 0 by omega)]; rfl
    · refine ⟨⟨j + 1, by omega, hj', ?_, k4⟩, meas hj'⟩
      rw [hnx, Bool.not_or, ← Bool.and_assoc, hok, Bool.false_and]
  · have hjl : j = l := by have := of_decide_eq_false hge; omega
    rw [hjl, List.take_of_length_le (by omega)]
    cases h1 : acts.any fun ys => ys.any badA <;> cases h2 : picks.any badP <;> exact ⟨rfl, k4⟩
end Full
end Go.Proofs.Ytibpbbjlecohiaa
