import Derived.Test.YtdlbmmodlkmofaaDoorPlI
import Derived.Test.YtdlbmmodlkmofaaDoorRf
set_option maxRecDepth 20000
namespace Go.Proofs.YtdlbmmodlkmofaaDoor
open Go Go.Vc Go.RowKit
/-! # all outcomes, gone over -/
theorem elemInt : ElemOk Tryd.prog 47 3 1 8 := ⟨Tryd.underlying47, .int .i64 0, by kernel_rfl, rfl⟩
theorem none_zero {w : World} {q : Option Addr} {l : Nat} {xs : List Int} (h : RE En.int w q l xs) (hq : q = none) : l = 0 := by
  rcases Nat.eq_zero_or_pos l with h0 | h0
  · exact h0
  · obtain ⟨a, _, ha, _⟩ := h.ex h0
    rw [hq] at ha; cases ha
theorem clone52 {w : World} {q : Option Addr} {l c : Nat} {xs : List Int} (h : RE En.int w q l xs) (hl : l ≤ 17592186044416) :
    Calls Tryd.prog 52 #[.slice q l c] w (Ret fun v w' => ∃ q' c', v = .slice q' l c' ∧ SE En.int w' w.heap.size 3 q' l c' xs ∧ Chg none_ w w') := by
  refine f52.calls _ _ _ ?_
  unfold f52.wp
  refine ⟨_, w, run_eqnil Tryd.underlying47 q l c, ?_⟩
  refine bc (fun hn => ?_) (fun hn => ?_)
  · have hq : q = none := by simpa using hn
    have h0 := none_zero h hq
    subst h0 hq
    have hx : xs = [] := List.eq_nil_of_length_eq_zero h.len
    subst hx
    exact ⟨none, 0, rfl, SE.nil _ _ _ _, Chg.refl _ _⟩
  intro w1 e1
  have B1 := new_blk e1
  have k1 := (Chg.refl none_ w).new' e1
  have s1 : SE En.int w1 w.heap.size 3 (some ⟨w.heap.size, 0, none⟩) 0 0 [] := SE.lit B1 (Nat.le_refl _) (fun n v hv => by simp [En.flat] at hv) rfl (Nat.le_refl _) (Nat.zero_le _) (by simp)
  obtain ⟨q', c', w2, hr, s2, k2, _⟩ := s1.append (t := 47) (ty := 47) (m := l) (c2 := c) elemInt (h.chg k1) (by simp only [maxLen]; omega) (by omega) k1.size
  rw [Nat.zero_add] at hr s2
  exact ⟨q', l, c', w2, hr, q', c', rfl, by simpa using s2, Chg.up k1 k2 (fun k hk => by simp [qB] at hk; omega)⟩
/-- what the closure holds -/
structure OutS (w : World) (b5 b2 b3 : Nat) (q1 : Option Addr) (c1 : Nat) (q2 : Option Addr) (c2 l m : Nat) (ps ts : List Int) : Prop where
  n : Blk w b5 3 #[.int .i64 (((cnt m l).1 : Nat) : Int)]
  p : Blk w b2 47 #[.slice q1 l c1]
  t : Blk w b3 47 #[.slice q2 m c2]
  sp : SE En.int w 0 3 q1 l c1 ps
  st : SE En.int w 0 3 q2 m c2 ts
section
variable {w w' : World} {b5 b2 b3 : Nat} {q1 q2 : Option Addr} {c1 c2 l m : Nat} {ps ts : List Int}
theorem OutS.chg (O : OutS w b5 b2 b3 q1 c1 q2 c2 l m ps ts) {S : Nat → Prop} (c : Chg S w w') {N : Nat} (hN : ∀ k, S k → N ≤ k) (h5 : b5 < N) (h2 : b2 < N) (h3 : b3 < N) (hp : ∀ g, qB q1 = some g → g < N) (ht : ∀ g, qB q2 = some g → g < N) : OutS w' b5 b2 b3 q1 c1 q2 c2 l m ps ts :=
  have no : ∀ k, k < N → ¬ S k := fun k hk hs => by have := hN k hs; omega
  ⟨c.blk O.n (no _ h5), c.blk O.p (no _ h2), c.blk O.t (no _ h3), O.sp.chg c (fun g hg => no g (hp g hg)), O.st.chg c (fun g hg => no g (ht g hg))⟩
/-- each outcome in turn; the rounds write into what was new when the iterator was made -/
theorem gone53 (O : OutS w b5 b2 b3 q1 c1 q2 c2 l m ps ts) {N : Nat} (h5 : b5 < N) (h2 : b2 < N) (h3 : b3 < N) (hp : ∀ g, qB q1 = some g → g < N) (ht : ∀ g, qB q2 = some g → g < N) (hNw : N ≤ w.heap.size) (hm : m ≤ 17592186044416)
    (lp : Nat) (J : Nat → World → Prop) (Jx : World → Prop) (hJ : J 0 w)
    (hy : ∀ i w1 w2 q, i < (cnt m l).1 → N ≤ w1.heap.size → J i w1 → Chg none_ w1 w2 → SE En.t3 w2 w1.heap.size 44 q l l (outc ps ts m i) →
      YieldTo Tryd.prog lp #[.slice q l l] w2 fun b w3 => Chg (fun k => N ≤ k) w2 w3 ∧ (b = true → J (i + 1) w3) ∧ (b = false → Jx w3)) :
    Calls Tryd.prog 53 #[.func (.yield lp) #[] #[], .pointer (some (ad b5)), .pointer (some (ad b2)), .pointer (some (ad b3))] w (Ret fun _ w' => J (cnt m l).1 w' ∨ Jx w') := by
  refine f53_y.calls _ _ _ _ ?_
  unfold f53_y.wp
  refine onPtr_mk ⟨_, (O.n.cell 0).trans rfl, fun x w' => ∃ i : Nat, x = i ∧ i ≤ (cnt m l).1 ∧ J i w' ∧ OutS w' b5 b2 b3 q1 c1 q2 c2 l m ps ts ∧ N ≤ w'.heap.size, fun x _ => (cnt m l).1 - x.toNat, ⟨0, rfl, Nat.zero_le _, hJ, O, hNw⟩, ?_⟩
  rintro x w1 ⟨i, rfl, hi, hj, O1, hn1⟩
  refine bc (fun hlt => ?_) (fun hge => ?_)
  · have hi' : i < (cnt m l).1 := by have := of_decide_eq_true hlt; omega
    have hc : (cnt m l).2 = 0 := by
      unfold cnt at hi' ⊢
      split
      · rfl
      · rename_i hh; rw [if_neg hh] at hi'; simp at hi'
    have hb := cnt_ok hc
    refine onPtr_mk ⟨_, _, _, (O1.p.cell 0).trans rfl, onPtr_mk ⟨_, _, _, (O1.t.cell 0).trans rfl, Calls.use (outcome51S O1.sp.re O1.st.re hb.1 hm (by omega)) ?_⟩⟩
    rintro _ w2 ⟨q, rfl, s2, k2⟩
    refine ⟨_, _, _, rfl, (hy i w1 w2 q hi' hn1 hj k2 s2).mono fun b w3 ⟨c3, ht', hf'⟩ => ?_⟩
    cases b with
    | false => exact bcT rfl (.inr (hf' rfl))
    | true =>
      have O3 := (O1.chg (S := none_) k2 (N := N) (fun _ h => h.elim) h5 h2 h3 hp ht).chg c3 (fun _ h => h) h5 h2 h3 hp ht
      rw [wrapS (x := (i : Int) + 1) (by omega) (by omega)]
      exact bcF rfl ⟨⟨i + 1, rfl, hi', ht' rfl, O3, Nat.le_trans hn1 (Nat.le_trans k2.size c3.size)⟩, meas hi'⟩
  · have : i = (cnt m l).1 := by have := of_decide_eq_false hge; omega
    subst this
    exact .inl hj
end
theorem outcomes26 {w : World} {q1 q2 : Option Addr} {l c1 m c2 : Nat} {ps ts : List Int} (h1 : RE En.int w q1 l ps) (h2 : RE En.int w q2 m ts) (hl : l ≤ 17592186044416) (hm : m ≤ 17592186044416) :
    Calls Tryd.prog 26 #[.slice q1 l c1, .slice q2 m c2] w (Ret fun v w' => ∃ b5 b2 b3 q1 c1 q2 c2, v = .func (.func 53) #[] #[.pointer (some (ad b5)), .pointer (some (ad b2)), .pointer (some (ad b3))] ∧ OutS w' b5 b2 b3 q1 c1 q2 c2 l m ps ts ∧ Chg none_ w w' ∧
      w.heap.size ≤ b5 ∧ w.heap.size ≤ b2 ∧ w.heap.size ≤ b3 ∧ (∀ g, qB q1 = some g → w.heap.size ≤ g) ∧ (∀ g, qB q2 = some g → w.heap.size ≤ g)) := by
  refine f26.calls _ _ _ _ _ _ ?_
  unfold f26.wp
  refine newBox fun w1 A1 k1 s1 => newBox fun w2 B2 k2 s2 => ?_
  have A2 := k2.blk A1 (fun x => x)
  have k02 := (k1.trans k2).drew
  have A2' := A2.drew
  have B2' := B2.drew
  have z2 : w2.drew.heap.size = w1.heap.size + 1 := s2
  generalize w2.drew = w2' at *
  refine ⟨fun p => p.block < w2'.heap.size, _, _, _, A2'.lt, (A2'.cell 0).trans rfl, _, _, _, B2'.lt, (B2'.cell 0).trans rfl, Calls.use (clone52 (h1.chg k02) hl) ?_⟩
  rintro _ w3 ⟨q3, c3, rfl, p3, k3⟩
  have k03 := k02.trans k3
  refine ⟨_, _, _, rfl, k3.keeps, Calls.use (clone52 (h2.chg k03) hm) ?_⟩
  rintro _ w4 ⟨q4, c4, rfl, t4, k4⟩
  have p4 := p3.chgN k4
  have A4 := k4.blk (k3.blk A2' (fun x => x)) (fun x => x)
  have B4 := k4.blk (k3.blk B2' (fun x => x)) (fun x => x)
  have k04 := k03.trans k4
  have z3 := k3.size
  refine ⟨_, _, _, rfl, A4.canStore (by simp), fun w5 e5 => ?_⟩
  have A5 := A4.over e5 rfl
  have c5 : Chg (fun k => k = w.heap.size) w4 w5 := (Chg.refl _ w4).sets' e5 (.inl rfl)
  have k05 := k04.sets' e5 (.inr (Nat.le_refl _))
  have B5 := c5.blk B4 (by omega)
  have p5 := p4.chg c5 (fun g hg => by have := (p4.lt hg).2; omega)
  have t5 := t4.chg c5 (fun g hg => by have := (t4.lt hg).2; omega)
  refine ⟨B5.canStore (by simp), fun w6 e6 => ?_⟩
  have B6 := B5.over e6 rfl
  have c6 : Chg (fun k => k = w1.heap.size) w5 w6 := (Chg.refl _ w5).sets' e6 (.inl rfl)
  have k06 := k05.sets' e6 (.inr (show w.heap.size ≤ w1.heap.size by omega))
  have A6 := c6.blk A5 (by omega)
  have p6 := p5.chg c6 (fun g hg => by have := (p5.lt hg).2; omega)
  have t6 := t5.chg c6 (fun g hg => by have := (t5.lt hg).2; omega)
  refine ⟨_, _, _, (A6.cell 0).trans rfl, _, _, _, (B6.cell 0).trans rfl, Calls.use (count21 w6 (by omega) hm) ?_⟩
  rintro _ _ ⟨rfl, rfl⟩
  refine ⟨_, _, rfl, fun w8 e8 => ?_⟩
  have N8 := new_blk e8
  have k8 := (Chg.refl none_ w6).new' e8
  refine ⟨N8.canStore (by simp), fun w9 e9 => ?_⟩
  have N9 := N8.over e9 rfl
  have c9 : Chg (fun k => k = w6.heap.size) w8 w9 := (Chg.refl _ w8).sets' e9 (.inl rfl)
  have k69 : Chg none_ w6 w9 := k8.sets' e9 (.inr (Nat.le_refl _))
  have k09 := k06.trans k69
  have hz := k06.size
  exact ⟨_, _, _, q3, c3, q4, c4, rfl, ⟨N9, k69.blk A6 (fun x => x), k69.blk B6 (fun x => x), (p6.chgN k69).lower (Nat.zero_le _), (t6.chgN k69).lower (Nat.zero_le _)⟩, k09, hz, Nat.le_refl _, by omega, fun g hg => by have := (p6.lt hg).2; omega, fun g hg => by have := (t6.lt hg).2; omega⟩
end Go.Proofs.YtdlbmmodlkmofaaDoor
