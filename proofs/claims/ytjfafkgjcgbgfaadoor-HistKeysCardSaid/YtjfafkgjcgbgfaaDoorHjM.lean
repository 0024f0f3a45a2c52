import Derived.Test.YtjfafkgjcgbgfaaDoorHjL
set_option maxRecDepth 20000
namespace Go.Proofs.YtjfafkgjcgbgfaaDoor
open Go Go.Vc Go.RowKit
theorem names3 {w : World} (hS : w.ShapedOpen Tryd.prog) : Calls Tryd.prog 3 #[] w (Ret fun v w' => v = .bool true ∧ Chg none_ w w') := by
  refine f3.calls ?_
  unfold f3.wp
  refine Calls.use (awake10 hS) ?_
  rintro _ w1 ⟨rfl, k1⟩
  exact ⟨_, rfl, bcT rfl ⟨rfl, k1⟩⟩
section
variable {w : World} {q : Option Addr} {l c : Nat} {ms : List Mv}
theorem checks4 (hS : w.ShapedOpen Tryd.prog) (H : RE En.mv w q l ms) (hl : l * 80 ≤ 140737488351232) : Calls Tryd.prog 4 #[.slice q l c] w (Ret fun v w' => v = .bool true ∧ Chg none_ w w') := by
  refine f4.calls _ _ _ ?_
  unfold f4.wp
  refine Calls.use (awake10 hS) ?_
  rintro _ w1 ⟨rfl, k1⟩
  refine ⟨_, rfl, bcF rfl (Calls.use (copied11 (H.chg k1) hl) ?_)⟩
  rintro _ w2 ⟨q1, c1, rfl, S2, k2⟩
  refine ⟨_, _, _, rfl, Calls.use (check12 S2.re) ?_⟩
  rintro _ w3 ⟨a, b, rfl, h3, k3⟩
  have k13 := k1.trans (k2.trans k3)
  refine ⟨_, _, rfl, Calls.use (check13 (H.chg k13)) ?_⟩
  rintro _ w4 ⟨a', b', rfl, h4, k4⟩
  obtain ⟨rfl, rfl⟩ := h3.eq h4
  refine ⟨_, _, rfl, bcT (by simp) (bcT (by simp) (Calls.use (same14 ((S2.chgN (k3.trans k4)).re) (H.chg (k13.trans k4)) (by omega)) ?_))⟩
  rintro _ w5 ⟨x, rfl, hx, k5⟩
  exact ⟨_, rfl, by rw [hx rfl], (k13.trans k4).trans k5⟩
theorem widths5 (hS : w.ShapedOpen Tryd.prog) (H : RE En.mv w q l ms) (hl : l * 80 ≤ 140737488351232) (hc : l ≤ c) : Calls Tryd.prog 5 #[.slice q l c] w (Ret fun v w' => v = .bool true ∧ Chg none_ w w') := by
  refine f5.calls _ _ _ ?_
  unfold f5.wp
  refine Calls.use (awake10 hS) ?_
  rintro _ w1 ⟨rfl, k1⟩
  refine ⟨_, rfl, bcT rfl (Calls.use (copied11 (H.chg k1) hl) ?_)⟩
  rintro _ w2 ⟨q1, c1, rfl, S2, k2⟩
  refine ⟨_, _, _, rfl, Calls.use (width15 S2.re S2.le) ?_⟩
  rintro _ w3 ⟨n, rfl, h3, k3⟩
  have k13 := k1.trans (k2.trans k3)
  refine ⟨_, rfl, Calls.use (width16 (H.chg k13) hc) ?_⟩
  rintro _ w4 ⟨n', rfl, h4, k4⟩
  have hck : ∃ a b, Chk ms a b := by
    by_cases h : 4096 < ms.length
    · exact ⟨_, _, .long h⟩
    · by_cases ho : Oks ms ms.length
      · exact ⟨_, _, .ok (by omega) ho⟩
      · have : ∀ n, n ≤ ms.length → Oks ms n ∨ ∃ a b, Chk ms a b := fun n => by
          induction n with
          | zero => exact fun _ => .inl fun i m hi => by omega
          | succ n ih =>
            intro hn
            rcases ih (by omega) with h1 | h1
            · obtain ⟨m, hm⟩ := get_ex (l := ms) (i := n) (by omega)
              by_cases hr : Right ms n m
              · refine .inl fun i p hi hp => ?_
                by_cases e : i = n
                · subst e; rw [hm] at hp; cases hp; exact hr
                · exact h1 i p (by omega) hp
              · exact .inr ⟨_, _, .bad n m (by omega) hm h1 hr⟩
            · exact .inr h1
        rcases this ms.length (Nat.le_refl _) with h1 | h1
        · exact absurd h1 ho
        · exact h1
  obtain ⟨a, b, hck⟩ := hck
  have e := WidIs.eq hck h3 h4
  subst e
  exact ⟨_, rfl, by simp, k13.trans k4⟩
theorem cuts6 (hS : w.ShapedOpen Tryd.prog) (H : RE En.mv w q l ms) (hl : l * 80 ≤ 140737488351232) (s t : Int) : Calls Tryd.prog 6 #[.slice q l c, .int .i64 s, .int .i64 t] w (Ret fun v w' => v = .bool true ∧ Chg none_ w w') := by
  have hlen := H.len
  have hcl : (cutL s ms).length ≤ l := by
    have := cutL_len s ms l
    rwa [List.take_of_length_le (by omega)] at this
  refine f6.calls _ _ _ _ _ ?_
  unfold f6.wp
  refine Calls.use (awake10 hS) ?_
  rintro _ w1 ⟨rfl, k1⟩
  refine ⟨_, rfl, bcF rfl (Calls.use (copied11 (H.chg k1) hl) ?_)⟩
  rintro _ w2 ⟨q1, c1, rfl, S2, k2⟩
  refine ⟨_, _, _, rfl, Calls.use (cut17 s S2.re hl) ?_⟩
  rintro _ w3 ⟨q2, l2, c2, rfl, S3, k3⟩
  have hl2 := S3.len
  have k02 := k1.trans k2
  have k03 := k02.trans k3
  refine ⟨_, _, _, rfl, Calls.use (cut18 s (H.chg k03) hl) ?_⟩
  rintro _ w4 ⟨q3, l3, c3, rfl, S4, k4⟩
  refine ⟨_, _, _, rfl, Calls.use (same14 (S3.chgN k4).re S4.re (by omega)) ?_⟩
  rintro _ w5 ⟨b5, rfl, h5, k5⟩
  obtain rfl := h5 rfl
  have k25 := k3.trans (k4.trans k5)
  refine ⟨_, rfl, bcF rfl (Calls.use (same14 (S2.chgN k25).re (H.chg (k02.trans k25)) (by omega)) ?_)⟩
  rintro _ w6 ⟨b6, rfl, h6, k6⟩
  obtain rfl := h6 rfl
  have k26 := k25.trans k6
  have S6 : SE En.mv w6 w2.heap.size 33 q2 l2 c2 (cutL s ms) := S3.chgN (k4.trans (k5.trans k6))
  refine ⟨_, rfl, bcF rfl ⟨fun w7 => Chg none_ w6 w7, fun w7 k7 => ?_, Calls.use (copied11 S6.re (by omega)) ?_⟩⟩
  · have k27 := k26.trans k7
    have S7 := S6.chgN k7
    refine ⟨fun w13 => Chg none_ w7 w13, fun w13 k13 => ?_, Calls.use (check13 (H.chg (k02.trans k27))) ?_⟩
    · have S13 := S7.chgN k13
      refine ⟨fun x w' => ∃ n : Nat, x = (n : Int) ∧ n ≤ l2 ∧ Chg none_ w2 w' ∧ ∃ ys, SE En.mv w' w2.heap.size 33 q2 l2 c2 ys, fun x _ => l2 - x.toNat, ⟨0, rfl, by omega, k27.trans k13, _, S13⟩, ?_⟩
      rintro _ w16 ⟨n, rfl, hn, k16, ys, S16⟩
      refine bc (fun g => ?_) fun g => ?_
      · have g : n < l2 := by simp at g; omega
        obtain ⟨a, ha, hcan⟩ := S16.can g
        subst ha
        rw [wrapN (by omega)]
        refine onPtr_mk ⟨by omega, by omega, ?_, fun w17 e17 => ?_⟩
        · have := hcan 0 8 (by decide)
          rwa [add_zero'] at this
        · obtain ⟨S17, k17⟩ := S16.set rfl (x' := ⟨-1, e0, e0, 0, false, 0, 0, 0⟩) g e17
          exact ⟨⟨n + 1, rfl, by omega, k16.up k17 fun k hk => (S16.lt hk.symm).2, _, S17⟩, by simp only [Int.toNat_natCast]; omega⟩
      · refine Calls.use (same14 (S2.chgN k16).re (H.chg (k02.trans k16)) (by omega)) ?_
        rintro _ w18 ⟨b, rfl, hb, k18⟩
        exact ⟨_, rfl, by rw [hb rfl], (k02.trans k16).trans k18⟩
    · rintro _ w14 ⟨a, b, rfl, h14, k14⟩
      refine ⟨_, _, rfl, bc (fun g => ?_) fun g => k14⟩
      have : b = 0 := by simpa using g
      subst this
      refine Calls.use (check12 (S7.chgN k14).re) ?_
      rintro _ w15 ⟨a', b', rfl, h15, k15⟩
      have ho := h14.alive
      have hok : Chk (cutL s ms) 0 0 := .ok (by omega) (cut_oks ho.2)
      obtain ⟨rfl, rfl⟩ := h15.eq hok
      exact ⟨_, _, rfl, bcF rfl (k14.trans k15)⟩
  · rintro _ w8 ⟨q4, c4, rfl, S8, k8⟩
    refine ⟨_, _, _, rfl, Calls.use (cut17 t S8.re (by omega)) ?_⟩
    rintro _ w9 ⟨q5, l5, c5, rfl, S9, k9⟩
    have k29 := k26.trans (k8.trans k9)
    refine ⟨_, _, _, rfl, Calls.use (cut18 _ (H.chg (k02.trans k29)) hl) ?_⟩
    rintro _ w10 ⟨q6, l6, c6, rfl, S10, k10⟩
    have hl5 := S9.len
    have hcl2 : (cutL t (cutL s ms)).length ≤ l := by
      have := cutL_len t (cutL s ms) (cutL s ms).length
      rw [List.take_length] at this
      omega
    refine ⟨_, _, _, rfl, Calls.use (same14 (S9.chgN k10).re S10.re (by omega)) ?_⟩
    rintro _ w11 ⟨b, rfl, hb, k11⟩
    have k611 := k8.trans (k9.trans (k10.trans k11))
    refine ⟨_, rfl, bc (fun g => Calls.use (check13 (H.chg (k02.trans (k26.trans k611)))) ?_) fun g => k611⟩
    rintro _ w12 ⟨a', b', rfl, h12, k12⟩
    refine ⟨_, _, rfl, bcF ?_ (k611.trans k12)⟩
    by_cases e : b' = 0
    · subst e
      have := hb (cut_cut h12.alive.2)
      rw [this] at g; cases g
    · simpa using e
end
end Go.Proofs.YtjfafkgjcgbgfaaDoor
