import Derived.Test.YtdlbmmodlkmofaaDoorPl4
import Derived.Test.YtdlbmmodlkmofaaDoorPlT
set_option maxRecDepth 20000
namespace Go.Proofs.YtdlbmmodlkmofaaDoor
open Go Go.Vc Go.RowKit
/-! # blocks that are sorted -/
section
variable {α : Type} {lt : α → α → Bool}
def flat (bs : List (List α)) : List α := bs.flatten
/-- blocks of n, each in order -/
def Bl (lt : α → α → Bool) (n : Nat) (bs : List (List α)) : Prop := ∀ b ∈ bs, b.length = n ∧ Srt lt b
theorem Bl.len {n : Nat} : ∀ {bs : List (List α)}, Bl lt n bs → (flat bs).length = bs.length * n
  | [], _ => by simp [flat]
  | b :: bs, h => by
    have h1 := (h b (by simp)).1
    have h2 := Bl.len (bs := bs) fun x hx => h x (by simp [hx])
    simp only [flat, List.flatten_cons, List.length_append, List.length_cons, Nat.add_mul, Nat.one_mul] at h2 ⊢
    omega
theorem Bl.snoc {n : Nat} {bs : List (List α)} {b : List α} (h : Bl lt n bs) (hb : b.length = n) (hs : Srt lt b) : Bl lt n (bs ++ [b]) := fun x hx => by
  rcases List.mem_append.1 hx with hx | hx
  · exact h x hx
  · simp at hx; subst hx; exact ⟨hb, hs⟩
theorem flat_snoc (bs : List (List α)) (b : List α) : flat (bs ++ [b]) = flat bs ++ b := by simp [flat]
theorem Bl.nil (n : Nat) : Bl lt n [] := fun _ h => by simp at h
/-- what is all in one block -/
theorem Bl.whole {n : Nat} {bs : List (List α)} {Y : List α} (h : Bl lt n bs) (hY : Srt lt Y) (hn : (flat bs ++ Y).length ≤ n) (h0 : 0 < n) : Srt lt (flat bs ++ Y) := by
  have hl := h.len
  rw [List.length_append, hl] at hn
  match bs, h, hl with
  | [], _, _ => simpa [flat] using hY
  | [b], h, hl =>
    have h1 := h b (by simp)
    have : Y = [] := List.eq_nil_of_length_eq_zero (by simp at hn; omega)
    subst this
    simpa [flat] using h1.2
  | a :: b :: r, _, _ =>
    simp only [List.length_cons, Nat.add_mul, Nat.one_mul] at hn
    omega
end
theorem stable98 {w : World} {base : Nat} {q : Option Addr} {l c : Nat} {xs : List T3} (h : SE En.t3 w base 37 q l c xs) (hl : l ≤ 1000000000000000000) :
    Calls Tryd.prog 98 #[.slice q l c, .int .i64 ((l : Nat) : Int), .func (.func 40) #[] #[]] w (Ret fun v w' => v = .tuple #[] ∧ ∃ ys, SE En.t3 w' base 37 q l c ys ∧ Srt fLt ys ∧ Same fLt xs ys ∧ Chg (fun k => some k = qB q) w w') := by
  have hlen := h.len
  refine f98_40.calls _ _ _ _ ?_
  unfold f98_40.wp
  refine ⟨fun x y w' => ∃ (bs : List (List T3)) (Z : List T3), x = (((flat bs).length : Nat) : Int) ∧ y = (((flat bs).length + 20 : Nat) : Int) ∧ Bl fLt 20 bs ∧ SE En.t3 w' base 37 q l c (flat bs ++ Z) ∧ Same fLt xs (flat bs ++ Z) ∧ Chg (fun k => some k = qB q) w w', fun x _ _ => l - x.toNat, ⟨[], xs, rfl, rfl, Bl.nil 20, h, Same.refl _, Chg.refl _ _⟩, ?_⟩
  rintro _ _ w1 ⟨bs, Z, rfl, rfl, hb, S1, e1, k1⟩
  have l1 := S1.len
  simp only [List.length_append] at l1
  obtain ⟨d, ed⟩ : ∃ d, d = (flat bs).length := ⟨_, rfl⟩
  refine bc (fun g => ?_) fun g => ?_
  · have g : 20 ≤ Z.length := by have := of_decide_eq_true g; omega
    have hs := insertion105 (P := flat bs) (X := Z.take 20) (S := Z.drop 20) (by rw [List.take_append_drop]; exact S1) (by omega)
    have lT : (Z.take 20).length = 20 := by simp; omega
    rw [lT, ← ed] at hs
    rw [← ed]
    refine Calls.use hs ?_
    rintro _ w2 ⟨rfl, Y, S2, sY, eY, lY, k2⟩
    have e2 := flat_snoc bs Y
    have l2 : (flat (bs ++ [Y])).length = d + 20 := by rw [e2, List.length_append]; omega
    refine ⟨rfl, ⟨bs ++ [Y], Z.drop 20, by rw [l2], ?_, hb.snoc lY sY, by rw [e2, List.append_assoc]; exact S2, ?_, k1.trans k2⟩, by simp only [Int.toNat_natCast]; omega⟩
    · rw [wrapS (by omega) (by omega), l2]; omega
    · rw [e2, List.append_assoc]
      refine e1.trans ((Same.refl _).app ?_)
      have := eY.app (Same.refl (lt := fLt) (Z.drop 20))
      rw [List.take_append_drop] at this
      exact this
  have g : Z.length < 20 := by have := of_decide_eq_false g; omega
  have hs := insertion105 (P := flat bs) (X := Z) (S := []) (by rw [List.append_nil]; exact S1) (by omega)
  rw [← ed, show d + Z.length = l by omega] at hs
  rw [← ed]
  refine Calls.use hs ?_
  rintro _ w3 ⟨rfl, Y, S3, sY, eY, lY, k3⟩
  rw [List.append_nil] at S3
  refine ⟨rfl, fun x w' => ∃ (s : Nat) (bs : List (List T3)) (Y : List T3), x = ((s : Nat) : Int) ∧ 20 ≤ s ∧ (s < 2 * l ∨ s = 20) ∧ Bl fLt s bs ∧ Srt fLt Y ∧ Y.length < s ∧ SE En.t3 w' base 37 q l c (flat bs ++ Y) ∧ Same fLt xs (flat bs ++ Y) ∧ Chg (fun k => some k = qB q) w w', fun x _ => 2 * l - x.toNat, ⟨20, bs, Y, rfl, Nat.le_refl _, .inr rfl, hb, sY, by omega, S3, e1.trans ((Same.refl _).app eY), k1.trans k3⟩, ?_⟩
  clear S1 S3 e1 eY sY lY k1 k3 hb l1 g hs ed
  rintro _ w4 ⟨s, bs, Y, rfl, hs20, hs2, hb, sY, lY, S4, e4, k4⟩
  refine bc (fun g => ?_) fun g => ?_
  · have g : s < l := by have := of_decide_eq_true g; omega
    rw [show IntKind.wrap .i64 (2 * (s : Int)) = ((2 * s : Nat) : Int) by rw [wrapS (by omega) (by omega)]; omega, show IntKind.wrap .i64 ((s : Int) * 2) = ((2 * s : Nat) : Int) by rw [wrapS (by omega) (by omega)]; omega]
    refine ⟨fun x y w' => ∃ (cs bs : List (List T3)), x = (((flat cs).length : Nat) : Int) ∧ y = (((flat cs).length + 2 * s : Nat) : Int) ∧ Bl fLt (2 * s) cs ∧ Bl fLt s bs ∧ SE En.t3 w' base 37 q l c (flat cs ++ (flat bs ++ Y)) ∧ Same fLt xs (flat cs ++ (flat bs ++ Y)) ∧ Chg (fun k => some k = qB q) w w', fun x _ _ => l - x.toNat, ⟨[], bs, rfl, by simp [flat], Bl.nil _, hb, S4, e4, k4⟩, ?_⟩
    clear S4 e4 hb k4
    rintro _ _ w5 ⟨cs, bs, rfl, rfl, hc, hb, S5, e5, k5⟩
    have l5 := S5.len
    have lb := hb.len
    simp only [List.length_append] at l5
    obtain ⟨d, ed⟩ : ∃ d, d = (flat cs).length := ⟨_, rfl⟩
    have em : IntKind.wrap .i64 (((d : Nat) : Int) + (s : Int)) = ((d + s : Nat) : Int) := by rw [wrapS (by omega) (by omega)]; omega
    refine bc (fun g1 => ?_) fun g1 => ?_
    · have g1 : 2 * s ≤ (flat bs).length + Y.length := by have := of_decide_eq_true g1; omega
      match bs, hb, S5, e5, lb, g1 with
      | [], _, _, _, lb, g1 => rw [lb] at g1; simp at g1; omega
      | [x], _, _, _, lb, g1 => rw [lb] at g1; simp at g1; omega
      | x :: y :: r, hb, S5, e5, lb, g1 =>
        have hx := hb x (by simp)
        have hy := hb y (by simp)
        have ef : flat (x :: y :: r) = x ++ (y ++ flat r) := rfl
        rw [ef] at S5 e5 l5
        simp only [List.length_append] at l5
        have hm := symMerge106 (x.length + y.length) (P := flat cs) (L := x) (R := y) (S := flat r ++ Y) (by simpa using S5) (Nat.le_refl _) (fun e => by rw [e] at hx; simp at hx; omega) (fun e => by rw [e] at hy; simp at hy; omega) hx.2 hy.2 (by omega)
        rw [← ed, hx.1, hy.1, show d + s + s = d + 2 * s by omega] at hm
        rw [← ed, em]
        refine Calls.use hm ?_
        rintro _ w6 ⟨rfl, M, S6, sM, eM, k6⟩
        have l6 := S6.len
        simp only [List.length_append] at l6
        have e2 := flat_snoc cs M
        have l2 : (flat (cs ++ [M])).length = d + 2 * s := by rw [e2, List.length_append]; omega
        refine ⟨rfl, ⟨cs ++ [M], r, by rw [l2], ?_, hc.snoc (by omega) sM, fun b hb' => hb b (by simp [hb']), by rw [e2, List.append_assoc]; exact S6, ?_, k5.trans k6⟩, by simp only [Int.toNat_natCast]; omega⟩
        · rw [wrapS (by omega) (by omega), l2]; omega
        · rw [e2, List.append_assoc]
          refine e5.trans ((Same.refl _).app ?_)
          have := eM.app (Same.refl (lt := fLt) (flat r ++ Y))
          simpa using this
    · have g1 : (flat bs).length + Y.length < 2 * s := by have := of_decide_eq_false g1; omega
      rw [← ed, em]
      have next : ∀ {w' : World} {Y' : List T3}, Srt fLt Y' → Y'.length < 2 * s → SE En.t3 w' base 37 q l c (flat cs ++ Y') → Same fLt xs (flat cs ++ Y') → Chg (fun k => some k = qB q) w w' →
          (∃ (s' : Nat) (bs : List (List T3)) (Y : List T3), ((2 * s : Nat) : Int) = ((s' : Nat) : Int) ∧ 20 ≤ s' ∧ (s' < 2 * l ∨ s' = 20) ∧ Bl fLt s' bs ∧ Srt fLt Y ∧ Y.length < s' ∧ SE En.t3 w' base 37 q l c (flat bs ++ Y) ∧ Same fLt xs (flat bs ++ Y) ∧ Chg (fun k => some k = qB q) w w') ∧ 2 * l - ((2 * s : Nat) : Int).toNat < 2 * l - ((s : Nat) : Int).toNat := fun {w' Y'} s1 s2 s3 s4 s5 =>
        ⟨⟨2 * s, cs, Y', rfl, by omega, .inl (by omega), hc, s1, s2, s3, s4, s5⟩, by simp only [Int.toNat_natCast]; omega⟩
      match bs, hb, S5, e5, lb, g1 with
      | [], _, S5, e5, lb, g1 =>
        refine bc (fun g2 => ?_) fun _ => next sY (by omega) S5 e5 k5
        have := of_decide_eq_true g2
        have : (flat ([] : List (List T3))).length = 0 := rfl
        omega
      | [x], hb, S5, e5, lb, g1 =>
        have hx := hb x (by simp)
        have ef : flat [x] = x := by simp [flat]
        rw [ef] at S5 e5 l5 g1
        refine bc (fun g2 => ?_) fun g2 => ?_
        · have g2 : 0 < Y.length := by have := of_decide_eq_true g2; omega
          have hm := symMerge106 (x.length + Y.length) (P := flat cs) (L := x) (R := Y) (S := []) (by simpa using S5) (Nat.le_refl _) (fun e => by rw [e] at hx; simp at hx; omega) (List.length_pos_iff.1 g2) hx.2 sY (by omega)
          rw [← ed, hx.1, show d + s + Y.length = l by omega] at hm
          refine Calls.use hm ?_
          rintro _ w7 ⟨rfl, M, S7, sM, eM, k7⟩
          rw [List.append_nil] at S7
          have l7 := S7.len
          simp only [List.length_append] at l7
          exact ⟨rfl, next sM (by omega) S7 (e5.trans ((Same.refl _).app eM)) (k5.trans k7)⟩
        · have : Y = [] := List.eq_nil_of_length_eq_zero (by have := of_decide_eq_false g2; omega)
          subst this
          rw [List.append_nil] at S5 e5
          exact next hx.2 (by omega) S5 e5 k5
      | x :: y :: r, _, _, _, lb, g1 =>
        rw [lb] at g1
        simp only [List.length_cons, Nat.add_mul, Nat.one_mul] at g1
        omega
  · have g : l ≤ s := by have := of_decide_eq_false g; omega
    exact ⟨rfl, _, S4, hb.whole sY (by rw [S4.len]; exact g) (by omega), e4, k4⟩
theorem sort86 {w : World} {base : Nat} {q : Option Addr} {l c : Nat} {xs : List T3} (h : SE En.t3 w base 37 q l c xs) (hl : l ≤ 1000000000000000000) :
    Calls Tryd.prog 86 #[.slice q l c, .func (.func 40) #[] #[]] w (Ret fun v w' => v = .tuple #[] ∧ ∃ ys, SE En.t3 w' base 37 q l c ys ∧ Srt fLt ys ∧ Same fLt xs ys ∧ Chg (fun k => some k = qB q) w w') := by
  refine f86_40.calls _ _ _ ?_
  unfold f86_40.wp
  refine Calls.use (stable98 h hl) ?_
  rintro _ w1 ⟨rfl, h1⟩
  exact ⟨rfl, rfl, h1⟩
theorem stable101 {w : World} {base : Nat} {q : Option Addr} {l c : Nat} {xs : List T3} (h : SE En.t3 w base 44 q l c xs) (hl : l ≤ 1000000000000000000) :
    Calls Tryd.prog 101 #[.slice q l c, .int .i64 ((l : Nat) : Int), .func (.func 63) #[] #[]] w (Ret fun v w' => v = .tuple #[] ∧ ∃ ys, SE En.t3 w' base 44 q l c ys ∧ Srt tLt ys ∧ Same tLt xs ys ∧ Chg (fun k => some k = qB q) w w') := by
  have hlen := h.len
  refine f101_63.calls _ _ _ _ ?_
  unfold f101_63.wp
  refine ⟨fun x y w' => ∃ (bs : List (List T3)) (Z : List T3), x = (((flat bs).length : Nat) : Int) ∧ y = (((flat bs).length + 20 : Nat) : Int) ∧ Bl tLt 20 bs ∧ SE En.t3 w' base 44 q l c (flat bs ++ Z) ∧ Same tLt xs (flat bs ++ Z) ∧ Chg (fun k => some k = qB q) w w', fun x _ _ => l - x.toNat, ⟨[], xs, rfl, rfl, Bl.nil 20, h, Same.refl _, Chg.refl _ _⟩, ?_⟩
  rintro _ _ w1 ⟨bs, Z, rfl, rfl, hb, S1, e1, k1⟩
  have l1 := S1.len
  simp only [List.length_append] at l1
  obtain ⟨d, ed⟩ : ∃ d, d = (flat bs).length := ⟨_, rfl⟩
  refine bc (fun g => ?_) fun g => ?_
  · have g : 20 ≤ Z.length := by have := of_decide_eq_true g; omega
    have hs := insertion108 (P := flat bs) (X := Z.take 20) (S := Z.drop 20) (by rw [List.take_append_drop]; exact S1) (by omega)
    have lT : (Z.take 20).length = 20 := by simp; omega
    rw [lT, ← ed] at hs
    rw [← ed]
    refine Calls.use hs ?_
    rintro _ w2 ⟨rfl, Y, S2, sY, eY, lY, k2⟩
    have e2 := flat_snoc bs Y
    have l2 : (flat (bs ++ [Y])).length = d + 20 := by rw [e2, List.length_append]; omega
    refine ⟨rfl, ⟨bs ++ [Y], Z.drop 20, by rw [l2], ?_, hb.snoc lY sY, by rw [e2, List.append_assoc]; exact S2, ?_, k1.trans k2⟩, by simp only [Int.toNat_natCast]; omega⟩
    · rw [wrapS (by omega) (by omega), l2]; omega
    · rw [e2, List.append_assoc]
      refine e1.trans ((Same.refl _).app ?_)
      have := eY.app (Same.refl (lt := tLt) (Z.drop 20))
      rw [List.take_append_drop] at this
      exact this
  have g : Z.length < 20 := by have := of_decide_eq_false g; omega
  have hs := insertion108 (P := flat bs) (X := Z) (S := []) (by rw [List.append_nil]; exact S1) (by omega)
  rw [← ed, show d + Z.length = l by omega] at hs
  rw [← ed]
  refine Calls.use hs ?_
  rintro _ w3 ⟨rfl, Y, S3, sY, eY, lY, k3⟩
  rw [List.append_nil] at S3
  refine ⟨rfl, fun x w' => ∃ (s : Nat) (bs : List (List T3)) (Y : List T3), x = ((s : Nat) : Int) ∧ 20 ≤ s ∧ (s < 2 * l ∨ s = 20) ∧ Bl tLt s bs ∧ Srt tLt Y ∧ Y.length < s ∧ SE En.t3 w' base 44 q l c (flat bs ++ Y) ∧ Same tLt xs (flat bs ++ Y) ∧ Chg (fun k => some k = qB q) w w', fun x _ => 2 * l - x.toNat, ⟨20, bs, Y, rfl, Nat.le_refl _, .inr rfl, hb, sY, by omega, S3, e1.trans ((Same.refl _).app eY), k1.trans k3⟩, ?_⟩
  clear S1 S3 e1 eY sY lY k1 k3 hb l1 g hs ed
  rintro _ w4 ⟨s, bs, Y, rfl, hs20, hs2, hb, sY, lY, S4, e4, k4⟩
  refine bc (fun g => ?_) fun g => ?_
  · have g : s < l := by have := of_decide_eq_true g; omega
    rw [show IntKind.wrap .i64 (2 * (s : Int)) = ((2 * s : Nat) : Int) by rw [wrapS (by omega) (by omega)]; omega, show IntKind.wrap .i64 ((s : Int) * 2) = ((2 * s : Nat) : Int) by rw [wrapS (by omega) (by omega)]; omega]
    refine ⟨fun x y w' => ∃ (cs bs : List (List T3)), x = (((flat cs).length : Nat) : Int) ∧ y = (((flat cs).length + 2 * s : Nat) : Int) ∧ Bl tLt (2 * s) cs ∧ Bl tLt s bs ∧ SE En.t3 w' base 44 q l c (flat cs ++ (flat bs ++ Y)) ∧ Same tLt xs (flat cs ++ (flat bs ++ Y)) ∧ Chg (fun k => some k = qB q) w w', fun x _ _ => l - x.toNat, ⟨[], bs, rfl, by simp [flat], Bl.nil _, hb, S4, e4, k4⟩, ?_⟩
    clear S4 e4 hb k4
    rintro _ _ w5 ⟨cs, bs, rfl, rfl, hc, hb, S5, e5, k5⟩
    have l5 := S5.len
    have lb := hb.len
    simp only [List.length_append] at l5
    obtain ⟨d, ed⟩ : ∃ d, d = (flat cs).length := ⟨_, rfl⟩
    have em : IntKind.wrap .i64 (((d : Nat) : Int) + (s : Int)) = ((d + s : Nat) : Int) := by rw [wrapS (by omega) (by omega)]; omega
    refine bc (fun g1 => ?_) fun g1 => ?_
    · have g1 : 2 * s ≤ (flat bs).length + Y.length := by have := of_decide_eq_true g1; omega
      match bs, hb, S5, e5, lb, g1 with
      | [], _, _, _, lb, g1 => rw [lb] at g1; simp at g1; omega
      | [x], _, _, _, lb, g1 => rw [lb] at g1; simp at g1; omega
      | x :: y :: r, hb, S5, e5, lb, g1 =>
        have hx := hb x (by simp)
        have hy := hb y (by simp)
        have ef : flat (x :: y :: r) = x ++ (y ++ flat r) := rfl
        rw [ef] at S5 e5 l5
        simp only [List.length_append] at l5
        have hm := symMerge109 (x.length + y.length) (P := flat cs) (L := x) (R := y) (S := flat r ++ Y) (by simpa using S5) (Nat.le_refl _) (fun e => by rw [e] at hx; simp at hx; omega) (fun e => by rw [e] at hy; simp at hy; omega) hx.2 hy.2 (by omega)
        rw [← ed, hx.1, hy.1, show d + s + s = d + 2 * s by omega] at hm
        rw [← ed, em]
        refine Calls.use hm ?_
        rintro _ w6 ⟨rfl, M, S6, sM, eM, k6⟩
        have l6 := S6.len
        simp only [List.length_append] at l6
        have e2 := flat_snoc cs M
        have l2 : (flat (cs ++ [M])).length = d + 2 * s := by rw [e2, List.length_append]; omega
        refine ⟨rfl, ⟨cs ++ [M], r, by rw [l2], ?_, hc.snoc (by omega) sM, fun b hb' => hb b (by simp [hb']), by rw [e2, List.append_assoc]; exact S6, ?_, k5.trans k6⟩, by simp only [Int.toNat_natCast]; omega⟩
        · rw [wrapS (by omega) (by omega), l2]; omega
        · rw [e2, List.append_assoc]
          refine e5.trans ((Same.refl _).app ?_)
          have := eM.app (Same.refl (lt := tLt) (flat r ++ Y))
          simpa using this
    · have g1 : (flat bs).length + Y.length < 2 * s := by have := of_decide_eq_false g1; omega
      rw [← ed, em]
      have next : ∀ {w' : World} {Y' : List T3}, Srt tLt Y' → Y'.length < 2 * s → SE En.t3 w' base 44 q l c (flat cs ++ Y') → Same tLt xs (flat cs ++ Y') → Chg (fun k => some k = qB q) w w' →
          (∃ (s' : Nat) (bs : List (List T3)) (Y : List T3), ((2 * s : Nat) : Int) = ((s' : Nat) : Int) ∧ 20 ≤ s' ∧ (s' < 2 * l ∨ s' = 20) ∧ Bl tLt s' bs ∧ Srt tLt Y ∧ Y.length < s' ∧ SE En.t3 w' base 44 q l c (flat bs ++ Y) ∧ Same tLt xs (flat bs ++ Y) ∧ Chg (fun k => some k = qB q) w w') ∧ 2 * l - ((2 * s : Nat) : Int).toNat < 2 * l - ((s : Nat) : Int).toNat := fun {w' Y'} s1 s2 s3 s4 s5 =>
        ⟨⟨2 * s, cs, Y', rfl, by omega, .inl (by omega), hc, s1, s2, s3, s4, s5⟩, by simp only [Int.toNat_natCast]; omega⟩
      match bs, hb, S5, e5, lb, g1 with
      | [], _, S5, e5, lb, g1 =>
        refine bc (fun g2 => ?_) fun _ => next sY (by omega) S5 e5 k5
        have := of_decide_eq_true g2
        have : (flat ([] : List (List T3))).length = 0 := rfl
        omega
      | [x], hb, S5, e5, lb, g1 =>
        have hx := hb x (by simp)
        have ef : flat [x] = x := by simp [flat]
        rw [ef] at S5 e5 l5 g1
        refine bc (fun g2 => ?_) fun g2 => ?_
        · have g2 : 0 < Y.length := by have := of_decide_eq_true g2; omega
          have hm := symMerge109 (x.length + Y.length) (P := flat cs) (L := x) (R := Y) (S := []) (by simpa using S5) (Nat.le_refl _) (fun e => by rw [e] at hx; simp at hx; omega) (List.length_pos_iff.1 g2) hx.2 sY (by omega)
          rw [← ed, hx.1, show d + s + Y.length = l by omega] at hm
          refine Calls.use hm ?_
          rintro _ w7 ⟨rfl, M, S7, sM, eM, k7⟩
          rw [List.append_nil] at S7
          have l7 := S7.len
          simp only [List.length_append] at l7
          exact ⟨rfl, next sM (by omega) S7 (e5.trans ((Same.refl _).app eM)) (k5.trans k7)⟩
        · have : Y = [] := List.eq_nil_of_length_eq_zero (by have := of_decide_eq_false g2; omega)
          subst this
          rw [List.append_nil] at S5 e5
          exact next hx.2 (by omega) S5 e5 k5
      | x :: y :: r, _, _, _, lb, g1 =>
        rw [lb] at g1
        simp only [List.length_cons, Nat.add_mul, Nat.one_mul] at g1
        omega
  · have g : l ≤ s := by have := of_decide_eq_false g; omega
    exact ⟨rfl, _, S4, hb.whole sY (by rw [S4.len]; exact g) (by omega), e4, k4⟩
theorem sort90 {w : World} {base : Nat} {q : Option Addr} {l c : Nat} {xs : List T3} (h : SE En.t3 w base 44 q l c xs) (hl : l ≤ 1000000000000000000) :
    Calls Tryd.prog 90 #[.slice q l c, .func (.func 63) #[] #[]] w (Ret fun v w' => v = .tuple #[] ∧ ∃ ys, SE En.t3 w' base 44 q l c ys ∧ Srt tLt ys ∧ Same tLt xs ys ∧ Chg (fun k => some k = qB q) w w') := by
  refine f90_63.calls _ _ _ ?_
  unfold f90_63.wp
  refine Calls.use (stable101 h hl) ?_
  rintro _ w1 ⟨rfl, h1⟩
  exact ⟨rfl, rfl, h1⟩
theorem stable89 {w : World} {base : Nat} {q : Option Addr} {l c : Nat} {xs : List CrH} (h : SE En.crh w base 42 q l c xs) (hl : l ≤ 1000000000000000000) :
    Calls Tryd.prog 89 #[.slice q l c, .int .i64 ((l : Nat) : Int), .func (.func 45) #[] #[]] w (Ret fun v w' => v = .tuple #[] ∧ ∃ ys, SE En.crh w' base 42 q l c ys ∧ Srt cLt ys ∧ Same cLt xs ys ∧ Chg (fun k => some k = qB q) w w') := by
  have hlen := h.len
  refine f89_45.calls _ _ _ _ ?_
  unfold f89_45.wp
  refine ⟨fun x y w' => ∃ (bs : List (List CrH)) (Z : List CrH), x = (((flat bs).length : Nat) : Int) ∧ y = (((flat bs).length + 20 : Nat) : Int) ∧ Bl cLt 20 bs ∧ SE En.crh w' base 42 q l c (flat bs ++ Z) ∧ Same cLt xs (flat bs ++ Z) ∧ Chg (fun k => some k = qB q) w w', fun x _ _ => l - x.toNat, ⟨[], xs, rfl, rfl, Bl.nil 20, h, Same.refl _, Chg.refl _ _⟩, ?_⟩
  rintro _ _ w1 ⟨bs, Z, rfl, rfl, hb, S1, e1, k1⟩
  have l1 := S1.len
  simp only [List.length_append] at l1
  obtain ⟨d, ed⟩ : ∃ d, d = (flat bs).length := ⟨_, rfl⟩
  refine bc (fun g => ?_) fun g => ?_
  · have g : 20 ≤ Z.length := by have := of_decide_eq_true g; omega
    have hs := insertion99 (P := flat bs) (X := Z.take 20) (S := Z.drop 20) (by rw [List.take_append_drop]; exact S1) (by omega)
    have lT : (Z.take 20).length = 20 := by simp; omega
    rw [lT, ← ed] at hs
    rw [← ed]
    refine Calls.use hs ?_
    rintro _ w2 ⟨rfl, Y, S2, sY, eY, lY, k2⟩
    have e2 := flat_snoc bs Y
    have l2 : (flat (bs ++ [Y])).length = d + 20 := by rw [e2, List.length_append]; omega
    refine ⟨rfl, ⟨bs ++ [Y], Z.drop 20, by rw [l2], ?_, hb.snoc lY sY, by rw [e2, List.append_assoc]; exact S2, ?_, k1.trans k2⟩, by simp only [Int.toNat_natCast]; omega⟩
    · rw [wrapS (by omega) (by omega), l2]; omega
    · rw [e2, List.append_assoc]
      refine e1.trans ((Same.refl _).app ?_)
      have := eY.app (Same.refl (lt := cLt) (Z.drop 20))
      rw [List.take_append_drop] at this
      exact this
  have g : Z.length < 20 := by have := of_decide_eq_false g; omega
  have hs := insertion99 (P := flat bs) (X := Z) (S := []) (by rw [List.append_nil]; exact S1) (by omega)
  rw [← ed, show d + Z.length = l by omega] at hs
  rw [← ed]
  refine Calls.use hs ?_
  rintro _ w3 ⟨rfl, Y, S3, sY, eY, lY, k3⟩
  rw [List.append_nil] at S3
  refine ⟨rfl, fun x w' => ∃ (s : Nat) (bs : List (List CrH)) (Y : List CrH), x = ((s : Nat) : Int) ∧ 20 ≤ s ∧ (s < 2 * l ∨ s = 20) ∧ Bl cLt s bs ∧ Srt cLt Y ∧ Y.length < s ∧ SE En.crh w' base 42 q l c (flat bs ++ Y) ∧ Same cLt xs (flat bs ++ Y) ∧ Chg (fun k => some k = qB q) w w', fun x _ => 2 * l - x.toNat, ⟨20, bs, Y, rfl, Nat.le_refl _, .inr rfl, hb, sY, by omega, S3, e1.trans ((Same.refl _).app eY), k1.trans k3⟩, ?_⟩
  clear S1 S3 e1 eY sY lY k1 k3 hb l1 g hs ed
  rintro _ w4 ⟨s, bs, Y, rfl, hs20, hs2, hb, sY, lY, S4, e4, k4⟩
  refine bc (fun g => ?_) fun g => ?_
  · have g : s < l := by have := of_decide_eq_true g; omega
    rw [show IntKind.wrap .i64 (2 * (s : Int)) = ((2 * s : Nat) : Int) by rw [wrapS (by omega) (by omega)]; omega, show IntKind.wrap .i64 ((s : Int) * 2) = ((2 * s : Nat) : Int) by rw [wrapS (by omega) (by omega)]; omega]
    refine ⟨fun x y w' => ∃ (cs bs : List (List CrH)), x = (((flat cs).length : Nat) : Int) ∧ y = (((flat cs).length + 2 * s : Nat) : Int) ∧ Bl cLt (2 * s) cs ∧ Bl cLt s bs ∧ SE En.crh w' base 42 q l c (flat cs ++ (flat bs ++ Y)) ∧ Same cLt xs (flat cs ++ (flat bs ++ Y)) ∧ Chg (fun k => some k = qB q) w w', fun x _ _ => l - x.toNat, ⟨[], bs, rfl, by simp [flat], Bl.nil _, hb, S4, e4, k4⟩, ?_⟩
    clear S4 e4 hb k4
    rintro _ _ w5 ⟨cs, bs, rfl, rfl, hc, hb, S5, e5, k5⟩
    have l5 := S5.len
    have lb := hb.len
    simp only [List.length_append] at l5
    obtain ⟨d, ed⟩ : ∃ d, d = (flat cs).length := ⟨_, rfl⟩
    have em : IntKind.wrap .i64 (((d : Nat) : Int) + (s : Int)) = ((d + s : Nat) : Int) := by rw [wrapS (by omega) (by omega)]; omega
    refine bc (fun g1 => ?_) fun g1 => ?_
    · have g1 : 2 * s ≤ (flat bs).length + Y.length := by have := of_decide_eq_true g1; omega
      match bs, hb, S5, e5, lb, g1 with
      | [], _, _, _, lb, g1 => rw [lb] at g1; simp at g1; omega
      | [x], _, _, _, lb, g1 => rw [lb] at g1; simp at g1; omega
      | x :: y :: r, hb, S5, e5, lb, g1 =>
        have hx := hb x (by simp)
        have hy := hb y (by simp)
        have ef : flat (x :: y :: r) = x ++ (y ++ flat r) := rfl
        rw [ef] at S5 e5 l5
        simp only [List.length_append] at l5
        have hm := symMerge100 (x.length + y.length) (P := flat cs) (L := x) (R := y) (S := flat r ++ Y) (by simpa using S5) (Nat.le_refl _) (fun e => by rw [e] at hx; simp at hx; omega) (fun e => by rw [e] at hy; simp at hy; omega) hx.2 hy.2 (by omega)
        rw [← ed, hx.1, hy.1, show d + s + s = d + 2 * s by omega] at hm
        rw [← ed, em]
        refine Calls.use hm ?_
        rintro _ w6 ⟨rfl, M, S6, sM, eM, k6⟩
        have l6 := S6.len
        simp only [List.length_append] at l6
        have e2 := flat_snoc cs M
        have l2 : (flat (cs ++ [M])).length = d + 2 * s := by rw [e2, List.length_append]; omega
        refine ⟨rfl, ⟨cs ++ [M], r, by rw [l2], ?_, hc.snoc (by omega) sM, fun b hb' => hb b (by simp [hb']), by rw [e2, List.append_assoc]; exact S6, ?_, k5.trans k6⟩, by simp only [Int.toNat_natCast]; omega⟩
        · rw [wrapS (by omega) (by omega), l2]; omega
        · rw [e2, List.append_assoc]
          refine e5.trans ((Same.refl _).app ?_)
          have := eM.app (Same.refl (lt := cLt) (flat r ++ Y))
          simpa using this
    · have g1 : (flat bs).length + Y.length < 2 * s := by have := of_decide_eq_false g1; omega
      rw [← ed, em]
      have next : ∀ {w' : World} {Y' : List CrH}, Srt cLt Y' → Y'.length < 2 * s → SE En.crh w' base 42 q l c (flat cs ++ Y') → Same cLt xs (flat cs ++ Y') → Chg (fun k => some k = qB q) w w' →
          (∃ (s' : Nat) (bs : List (List CrH)) (Y : List CrH), ((2 * s : Nat) : Int) = ((s' : Nat) : Int) ∧ 20 ≤ s' ∧ (s' < 2 * l ∨ s' = 20) ∧ Bl cLt s' bs ∧ Srt cLt Y ∧ Y.length < s' ∧ SE En.crh w' base 42 q l c (flat bs ++ Y) ∧ Same cLt xs (flat bs ++ Y) ∧ Chg (fun k => some k = qB q) w w') ∧ 2 * l - ((2 * s : Nat) : Int).toNat < 2 * l - ((s : Nat) : Int).toNat := fun {w' Y'} s1 s2 s3 s4 s5 =>
        ⟨⟨2 * s, cs, Y', rfl, by omega, .inl (by omega), hc, s1, s2, s3, s4, s5⟩, by simp only [Int.toNat_natCast]; omega⟩
      match bs, hb, S5, e5, lb, g1 with
      | [], _, S5, e5, lb, g1 =>
        refine bc (fun g2 => ?_) fun _ => next sY (by omega) S5 e5 k5
        have := of_decide_eq_true g2
        have : (flat ([] : List (List CrH))).length = 0 := rfl
        omega
      | [x], hb, S5, e5, lb, g1 =>
        have hx := hb x (by simp)
        have ef : flat [x] = x := by simp [flat]
        rw [ef] at S5 e5 l5 g1
        refine bc (fun g2 => ?_) fun g2 => ?_
        · have g2 : 0 < Y.length := by have := of_decide_eq_true g2; omega
          have hm := symMerge100 (x.length + Y.length) (P := flat cs) (L := x) (R := Y) (S := []) (by simpa using S5) (Nat.le_refl _) (fun e => by rw [e] at hx; simp at hx; omega) (List.length_pos_iff.1 g2) hx.2 sY (by omega)
          rw [← ed, hx.1, show d + s + Y.length = l by omega] at hm
          refine Calls.use hm ?_
          rintro _ w7 ⟨rfl, M, S7, sM, eM, k7⟩
          rw [List.append_nil] at S7
          have l7 := S7.len
          simp only [List.length_append] at l7
          exact ⟨rfl, next sM (by omega) S7 (e5.trans ((Same.refl _).app eM)) (k5.trans k7)⟩
        · have : Y = [] := List.eq_nil_of_length_eq_zero (by have := of_decide_eq_false g2; omega)
          subst this
          rw [List.append_nil] at S5 e5
          exact next hx.2 (by omega) S5 e5 k5
      | x :: y :: r, _, _, _, lb, g1 =>
        rw [lb] at g1
        simp only [List.length_cons, Nat.add_mul, Nat.one_mul] at g1
        omega
  · have g : l ≤ s := by have := of_decide_eq_false g; omega
    exact ⟨rfl, _, S4, hb.whole sY (by rw [S4.len]; exact g) (by omega), e4, k4⟩
theorem sort61 {w : World} {base : Nat} {q : Option Addr} {l c : Nat} {xs : List CrH} (h : SE En.crh w base 42 q l c xs) (hl : l ≤ 1000000000000000000) :
    Calls Tryd.prog 61 #[.slice q l c, .func (.func 45) #[] #[]] w (Ret fun v w' => v = .tuple #[] ∧ ∃ ys, SE En.crh w' base 42 q l c ys ∧ Srt cLt ys ∧ Same cLt xs ys ∧ Chg (fun k => some k = qB q) w w') := by
  refine f61_45.calls _ _ _ ?_
  unfold f61_45.wp
  refine Calls.use (stable89 h hl) ?_
  rintro _ w1 ⟨rfl, h1⟩
  exact ⟨rfl, rfl, h1⟩
end Go.Proofs.YtdlbmmodlkmofaaDoor
set_option maxRecDepth 20000
namespace Go.Proofs.YtdlbmmodlkmofaaDoor
open Go Go.Vc Go.RowKit
/-! # the cells of a tail made zero -/
theorem zeroCells_len (z : Array Value) (n : Nat) : (Builtin.zeroCells z n).toList.length = n * z.size := by simp [Builtin.zeroCells]
theorem zeroCells_one {z : Array Value} (h1 : ∀ v ∈ z.toList, v.oneCell' = true) (n : Nat) : ∀ v ∈ (Builtin.zeroCells z n).toList, v.oneCell' = true := fun v hv => by
  simp only [Builtin.zeroCells, Array.toList_map, Array.toList_range, List.mem_map, List.mem_range] at hv
  obtain ⟨i, hi, rfl⟩ := hv
  have hz : 0 < z.size := by
    rcases Nat.eq_zero_or_pos z.size with h | h
    · rw [h, Nat.mul_zero] at hi; omega
    · exact h
  have : i % z.size < z.size := Nat.mod_lt _ hz
  apply h1
  rw [getElem!_pos z _ this]
  exact Array.mem_toList_iff.2 (Array.getElem_mem this)
theorem run_clear_n {P : Program} (w : World) (t e ty : TypeId) (z : Value) (ht : P.underlying t = some (.slice e)) (hv : ∀ w, (zeroValue e).run P w = .ok z w) (h1 : ∀ v ∈ z.cells.toList, v.oneCell' = true) (g o c n : Nat) (cur : Array Value) (hg : Blk w g e cur) (hn : n ≠ 0) (hfit : o + n * z.cells.size ≤ cur.size) :
    (Builtin.clear_ #[t] ty #[.slice (some ⟨g, o, none⟩) n c]).run P w = .ok (.tuple #[]) (w.setRow g (cur.toList.take o ++ (Builtin.zeroCells z.cells n).toList ++ cur.toList.drop (o + (Builtin.zeroCells z.cells n).toList.length)).toArray) := by
  have hst := run_storeCells_at P g o e (Builtin.zeroCells z.cells n).toList 0 cur w hg (by rw [zeroCells_len]; simpa using hfit) (zeroCells_one h1 n)
  simp only [Nat.add_zero] at hst
  obtain ⟨m, rfl⟩ : ∃ m, n = m + 1 := ⟨n - 1, by omega⟩
  simp [Builtin.clear_, hv, hst, run_underlying ht]
section
variable {α : Type} {E : En α} {w : World} {base : Nat} {e : TypeId} {q : Option Addr} {l c : Nat} {xs : List α}
theorem clearTail {P : Program} {t ty : TypeId} {z : Value} (h : SE E w base e q l c xs) {k : Nat} (hkl : k < l) (ht : P.underlying t = some (.slice e)) (hv : ∀ w, (zeroValue e).run P w = .ok z w) (h1 : ∀ v ∈ z.cells.toList, v.oneCell' = true) (hk : z.cells.size = E.k) :
    ∃ w', (Builtin.clear_ #[t] ty #[.slice (cutP q c k E.k) (l - k) (c - k)]).run P w = .ok (.tuple #[]) w' ∧ SE E w' base e q k c (xs.take k) ∧ Chg (fun k => some k = qB q) w w' := by
  have hle := h.le
  have hr0 := h.take (n := k) (by omega)
  rcases h.ex with ⟨_, h0, _⟩ | ⟨g, off, cur, rfl, hbg, hg, h2, h3, h4, hr⟩
  · omega
  have hp := E.pos
  have hmul : (k + (l - k)) * E.k ≤ c * E.k := Nat.mul_le_mul_right _ (by omega)
  rw [Nat.add_mul] at hmul
  have hc : cutP (some (⟨g, off, none⟩ : Addr)) c k E.k = some ⟨g, off + k * E.k, none⟩ := by
    rw [cutP, if_neg (by omega)]
    simp [add_mk]
  have hzl : (Builtin.zeroCells z.cells (l - k)).toList.length = (l - k) * E.k := by rw [zeroCells_len, hk]
  have hrun := run_clear_n (P := P) w t e ty z ht hv h1 g (off + k * E.k) (c - k) (l - k) cur hg (by omega) (by rw [hk]; omega)
  rw [hc]
  refine ⟨_, hrun, ⟨hr0.len, .inr ⟨g, off, _, rfl, hbg, setRow_heap w g cur _ e _ hg, by omega, h3, ?_, fun i u hu => ?_⟩⟩, ⟨rfl, rfl, rfl, by simp [World.setRow], fun k _ hk => setRow_other w g k _ (fun e => hk (by simp [qB, e]))⟩⟩
  · simp only [List.size_toArray, List.length_append, List.length_take, List.length_drop, Array.length_toList]
    omega
  · have hi := get_lt hu
    rw [E.flat_len, hr0.len] at hi
    have hu' : (E.flat xs)[i]? = some u := by
      rw [E.flat_take, List.getElem?_take, if_pos hi] at hu
      exact hu
    simp only [List.getElem?_toArray, List.append_assoc]
    rw [List.getElem?_append_left (by simp; omega), List.getElem?_take, if_pos (by omega), ← hr i u hu']
    simp
end
/-! # of those that are alike the first one alone -/
section
variable {α : Type} {lt : α → α → Bool}
/-- behind one: those that are not alike to the one ahead -/
def ddp (lt : α → α → Bool) : α → List α → List α
  | _, [] => []
  | p, y :: r => if alk lt y p then ddp lt y r else y :: ddp lt y r
def dd (lt : α → α → Bool) : List α → List α
  | [] => []
  | x :: r => x :: ddp lt x r
theorem ddp_snoc : ∀ (p : α) (r : List α) (u y : α), (p :: r)[r.length]? = some u → ddp lt p (r ++ [y]) = ddp lt p r ++ if alk lt y u then [] else [y]
  | p, [], u, y, h => by
    simp at h; subst h
    simp only [List.nil_append, ddp]
  | p, z :: r, u, y, h => by
    have := ddp_snoc z r u y (by simpa using h)
    simp only [List.cons_append, ddp]
    split
    · exact this
    · rw [this]; rfl
theorem dd_snoc {xs : List α} {u y : α} (h : xs[xs.length - 1]? = some u) : dd lt (xs ++ [y]) = dd lt xs ++ if alk lt y u then [] else [y] := by
  cases xs with
  | nil => simp at h
  | cons x r =>
    have := ddp_snoc (lt := lt) x r u y (by simpa using h)
    simp only [List.cons_append, dd, this]
theorem ddp_le : ∀ (p : α) (r : List α), (ddp lt p r).length ≤ r.length
  | _, [] => Nat.le_refl _
  | p, y :: r => by
    have := ddp_le y r
    unfold ddp
    split
    · simp only [List.length_cons]; omega
    · simp only [List.length_cons]; omega
theorem dd_le (xs : List α) : (dd lt xs).length ≤ xs.length := by
  cases xs with
  | nil => exact Nat.le_refl _
  | cons x r => have := ddp_le (lt := lt) x r; simp only [dd, List.length_cons]; omega
theorem take_step {xs : List α} {k : Nat} {u y : α} (hu : xs[k - 1]? = some u) (hy : xs[k]? = some y) (hk : 0 < k) : dd lt (xs.take (k + 1)) = dd lt (xs.take k) ++ if alk lt y u then [] else [y] := by
  have hl := get_lt hy
  rw [take_snoc hy]
  refine dd_snoc ?_
  rw [List.length_take, List.getElem?_take, Nat.min_eq_left (by omega), if_pos (by omega)]
  exact hu
end
theorem eq88 (w : World) {b : Nat} (B : Blk w b 76 #[.func (.func 40) #[] #[]]) (x y : T3) : Calls Tryd.prog 88 #[.agg (En.t3.enc x).toArray, .agg (En.t3.enc y).toArray, .pointer (some (ad b))] w (Ret fun v w' => v = .bool (alk fLt x y) ∧ Chg none_ w w') := by
  refine f88.calls _ _ _ _ _ _ _ ?_
  unfold f88.wp
  refine newBox fun w1 B1 k1 _ => newBox fun w2 B2 k2 _ => ?_
  have A := k2.blk B1 (fun x => x)
  have O := (k1.trans k2).blk B (fun x => x)
  refine onPtr_mk ⟨(O.cell 0).trans rfl, _, _, _, A.reads0, _, _, _, B2.reads0, Calls.use (ord40 w2 x y) ?_⟩
  rintro _ w3 ⟨rfl, k3⟩
  refine ⟨_, rfl, ?_, (k1.trans k2).trans k3⟩
  congr 1
  have h1 := fLt_iff x y
  have h2 := fLt_iff y x
  have h3 : (fOrd x y == 0) = true ↔ ¬ (fLt x y = true) ∧ ¬ (fLt y x = true) := by
    rw [h1, h2]
    by_cases a1 : x.1 < y.1 <;> by_cases a2 : y.1 < x.1 <;> by_cases a3 : x.2.1 < y.2.1 <;> by_cases a4 : y.2.1 < x.2.1 <;> simp [fOrd, firstNZ, cmpI, a1, a2, a3, a4] <;> omega
  have h4 : alk fLt x y = true ↔ ¬ (fLt x y = true) ∧ ¬ (fLt y x = true) := by simp [alk]
  rw [Bool.eq_iff_iff, h3, h4]
theorem compact87 {w : World} {base : Nat} {q : Option Addr} {l c b : Nat} {xs : List T3} (h : SE En.t3 w base 37 q l c xs) (B : Blk w b 76 #[.func (.func 40) #[] #[]]) (hl : l ≤ 1000000000000000000) :
    Calls Tryd.prog 87 #[.slice q l c, .func (.func 88) #[] #[.pointer (some (ad b))]] w (Ret fun v w' => ∃ l', v = .slice q l' c ∧ SE En.t3 w' base 37 q l' c (dd fLt xs) ∧ Chg (fun k => some k = qB q) w w') := by
  have hlen := h.len
  have hle := h.le
  refine f87_88.calls _ _ _ _ ?_
  unfold f87_88.wp
  refine bc (fun g => ?_) fun g => ?_
  · have g : l < 2 := by have := of_decide_eq_true g; omega
    refine ⟨l, rfl, ?_, Chg.refl _ _⟩
    match xs, hlen, h with
    | [], _, h => exact h
    | [x], _, h => exact h
    | x :: y :: r, hlen, _ => simp at hlen; omega
  have g : 2 ≤ l := by have := of_decide_eq_false g; omega
  obtain ⟨p, hp⟩ : ∃ p, q = some p := by obtain ⟨a, _, ha, _⟩ := h.re.ex (i := 0) (by omega); exact ⟨a, ha⟩
  subst hp
  have hne : b ≠ p.block := fun e => SE.ne h B (by decide) p.block rfl e.symm
  have okB : ∀ {w' : World}, Chg (fun k => some k = qB (some p)) w w' → Blk w' b 76 #[.func (.func 40) #[] #[]] := fun k => k.blk B (fun e => hne (by simpa [qB] using e))
  refine ⟨fun x w' => ∃ k : Nat, x = (k : Int) ∧ 1 ≤ k ∧ k ≤ l ∧ SE En.t3 w' base 37 (some p) l c xs ∧ dd fLt (xs.take k) = xs.take k ∧ Chg (fun k => some k = qB (some p)) w w', fun x _ => l - x.toNat, ⟨1, rfl, Nat.le_refl _, by omega, h, ?_, Chg.refl _ _⟩, ?_⟩
  · match xs, hlen with
    | [], _ => rfl
    | x :: r, _ => rfl
  rintro _ w1 ⟨k, rfl, hk1, hkl, S1, e1, k1⟩
  refine bc (fun g1 => ?_) fun g1 => ?_
  case refine_2 =>
    have : k = l := by have := of_decide_eq_false g1; omega
    subst this
    rw [List.take_of_length_le (by omega)] at e1
    exact ⟨k, rfl, by rw [e1]; exact S1, k1⟩
  have g1 : k < l := by have := of_decide_eq_true g1; omega
  obtain ⟨y, hy⟩ := get_ex (l := xs) (i := k) (by omega)
  obtain ⟨u, hu⟩ := get_ex (l := xs) (i := k - 1) (by omega)
  have S1d := S1.drew
  obtain ⟨ry, by'⟩ := rdAt S1d hy
  obtain ⟨ru, bu⟩ := rdAt S1d hu
  rw [show IntKind.wrap .i64 ((k : Int) - 1) = ((k - 1 : Nat) : Int) by rw [wrapS (by omega) (by omega)]; omega]
  refine onPtr_mk ⟨by'.1, by'.2, _, _, _, ry, onPtr_mk ⟨bu.1, bu.2, _, _, _, ru, Calls.use (eq88 w1.drew (okB k1).drew y u) ?_⟩⟩
  rintro _ w2 ⟨rfl, k2⟩
  have S2 := S1d.chgN k2
  have k12 := k1.trans ((k2.of_none _).of_drew)
  have st := take_step (lt := fLt) hu hy (by omega)
  refine ⟨_, rfl, bc (fun ha => ?_) fun ha => ?_⟩
  case refine_2 =>
    rw [show IntKind.wrap .i64 ((k : Int) + 1) = ((k + 1 : Nat) : Int) by rw [wrapS (by omega) (by omega)]; omega]
    refine ⟨⟨k + 1, rfl, by omega, g1, S2, ?_, k12⟩, by simp only [Int.toNat_natCast]; omega⟩
    rw [st, ha, e1, take_snoc hy]; rfl
  -- one that is alike is found
  refine ⟨by'.1, by omega, ?_⟩
  have tk : Int.toNat (k : Int) = k := by omega
  rw [tk]
  have hcp : cutP (some p) c k 3 = some (p.add (k * 3)) := by
    rw [cutP, if_neg (by omega)]; rfl
  rw [hcp]
  refine ⟨fun x y w' => ∃ (i j : Nat) (ys : List T3), x = (i : Int) ∧ y = (j : Int) ∧ 1 ≤ j ∧ k + j ≤ l ∧ k ≤ i ∧ i < k + j ∧ SE En.t3 w' base 37 (some p) l c ys ∧ ys.take i = dd fLt (xs.take (k + j)) ∧ (∀ t, k + j - 1 ≤ t → ys[t]? = xs[t]?) ∧ Chg (fun k => some k = qB (some p)) w w', fun _ y _ => l - y.toNat, ⟨k, 1, xs, rfl, rfl, Nat.le_refl _, by omega, Nat.le_refl _, by omega, S2, by rw [st, ha, e1]; simp, fun _ _ => rfl, k12⟩, ?_⟩
  clear S1 S1d S2 ry ru by' bu
  rintro _ _ w3 ⟨i, j, ys, rfl, rfl, hj1, hj, hki, hij, S3, e3, hs3, k3⟩
  have l3 := S3.len
  refine bc (fun g2 => ?_) fun g2 => ?_
  · have g2 : k + j < l := by have := of_decide_eq_true g2; omega
    obtain ⟨y', hy'⟩ := get_ex (l := xs) (i := k + j) (by omega)
    obtain ⟨u', hu'⟩ := get_ex (l := xs) (i := k + j - 1) (by omega)
    have S3d := S3.drew
    have yy : ys[k + j]? = some y' := by rw [hs3 _ (by omega)]; exact hy'
    have yu : ys[k + j - 1]? = some u' := by rw [hs3 _ (by omega)]; exact hu'
    have ry := (rdAt S3d yy).1
    have ru := (rdAt S3d yu).1
    rw [show IntKind.wrap .i64 ((j : Int) - 1) = ((j - 1 : Nat) : Int) by rw [wrapS (by omega) (by omega)]; omega]
    have a1 : (p.add (k * 3)).add (j * 3) = p.add ((k + j) * 3) := by rw [Addr.add_add]; congr 1; omega
    have a2 : (p.add (k * 3)).add ((j - 1) * 3) = p.add ((k + j - 1) * 3) := by rw [Addr.add_add]; congr 1; omega
    refine onPtr_mk ⟨by omega, by omega, _, _, _, (show reads w3.drew ((p.add (k * 3)).add (j * 3)) (En.t3.enc y') by rw [a1]; exact ry), onPtr_mk ⟨by omega, by omega, _, _, _, (show reads w3.drew ((p.add (k * 3)).add ((j - 1) * 3)) (En.t3.enc u') by rw [a2]; exact ru), Calls.use (eq88 w3.drew (okB k3).drew y' u') ?_⟩⟩
    rintro _ w4 ⟨rfl, k4⟩
    have S4 := S3d.chgN k4
    have k34 := k3.trans ((k4.of_none _).of_drew)
    have st' := take_step (lt := fLt) hu' hy' (by omega)
    rw [show k + j + 1 = k + (j + 1) by omega] at st'
    rw [show IntKind.wrap .i64 ((j : Int) + 1) = ((j + 1 : Nat) : Int) by rw [wrapS (by omega) (by omega)]; omega]
    refine ⟨_, rfl, bc (fun hb => ?_) fun hb => ?_⟩
    · have hb := Eq.mp (Bool.not_eq_true' _) hb
      have ry4 := (rdAt S4 yy).1
      obtain ⟨p', hp', hcan⟩ := S4.can (i := i) (by omega)
      cases hp'
      have hc0 := hcan 0 3 (by decide)
      rw [add_zero'] at hc0
      refine onPtr_mk ⟨by omega, by omega, _, _, _, (show reads w4 ((p.add (k * 3)).add (j * 3)) (En.t3.enc y') by rw [a1]; exact ry4), onPtr_mk ⟨by omega, by omega, hc0, fun w5 e5 => ?_⟩⟩
      obtain ⟨S5, k5⟩ := S4.set rfl (i := i) (x' := y') (by omega) e5
      rw [show IntKind.wrap .i64 ((i : Int) + 1) = ((i + 1 : Nat) : Int) by rw [wrapS (by omega) (by omega)]; omega]
      refine ⟨⟨i + 1, j + 1, ys.set i y', rfl, rfl, by omega, by omega, by omega, by omega, S5, ?_, fun t ht => ?_, k34.trans k5⟩, by simp only [Int.toNat_natCast]; omega⟩
      · rw [st', hb, ← e3, take_snoc (List.getElem?_set_self (by omega)), List.take_set_of_le (Nat.le_refl _)]; rfl
      · rw [List.getElem?_set_ne (by omega)]; exact hs3 t (by omega)
    · have hb := Eq.mp (Bool.not_eq_false' _) hb
      refine ⟨⟨i, j + 1, ys, rfl, rfl, by omega, by omega, hki, by omega, S4, ?_, fun t ht => hs3 t (by omega), k34⟩, by simp only [Int.toNat_natCast]; omega⟩
      rw [st', hb, ← e3]; simp
  · have : k + j = l := by have := of_decide_eq_false g2; omega
    have ti : Int.toNat (i : Int) = i := by omega
    rw [ti]
    obtain ⟨w6, hr, S6, k6⟩ := clearTail (P := Tryd.prog) (t := 25) (ty := 0) S3 (k := i) (by omega) Tryd.underlying25 zero37 one37 rfl
    refine ⟨by omega, by omega, w6, hr, by omega, by omega, i, rfl, ?_, k3.trans k6⟩
    rw [this, List.take_of_length_le (l := xs) (by omega)] at e3
    rw [← e3]; exact S6
theorem once59 {w : World} {q : Option Addr} {l c : Nat} {xs : List T3} (h : RE En.t3 w q l xs) (hl : l * 24 ≤ 140737488351232) :
    Calls Tryd.prog 59 #[.slice q l c, .func (.func 40) #[] #[]] w (Ret fun v w' => ∃ q' l' c' ys, v = .slice q' l' c' ∧ l' ≤ l ∧ SE En.t3 w' w.heap.size 37 q' l' c' (dd fLt ys) ∧ Srt fLt ys ∧ Same fLt xs ys ∧ Chg none_ w w') := by
  refine f59_40.calls _ _ _ ?_
  unfold f59_40.wp
  refine newBox fun w1 B1 k1 z1 => Calls.use (clone84 (h.chg k1) hl) ?_
  rintro _ w2 ⟨q1, c1, rfl, S2, k2⟩
  have B2 := k2.blk B1 (fun x => x)
  refine ⟨q1, l, c1, rfl, (B2.cell 0).trans rfl, Calls.use (sort86 S2 (by omega)) ?_⟩
  rintro _ w3 ⟨rfl, ys, S3, s3, e3, k3⟩
  have B3 := k3.blk B2 (fun e => SE.ne S2 B2 (by decide) _ e.symm rfl)
  refine ⟨rfl, Calls.use (compact87 S3 B3 (by omega)) ?_⟩
  rintro _ w4 ⟨l', rfl, S4, k4⟩
  have hz := k1.size
  have k02 := k1.trans k2
  refine ⟨q1, l', c1, rfl, q1, l', c1, ys, rfl, ?_, S4.lower hz, s3, e3, ?_⟩
  · have h1 := S4.len
    have h2 := S3.len
    have := dd_le (lt := fLt) ys
    omega
  exact (k02.up k3 fun k hk => by have := (S2.lt hk.symm).2; omega).up k4 fun k hk => by have := (S3.lt hk.symm).2; omega
theorem eq92 (w : World) {b : Nat} (B : Blk w b 97 #[.func (.func 63) #[] #[]]) (x y : T3) : Calls Tryd.prog 92 #[.agg (En.t3.enc x).toArray, .agg (En.t3.enc y).toArray, .pointer (some (ad b))] w (Ret fun v w' => v = .bool (alk tLt x y) ∧ Chg none_ w w') := by
  refine f92.calls _ _ _ _ _ _ _ ?_
  unfold f92.wp
  refine newBox fun w1 B1 k1 _ => newBox fun w2 B2 k2 _ => ?_
  have A := k2.blk B1 (fun x => x)
  have O := (k1.trans k2).blk B (fun x => x)
  refine onPtr_mk ⟨(O.cell 0).trans rfl, _, _, _, A.reads0, _, _, _, B2.reads0, Calls.use (ord63 w2 x y) ?_⟩
  rintro _ w3 ⟨rfl, k3⟩
  refine ⟨_, rfl, ?_, (k1.trans k2).trans k3⟩
  congr 1
  have h1 := tLt_iff x y
  have h2 := tLt_iff y x
  have h3 : (tOrd x y == 0) = true ↔ ¬ (tLt x y = true) ∧ ¬ (tLt y x = true) := by
    rw [h1, h2]
    by_cases a1 : x.1 < y.1 <;> by_cases a2 : y.1 < x.1 <;> simp [tOrd, cmpI, a1, a2] <;> omega
  have h4 : alk tLt x y = true ↔ ¬ (tLt x y = true) ∧ ¬ (tLt y x = true) := by simp [alk]
  rw [Bool.eq_iff_iff, h3, h4]
theorem compact91 {w : World} {base : Nat} {q : Option Addr} {l c b : Nat} {xs : List T3} (h : SE En.t3 w base 44 q l c xs) (B : Blk w b 97 #[.func (.func 63) #[] #[]]) (hl : l ≤ 1000000000000000000) :
    Calls Tryd.prog 91 #[.slice q l c, .func (.func 92) #[] #[.pointer (some (ad b))]] w (Ret fun v w' => ∃ l', v = .slice q l' c ∧ SE En.t3 w' base 44 q l' c (dd tLt xs) ∧ Chg (fun k => some k = qB q) w w') := by
  have hlen := h.len
  have hle := h.le
  refine f91_92.calls _ _ _ _ ?_
  unfold f91_92.wp
  refine bc (fun g => ?_) fun g => ?_
  · have g : l < 2 := by have := of_decide_eq_true g; omega
    refine ⟨l, rfl, ?_, Chg.refl _ _⟩
    match xs, hlen, h with
    | [], _, h => exact h
    | [x], _, h => exact h
    | x :: y :: r, hlen, _ => simp at hlen; omega
  have g : 2 ≤ l := by have := of_decide_eq_false g; omega
  obtain ⟨p, hp⟩ : ∃ p, q = some p := by obtain ⟨a, _, ha, _⟩ := h.re.ex (i := 0) (by omega); exact ⟨a, ha⟩
  subst hp
  have hne : b ≠ p.block := fun e => SE.ne h B (by decide) p.block rfl e.symm
  have okB : ∀ {w' : World}, Chg (fun k => some k = qB (some p)) w w' → Blk w' b 97 #[.func (.func 63) #[] #[]] := fun k => k.blk B (fun e => hne (by simpa [qB] using e))
  refine ⟨fun x w' => ∃ k : Nat, x = (k : Int) ∧ 1 ≤ k ∧ k ≤ l ∧ SE En.t3 w' base 44 (some p) l c xs ∧ dd tLt (xs.take k) = xs.take k ∧ Chg (fun k => some k = qB (some p)) w w', fun x _ => l - x.toNat, ⟨1, rfl, Nat.le_refl _, by omega, h, ?_, Chg.refl _ _⟩, ?_⟩
  · match xs, hlen with
    | [], _ => rfl
    | x :: r, _ => rfl
  rintro _ w1 ⟨k, rfl, hk1, hkl, S1, e1, k1⟩
  refine bc (fun g1 => ?_) fun g1 => ?_
  case refine_2 =>
    have : k = l := by have := of_decide_eq_false g1; omega
    subst this
    rw [List.take_of_length_le (by omega)] at e1
    exact ⟨k, rfl, by rw [e1]; exact S1, k1⟩
  have g1 : k < l := by have := of_decide_eq_true g1; omega
  obtain ⟨y, hy⟩ := get_ex (l := xs) (i := k) (by omega)
  obtain ⟨u, hu⟩ := get_ex (l := xs) (i := k - 1) (by omega)
  have S1d := S1.drew
  obtain ⟨ry, by'⟩ := rdAt S1d hy
  obtain ⟨ru, bu⟩ := rdAt S1d hu
  rw [show IntKind.wrap .i64 ((k : Int) - 1) = ((k - 1 : Nat) : Int) by rw [wrapS (by omega) (by omega)]; omega]
  refine onPtr_mk ⟨by'.1, by'.2, _, _, _, ry, onPtr_mk ⟨bu.1, bu.2, _, _, _, ru, Calls.use (eq92 w1.drew (okB k1).drew y u) ?_⟩⟩
  rintro _ w2 ⟨rfl, k2⟩
  have S2 := S1d.chgN k2
  have k12 := k1.trans ((k2.of_none _).of_drew)
  have st := take_step (lt := tLt) hu hy (by omega)
  refine ⟨_, rfl, bc (fun ha => ?_) fun ha => ?_⟩
  case refine_2 =>
    rw [show IntKind.wrap .i64 ((k : Int) + 1) = ((k + 1 : Nat) : Int) by rw [wrapS (by omega) (by omega)]; omega]
    refine ⟨⟨k + 1, rfl, by omega, g1, S2, ?_, k12⟩, by simp only [Int.toNat_natCast]; omega⟩
    rw [st, ha, e1, take_snoc hy]; rfl
  -- one that is alike is found
  refine ⟨by'.1, by omega, ?_⟩
  have tk : Int.toNat (k : Int) = k := by omega
  rw [tk]
  have hcp : cutP (some p) c k 3 = some (p.add (k * 3)) := by
    rw [cutP, if_neg (by omega)]; rfl
  rw [hcp]
  refine ⟨fun x y w' => ∃ (i j : Nat) (ys : List T3), x = (i : Int) ∧ y = (j : Int) ∧ 1 ≤ j ∧ k + j ≤ l ∧ k ≤ i ∧ i < k + j ∧ SE En.t3 w' base 44 (some p) l c ys ∧ ys.take i = dd tLt (xs.take (k + j)) ∧ (∀ t, k + j - 1 ≤ t → ys[t]? = xs[t]?) ∧ Chg (fun k => some k = qB (some p)) w w', fun _ y _ => l - y.toNat, ⟨k, 1, xs, rfl, rfl, Nat.le_refl _, by omega, Nat.le_refl _, by omega, S2, by rw [st, ha, e1]; simp, fun _ _ => rfl, k12⟩, ?_⟩
  clear S1 S1d S2 ry ru by' bu
  rintro _ _ w3 ⟨i, j, ys, rfl, rfl, hj1, hj, hki, hij, S3, e3, hs3, k3⟩
  have l3 := S3.len
  refine bc (fun g2 => ?_) fun g2 => ?_
  · have g2 : k + j < l := by have := of_decide_eq_true g2; omega
    obtain ⟨y', hy'⟩ := get_ex (l := xs) (i := k + j) (by omega)
    obtain ⟨u', hu'⟩ := get_ex (l := xs) (i := k + j - 1) (by omega)
    have S3d := S3.drew
    have yy : ys[k + j]? = some y' := by rw [hs3 _ (by omega)]; exact hy'
    have yu : ys[k + j - 1]? = some u' := by rw [hs3 _ (by omega)]; exact hu'
    have ry := (rdAt S3d yy).1
    have ru := (rdAt S3d yu).1
    rw [show IntKind.wrap .i64 ((j : Int) - 1) = ((j - 1 : Nat) : Int) by rw [wrapS (by omega) (by omega)]; omega]
    have a1 : (p.add (k * 3)).add (j * 3) = p.add ((k + j) * 3) := by rw [Addr.add_add]; congr 1; omega
    have a2 : (p.add (k * 3)).add ((j - 1) * 3) = p.add ((k + j - 1) * 3) := by rw [Addr.add_add]; congr 1; omega
    refine onPtr_mk ⟨by omega, by omega, _, _, _, (show reads w3.drew ((p.add (k * 3)).add (j * 3)) (En.t3.enc y') by rw [a1]; exact ry), onPtr_mk ⟨by omega, by omega, _, _, _, (show reads w3.drew ((p.add (k * 3)).add ((j - 1) * 3)) (En.t3.enc u') by rw [a2]; exact ru), Calls.use (eq92 w3.drew (okB k3).drew y' u') ?_⟩⟩
    rintro _ w4 ⟨rfl, k4⟩
    have S4 := S3d.chgN k4
    have k34 := k3.trans ((k4.of_none _).of_drew)
    have st' := take_step (lt := tLt) hu' hy' (by omega)
    rw [show k + j + 1 = k + (j + 1) by omega] at st'
    rw [show IntKind.wrap .i64 ((j : Int) + 1) = ((j + 1 : Nat) : Int) by rw [wrapS (by omega) (by omega)]; omega]
    refine ⟨_, rfl, bc (fun hb => ?_) fun hb => ?_⟩
    · have hb := Eq.mp (Bool.not_eq_true' _) hb
      have ry4 := (rdAt S4 yy).1
      obtain ⟨p', hp', hcan⟩ := S4.can (i := i) (by omega)
      cases hp'
      have hc0 := hcan 0 3 (by decide)
      rw [add_zero'] at hc0
      refine onPtr_mk ⟨by omega, by omega, _, _, _, (show reads w4 ((p.add (k * 3)).add (j * 3)) (En.t3.enc y') by rw [a1]; exact ry4), onPtr_mk ⟨by omega, by omega, hc0, fun w5 e5 => ?_⟩⟩
      obtain ⟨S5, k5⟩ := S4.set rfl (i := i) (x' := y') (by omega) e5
      rw [show IntKind.wrap .i64 ((i : Int) + 1) = ((i + 1 : Nat) : Int) by rw [wrapS (by omega) (by omega)]; omega]
      refine ⟨⟨i + 1, j + 1, ys.set i y', rfl, rfl, by omega, by omega, by omega, by omega, S5, ?_, fun t ht => ?_, k34.trans k5⟩, by simp only [Int.toNat_natCast]; omega⟩
      · rw [st', hb, ← e3, take_snoc (List.getElem?_set_self (by omega)), List.take_set_of_le (Nat.le_refl _)]; rfl
      · rw [List.getElem?_set_ne (by omega)]; exact hs3 t (by omega)
    · have hb := Eq.mp (Bool.not_eq_false' _) hb
      refine ⟨⟨i, j + 1, ys, rfl, rfl, by omega, by omega, hki, by omega, S4, ?_, fun t ht => hs3 t (by omega), k34⟩, by simp only [Int.toNat_natCast]; omega⟩
      rw [st', hb, ← e3]; simp
  · have : k + j = l := by have := of_decide_eq_false g2; omega
    have ti : Int.toNat (i : Int) = i := by omega
    rw [ti]
    obtain ⟨w6, hr, S6, k6⟩ := clearTail (P := Tryd.prog) (t := 40) (ty := 0) S3 (k := i) (by omega) Tryd.underlying40 zero44 one37 rfl
    refine ⟨by omega, by omega, w6, hr, by omega, by omega, i, rfl, ?_, k3.trans k6⟩
    rw [this, List.take_of_length_le (l := xs) (by omega)] at e3
    rw [← e3]; exact S6
theorem once62 {w : World} {q : Option Addr} {l c : Nat} {xs : List T3} (h : RE En.t3 w q l xs) (hl : l * 24 ≤ 140737488351232) :
    Calls Tryd.prog 62 #[.slice q l c, .func (.func 63) #[] #[]] w (Ret fun v w' => ∃ q' l' c' ys, v = .slice q' l' c' ∧ l' ≤ l ∧ SE En.t3 w' w.heap.size 44 q' l' c' (dd tLt ys) ∧ Srt tLt ys ∧ Same tLt xs ys ∧ Chg none_ w w') := by
  refine f62_63.calls _ _ _ ?_
  unfold f62_63.wp
  refine newBox fun w1 B1 k1 z1 => Calls.use (clone85 (h.chg k1) hl) ?_
  rintro _ w2 ⟨q1, c1, rfl, S2, k2⟩
  have B2 := k2.blk B1 (fun x => x)
  refine ⟨q1, l, c1, rfl, (B2.cell 0).trans rfl, Calls.use (sort90 S2 (by omega)) ?_⟩
  rintro _ w3 ⟨rfl, ys, S3, s3, e3, k3⟩
  have B3 := k3.blk B2 (fun e => SE.ne S2 B2 (by decide) _ e.symm rfl)
  refine ⟨rfl, Calls.use (compact91 S3 B3 (by omega)) ?_⟩
  rintro _ w4 ⟨l', rfl, S4, k4⟩
  have hz := k1.size
  have k02 := k1.trans k2
  refine ⟨q1, l', c1, rfl, q1, l', c1, ys, rfl, ?_, S4.lower hz, s3, e3, ?_⟩
  · have h1 := S4.len
    have h2 := S3.len
    have := dd_le (lt := tLt) ys
    omega
  exact (k02.up k3 fun k hk => by have := (S2.lt hk.symm).2; omega).up k4 fun k hk => by have := (S3.lt hk.symm).2; omega
end Go.Proofs.YtdlbmmodlkmofaaDoor
