import Derived.Test.YtdlbmmodlkmofaaDoorPl3
set_option maxRecDepth 20000
namespace Go.Proofs.YtdlbmmodlkmofaaDoor
open Go Go.Vc Go.RowKit
/-! # symMerge -/
theorem of_beq {n : Nat} (h : (((n : Nat) : Int) == 1) = true) : n = 1 := by
  have : ((n : Nat) : Int) = 1 := by simpa using h
  omega
theorem symL106 {w : World} {base : Nat} {q : Option Addr} {l c : Nat} {P L R S : List T3} (h : SE En.t3 w base 37 q l c (P ++ (L ++ (R ++ S)))) (hL : L ≠ []) (hR : R ≠ []) (sL : Srt fLt L) (sR : Srt fLt R) (hl : l ≤ 4611686018427387903) (g0 : L.length = 1) :
    Calls Tryd.prog 106 #[.slice q l c, .int .i64 ((P.length : Nat) : Int), .int .i64 ((P.length + L.length : Nat) : Int), .int .i64 ((P.length + L.length + R.length : Nat) : Int), .func (.func 40) #[] #[]] w (Ret fun v w' => v = .tuple #[] ∧ ∃ M, SE En.t3 w' base 37 q l c (P ++ (M ++ S)) ∧ Srt fLt M ∧ Same fLt (L ++ R) M ∧ Chg (fun k => some k = qB q) w w') := by
  have hlen := h.len
  simp only [List.length_append] at hlen
  have hL0 := List.length_pos_iff.2 hL
  have hR0 := List.length_pos_iff.2 hR
  obtain ⟨p, hp⟩ : ∃ p, q = some p := by obtain ⟨a, _, ha, _⟩ := h.re.ex (i := 0) (by omega); exact ⟨a, ha⟩
  subst hp
  refine f106_40.calls _ _ _ _ _ _ ?_
  unfold f106_40.wp
  obtain ⟨a, ea⟩ : ∃ a, a = P.length := ⟨_, rfl⟩
  obtain ⟨m, em⟩ : ∃ m, m = P.length + L.length := ⟨_, rfl⟩
  obtain ⟨b, eb⟩ : ∃ b, b = P.length + L.length + R.length := ⟨_, rfl⟩
  rw [← eb, ← em, ← ea, show IntKind.wrap .i64 ((m : Int) - (a : Int)) = ((L.length : Nat) : Int) by rw [wrapS (by omega) (by omega)]; omega, show IntKind.wrap .i64 ((b : Int) - (m : Int)) = ((R.length : Nat) : Int) by rw [wrapS (by omega) (by omega)]; omega]
  refine bc (fun g => ?_) fun g => absurd g (by rw [g0]; decide)
  have hL1 : L.length = 1 := by have : ((L.length : Nat) : Int) = 1 := by simpa using g
                                omega
  obtain ⟨x, rfl⟩ := List.length_eq_one_iff.1 hL1
  have ga : (P ++ ([x] ++ (R ++ S)))[a]? = some x := by rw [ea]; exact get_mid rfl
  refine ⟨fun i j w' => ∃ u v : Nat, i = ((m + u : Nat) : Int) ∧ j = ((m + v : Nat) : Int) ∧ u ≤ v ∧ v ≤ R.length ∧ SE En.t3 w' base 37 (some p) l c (P ++ ([x] ++ (R ++ S))) ∧ (u = 0 ∨ ∃ y, R[u - 1]? = some y ∧ fLt y x = true) ∧ (v = R.length ∨ ∃ y, R[v]? = some y ∧ fLt y x = false) ∧ Chg (fun k => some k = qB (some p)) w w', fun i j _ => j.toNat - i.toNat, ⟨0, R.length, by omega, by omega, Nat.zero_le _, Nat.le_refl _, h, .inl rfl, .inl rfl, Chg.refl _ _⟩, ?_⟩
  rintro _ _ w1 ⟨u, v, rfl, rfl, huv, hv, S1, c1, c2, k1⟩
  refine bc (fun g1 => ?_) fun g1 => ?_
  · have g1 : u < v := by have := of_decide_eq_true g1; omega
    have eh := half64 (i := m + u) (j := m + v) (by omega)
    obtain ⟨t, et⟩ : ∃ t, t = (u + v) / 2 := ⟨_, rfl⟩
    rw [show (m + u + (m + v)) / 2 = m + t by omega] at eh
    rw [eh]
    obtain ⟨y, hy⟩ := get_ex (l := R) (i := t) (by omega)
    have S1d := S1.drew
    obtain ⟨ry, by'⟩ := rdAt S1d (k := m + t) (x := y) (by rw [get_in2 (P := P) (L := [x]) (t := t) (by omega) (by omega)]; exact hy)
    obtain ⟨rx, bx⟩ := rdAt S1d ga
    refine ⟨by decide, onPtr_mk ⟨by'.1, by'.2, _, _, _, ry, onPtr_mk ⟨bx.1, bx.2, _, _, _, rx, Calls.use (ord40 w1.drew y x) ?_⟩⟩⟩
    rintro _ w2 ⟨rfl, k2⟩
    have S2 := S1d.chgN k2
    have k12 := k1.trans ((k2.of_none _).of_drew)
    refine ⟨_, rfl, bc (fun hb => ?_) fun hb => ?_⟩
    · rw [show IntKind.wrap .i64 (((m + t : Nat) : Int) + 1) = ((m + (t + 1) : Nat) : Int) by rw [wrapS (by omega) (by omega)]; omega]
      exact ⟨⟨t + 1, v, rfl, rfl, by omega, hv, S2, .inr ⟨y, hy, hb⟩, c2, k12⟩, by simp only [Int.toNat_natCast]; omega⟩
    · exact ⟨⟨u, t, rfl, rfl, by omega, by omega, S2, c1, .inr ⟨y, hy, hb⟩, k12⟩, by simp only [Int.toNat_natCast]; omega⟩
  · have : u = v := by have := of_decide_eq_false g1; omega
    subst this
    have lT : (R.take u).length = u := by simp; omega
    rw [show IntKind.wrap .i64 (((m + u : Nat) : Int) - 1) = ((a + u : Nat) : Int) by rw [wrapS (by omega) (by omega)]; omega]
    refine ⟨fun i w' => ∃ k : Nat, i = ((a + k : Nat) : Int) ∧ k ≤ u ∧ SE En.t3 w' base 37 (some p) l c (P ++ (R.take k ++ x :: (R.drop k ++ S))) ∧ Chg (fun k => some k = qB (some p)) w w', fun i _ => a + u - i.toNat, ⟨0, by omega, Nat.zero_le _, by simpa using S1, k1⟩, ?_⟩
    rintro _ w3 ⟨k, rfl, hk, S3, k3⟩
    refine bc (fun g2 => ?_) fun g2 => ?_
    · have g2 : k < u := by have := of_decide_eq_true g2; omega
      obtain ⟨y, hy⟩ := get_ex (l := R) (i := k) (by omega)
      have lK : (R.take k).length = k := by simp; omega
      rw [show IntKind.wrap .i64 (((a + k : Nat) : Int) + 1) = ((a + (k + 1) : Nat) : Int) by rw [wrapS (by omega) (by omega)]; omega]
      have eL : P ++ (R.take k ++ x :: (R.drop k ++ S)) = (P ++ R.take k) ++ x :: ([] ++ y :: (R.drop (k + 1) ++ S)) := by rw [drop_cons hy]; simp
      have S3d := S3.drew
      rw [eL] at S3d
      refine swapT3 S3d (i := a + (k + 1)) (j := a + k) (x := y) (y := x) rfl rfl ?_ (get_mid (by simp only [List.length_append, lK]; omega)) fun w' S' k' => ?_
      · have : (P ++ R.take k) ++ x :: ([] ++ y :: (R.drop (k + 1) ++ S)) = (P ++ R.take k ++ [x]) ++ y :: (R.drop (k + 1) ++ S) := by simp
        rw [this]; exact get_mid (by simp only [List.length_append, lK, List.length_cons, List.length_nil]; omega)
      · rw [sw_mid' (by simp only [List.length_append, lK]; omega) (by simp only [List.length_append, lK, List.length_nil]; omega)] at S'
        refine ⟨⟨k + 1, rfl, g2, by rw [take_snoc hy]; simpa using S', k3.trans k'.of_drew⟩, by simp only [Int.toNat_natCast]; omega⟩
    · have : k = u := by have := of_decide_eq_false g2; omega
      subst this
      refine ⟨rfl, R.take k ++ x :: R.drop k, by simpa using S3, ?_, ?_, k3⟩
      all_goals
        have hc := cut_ok fW (L := [x]) (R := R) (Srt.one x) sR (i := 0) (j := k) (.inl rfl) (by
          rcases c1 with c1 | ⟨y, hy, c1⟩
          · exact .inl c1
          · exact .inr (.inr ⟨x, y, rfl, hy, c1⟩))
        have hx : ∀ y ∈ R.drop k, fLt y x = false := fun y hy => by
          obtain ⟨t, ht, hyt⟩ := mem_drop_ex hy
          rcases c2 with c2 | ⟨y', hy', c2⟩
          · have := get_lt hyt; omega
          · exact fW.tr _ _ _ (sR.le fW ht hy' hyt) c2
        have hm := merge_ok fW (L1 := []) (L2 := [x]) (R1 := R.take k) (R2 := R.drop k) (M1 := R.take k) (M2 := x :: R.drop k) (Srt.one x) (by rw [List.take_append_drop]; exact sR) (fun x hx => by simp at hx) (by simpa using hc.2) (Srt.left (B := R.drop k) (by rw [List.take_append_drop]; exact sR)) (Same.refl _) (List.pairwise_cons.2 ⟨hx, Srt.right (A := R.take k) (by rw [List.take_append_drop]; exact sR)⟩) (Same.refl _)
      · exact hm.1
      · have := hm.2
        rw [List.take_append_drop] at this
        exact this
theorem symR106 {w : World} {base : Nat} {q : Option Addr} {l c : Nat} {P L R S : List T3} (h : SE En.t3 w base 37 q l c (P ++ (L ++ (R ++ S)))) (hL : L ≠ []) (hR : R ≠ []) (sL : Srt fLt L) (sR : Srt fLt R) (hl : l ≤ 4611686018427387903) (g0 : L.length ≠ 1) (g1 : R.length = 1) :
    Calls Tryd.prog 106 #[.slice q l c, .int .i64 ((P.length : Nat) : Int), .int .i64 ((P.length + L.length : Nat) : Int), .int .i64 ((P.length + L.length + R.length : Nat) : Int), .func (.func 40) #[] #[]] w (Ret fun v w' => v = .tuple #[] ∧ ∃ M, SE En.t3 w' base 37 q l c (P ++ (M ++ S)) ∧ Srt fLt M ∧ Same fLt (L ++ R) M ∧ Chg (fun k => some k = qB q) w w') := by
  have hlen := h.len
  simp only [List.length_append] at hlen
  have hL0 := List.length_pos_iff.2 hL
  have hR0 := List.length_pos_iff.2 hR
  obtain ⟨p, hp⟩ : ∃ p, q = some p := by obtain ⟨a, _, ha, _⟩ := h.re.ex (i := 0) (by omega); exact ⟨a, ha⟩
  subst hp
  refine f106_40.calls _ _ _ _ _ _ ?_
  unfold f106_40.wp
  obtain ⟨a, ea⟩ : ∃ a, a = P.length := ⟨_, rfl⟩
  obtain ⟨m, em⟩ : ∃ m, m = P.length + L.length := ⟨_, rfl⟩
  obtain ⟨b, eb⟩ : ∃ b, b = P.length + L.length + R.length := ⟨_, rfl⟩
  rw [← eb, ← em, ← ea, show IntKind.wrap .i64 ((m : Int) - (a : Int)) = ((L.length : Nat) : Int) by rw [wrapS (by omega) (by omega)]; omega, show IntKind.wrap .i64 ((b : Int) - (m : Int)) = ((R.length : Nat) : Int) by rw [wrapS (by omega) (by omega)]; omega]
  refine bc (fun g => absurd (of_beq g) g0) fun g => bc (fun g' => ?_) fun g' => absurd g' (by rw [g1]; decide)
  have hR1 : R.length = 1 := by have : ((R.length : Nat) : Int) = 1 := by simpa using g'
                                omega
  obtain ⟨y, rfl⟩ := List.length_eq_one_iff.1 hR1
  have gm : (P ++ (L ++ ([y] ++ S)))[m]? = some y := by rw [em, ← List.append_assoc]; exact get_mid (by simp)
  refine ⟨fun i j w' => ∃ u v : Nat, i = ((a + u : Nat) : Int) ∧ j = ((a + v : Nat) : Int) ∧ u ≤ v ∧ v ≤ L.length ∧ SE En.t3 w' base 37 (some p) l c (P ++ (L ++ ([y] ++ S))) ∧ (u = 0 ∨ ∃ x, L[u - 1]? = some x ∧ fLt y x = false) ∧ (v = L.length ∨ ∃ x, L[v]? = some x ∧ fLt y x = true) ∧ Chg (fun k => some k = qB (some p)) w w', fun i j _ => j.toNat - i.toNat, ⟨0, L.length, by omega, by omega, Nat.zero_le _, Nat.le_refl _, h, .inl rfl, .inl rfl, Chg.refl _ _⟩, ?_⟩
  rintro _ _ w1 ⟨u, v, rfl, rfl, huv, hv, S1, c1, c2, k1⟩
  refine bc (fun g1 => ?_) fun g1 => ?_
  · have g1 : u < v := by have := of_decide_eq_true g1; omega
    have eh := half64 (i := a + u) (j := a + v) (by omega)
    obtain ⟨t, et⟩ : ∃ t, t = (u + v) / 2 := ⟨_, rfl⟩
    rw [show (a + u + (a + v)) / 2 = a + t by omega] at eh
    rw [eh]
    obtain ⟨x, hx⟩ := get_ex (l := L) (i := t) (by omega)
    have S1d := S1.drew
    obtain ⟨rx, bx⟩ := rdAt S1d (k := a + t) (x := x) (by rw [get_in (P := P) (t := t) (by omega) (by omega)]; exact hx)
    obtain ⟨ry, by'⟩ := rdAt S1d gm
    refine ⟨by decide, onPtr_mk ⟨by'.1, by'.2, _, _, _, ry, onPtr_mk ⟨bx.1, bx.2, _, _, _, rx, Calls.use (ord40 w1.drew y x) ?_⟩⟩⟩
    rintro _ w2 ⟨rfl, k2⟩
    have S2 := S1d.chgN k2
    have k12 := k1.trans ((k2.of_none _).of_drew)
    refine ⟨_, rfl, bc (fun hb => ?_) fun hb => ?_⟩
    · rw [show IntKind.wrap .i64 (((a + t : Nat) : Int) + 1) = ((a + (t + 1) : Nat) : Int) by rw [wrapS (by omega) (by omega)]; omega]
      exact ⟨⟨t + 1, v, rfl, rfl, by omega, hv, S2, .inr ⟨x, hx, Eq.mp (Bool.not_eq_true' _) hb⟩, c2, k12⟩, by simp only [Int.toNat_natCast]; omega⟩
    · exact ⟨⟨u, t, rfl, rfl, by omega, by omega, S2, c1, .inr ⟨x, hx, Eq.mp (Bool.not_eq_false' _) hb⟩, k12⟩, by simp only [Int.toNat_natCast]; omega⟩
  · have : u = v := by have := of_decide_eq_false g1; omega
    subst this
    refine ⟨fun i w' => ∃ k : Nat, i = ((a + k : Nat) : Int) ∧ u ≤ k ∧ k ≤ L.length ∧ SE En.t3 w' base 37 (some p) l c (P ++ (L.take k ++ y :: (L.drop k ++ S))) ∧ Chg (fun k => some k = qB (some p)) w w', fun i _ => i.toNat, ⟨L.length, by omega, hv, Nat.le_refl _, by simpa using S1, k1⟩, ?_⟩
    rintro _ w3 ⟨k, rfl, hk, hkL, S3, k3⟩
    refine bc (fun g2 => ?_) fun g2 => ?_
    · have g2 : u < k := by have := of_decide_eq_true g2; omega
      obtain ⟨k, rfl⟩ : ∃ k', k = k' + 1 := ⟨k - 1, by omega⟩
      obtain ⟨x, hx⟩ := get_ex (l := L) (i := k) (by omega)
      have lK : (L.take k).length = k := by simp; omega
      rw [show IntKind.wrap .i64 (((a + (k + 1) : Nat) : Int) - 1) = ((a + k : Nat) : Int) by rw [wrapS (by omega) (by omega)]; omega]
      have eL : P ++ (L.take (k + 1) ++ y :: (L.drop (k + 1) ++ S)) = (P ++ L.take k) ++ x :: ([] ++ y :: (L.drop (k + 1) ++ S)) := by rw [take_snoc hx]; simp
      have S3d := S3.drew
      rw [eL] at S3d
      refine swapT3 S3d (i := a + k) (j := a + (k + 1)) (x := x) (y := y) rfl rfl (get_mid (by simp only [List.length_append, lK]; omega)) ?_ fun w' S' k' => ?_
      · have : (P ++ L.take k) ++ x :: ([] ++ y :: (L.drop (k + 1) ++ S)) = (P ++ L.take k ++ [x]) ++ y :: (L.drop (k + 1) ++ S) := by simp
        rw [this]; exact get_mid (by simp only [List.length_append, lK, List.length_cons, List.length_nil]; omega)
      · rw [sw_mid (by simp only [List.length_append, lK]; omega) (by simp only [List.length_append, lK, List.length_nil]; omega)] at S'
        refine ⟨⟨k, rfl, by omega, by omega, by rw [drop_cons hx]; simpa using S', k3.trans k'.of_drew⟩, by simp only [Int.toNat_natCast]; omega⟩
    · have : k = u := by have := of_decide_eq_false g2; omega
      subst this
      refine ⟨rfl, L.take k ++ y :: L.drop k, by simpa using S3, ?_, ?_, k3⟩
      all_goals
        have hc := cut_ok fW (L := L) (R := [y]) sL (Srt.one y) (i := k) (j := 1) (.inr (.inl (by simp))) (by
          rcases c2 with c2 | ⟨x, hx, c2⟩
          · exact .inr (.inl (by omega))
          · exact .inr (.inr ⟨x, y, hx, rfl, c2⟩))
        have hx : ∀ x ∈ L.take k, fLt y x = false := fun x hx => by
          obtain ⟨t, ht, hxt⟩ := mem_take_ex hx
          rcases c1 with c1 | ⟨x', hx', c1⟩
          · omega
          · exact fW.tr _ _ _ c1 (sL.le fW (by omega) hxt hx')
        have hm := merge_ok fW (L1 := L.take k) (L2 := L.drop k) (R1 := [y]) (R2 := []) (M1 := L.take k ++ [y]) (M2 := L.drop k) (by rw [List.take_append_drop]; exact sL) (Srt.one y) (fun x _ y hy => by simp at hy) (by simpa using hc.2) (List.pairwise_append.2 ⟨Srt.left (B := L.drop k) (by rw [List.take_append_drop]; exact sL), Srt.one y, fun x hx' z hz => by simp at hz; subst hz; exact hx x hx'⟩) (Same.refl _) (Srt.right (A := L.take k) (by rw [List.take_append_drop]; exact sL)) (by rw [List.append_nil]; exact Same.refl _)
        rw [List.append_assoc (L.take k) [y]] at hm
      · exact hm.1
      · have := hm.2
        rw [List.take_append_drop] at this
        simpa using this
theorem symS106 {fuel : Nat} {w : World} {base : Nat} {q : Option Addr} {l c : Nat} {P L R S : List T3} (ih : ∀ {w : World} {P L R S : List T3} (_ : SE En.t3 w base 37 q l c (P ++ (L ++ (R ++ S)))) (_ : L.length + R.length ≤ fuel) (_ : L ≠ []) (_ : R ≠ []) (_ : Srt fLt L) (_ : Srt fLt R), Calls Tryd.prog 106 #[.slice q l c, .int .i64 ((P.length : Nat) : Int), .int .i64 ((P.length + L.length : Nat) : Int), .int .i64 ((P.length + L.length + R.length : Nat) : Int), .func (.func 40) #[] #[]] w (Ret fun v w' => v = .tuple #[] ∧ ∃ M, SE En.t3 w' base 37 q l c (P ++ (M ++ S)) ∧ Srt fLt M ∧ Same fLt (L ++ R) M ∧ Chg (fun k => some k = qB q) w w')) (h : SE En.t3 w base 37 q l c (P ++ (L ++ (R ++ S)))) (hL : L ≠ []) (hR : R ≠ []) (sL : Srt fLt L) (sR : Srt fLt R) (hl : l ≤ 4611686018427387903) (hf : L.length + R.length ≤ fuel + 1) (g0 : L.length ≠ 1) (g1 : R.length ≠ 1) :
    Calls Tryd.prog 106 #[.slice q l c, .int .i64 ((P.length : Nat) : Int), .int .i64 ((P.length + L.length : Nat) : Int), .int .i64 ((P.length + L.length + R.length : Nat) : Int), .func (.func 40) #[] #[]] w (Ret fun v w' => v = .tuple #[] ∧ ∃ M, SE En.t3 w' base 37 q l c (P ++ (M ++ S)) ∧ Srt fLt M ∧ Same fLt (L ++ R) M ∧ Chg (fun k => some k = qB q) w w') := by
  have hlen := h.len
  simp only [List.length_append] at hlen
  have hL0 := List.length_pos_iff.2 hL
  have hR0 := List.length_pos_iff.2 hR
  obtain ⟨p, hp⟩ : ∃ p, q = some p := by obtain ⟨a, _, ha, _⟩ := h.re.ex (i := 0) (by omega); exact ⟨a, ha⟩
  subst hp
  refine f106_40.calls _ _ _ _ _ _ ?_
  unfold f106_40.wp
  obtain ⟨a, ea⟩ : ∃ a, a = P.length := ⟨_, rfl⟩
  obtain ⟨m, em⟩ : ∃ m, m = P.length + L.length := ⟨_, rfl⟩
  obtain ⟨b, eb⟩ : ∃ b, b = P.length + L.length + R.length := ⟨_, rfl⟩
  rw [← eb, ← em, ← ea, show IntKind.wrap .i64 ((m : Int) - (a : Int)) = ((L.length : Nat) : Int) by rw [wrapS (by omega) (by omega)]; omega, show IntKind.wrap .i64 ((b : Int) - (m : Int)) = ((R.length : Nat) : Int) by rw [wrapS (by omega) (by omega)]; omega]
  refine bc (fun g => absurd (of_beq g) g0) fun g => bc (fun g' => absurd (of_beq g') g1) fun g' => ?_
  have hL2 : 2 ≤ L.length := by
    have : ¬ ((L.length : Nat) : Int) = 1 := by simpa using g
    omega
  have hR2 : 2 ≤ R.length := by
    have : ¬ ((R.length : Nat) : Int) = 1 := by simpa using g'
    omega
  have eh := half64 (i := a) (j := b) (by omega)
  obtain ⟨mid, emid⟩ : ∃ mid, mid = (a + b) / 2 := ⟨_, rfl⟩
  rw [← emid] at eh
  rw [eh]
  have en : IntKind.wrap .i64 ((mid : Int) + (m : Int)) = ((mid + m : Nat) : Int) := by rw [wrapS (by omega) (by omega)]; omega
  have ep : IntKind.wrap .i64 (((mid + m : Nat) : Int) - 1) = ((mid + m - 1 : Nat) : Int) := by rw [wrapS (by omega) (by omega)]; omega
  rw [en, ep]
  refine ⟨by decide, fun x y w' => ∃ lo hi : Nat, x = (lo : Int) ∧ y = (hi : Int) ∧ w = w' ∧ (m > mid ∧ lo = mid + m - b ∧ hi = mid ∨ m ≤ mid ∧ lo = a ∧ hi = m), ?_, ?_⟩
  case refine_2 =>
    refine bc (fun hgt => ?_) fun hle => ?_
    · have hgt : mid < m := by have := of_decide_eq_true hgt; omega
      exact ⟨mid + m - b, mid, by rw [wrapS (by omega) (by omega)]; omega, rfl, rfl, .inl ⟨hgt, rfl, rfl⟩⟩
    · have hle : m ≤ mid := by have := of_decide_eq_false hle; omega
      exact ⟨a, m, rfl, rfl, rfl, .inr ⟨hle, rfl, rfl⟩⟩
  rintro _ _ _ ⟨lo, hi, rfl, rfl, rfl, hlh⟩
  refine ⟨fun x y w' => ∃ s r : Nat, x = (s : Int) ∧ y = (r : Int) ∧ lo ≤ s ∧ s ≤ r ∧ r ≤ hi ∧ SE En.t3 w' base 37 (some p) l c (P ++ (L ++ (R ++ S))) ∧ (s = lo ∨ ∃ x y, L[s - 1 - a]? = some x ∧ R[mid - s]? = some y ∧ fLt y x = false) ∧ (r = hi ∨ ∃ x y, L[r - a]? = some x ∧ R[mid - 1 - r]? = some y ∧ fLt y x = true) ∧ Chg (fun k => some k = qB (some p)) w w', fun x y _ => y.toNat - x.toNat, ⟨lo, hi, rfl, rfl, Nat.le_refl _, by omega, Nat.le_refl _, h, .inl rfl, .inl rfl, Chg.refl _ _⟩, ?_⟩
  rintro _ _ w1 ⟨s, r, rfl, rfl, hlo, hsr, hhi, S1, c1, c2, k1⟩
  refine bc (fun g1 => ?_) fun g1 => ?_
  · have g1 : s < r := by have := of_decide_eq_true g1; omega
    have eh2 := half64 (i := s) (j := r) (by omega)
    obtain ⟨t, et⟩ : ∃ t, t = (s + r) / 2 := ⟨_, rfl⟩
    rw [← et] at eh2
    rw [eh2]
    have epc : IntKind.wrap .i64 (((mid + m - 1 : Nat) : Int) - (t : Int)) = ((mid + m - 1 - t : Nat) : Int) := by rw [wrapS (by omega) (by omega)]; omega
    rw [epc]
    obtain ⟨x, hx⟩ := get_ex (l := L) (i := t - a) (by omega)
    obtain ⟨y, hy⟩ := get_ex (l := R) (i := mid - 1 - t) (by omega)
    have S1d := S1.drew
    obtain ⟨rx, bx⟩ := rdAt S1d (k := t) (x := x) (by rw [get_in (P := P) (t := t - a) (by omega) (by omega)]; exact hx)
    obtain ⟨ry, by'⟩ := rdAt S1d (k := mid + m - 1 - t) (x := y) (by rw [get_in2 (P := P) (L := L) (t := mid - 1 - t) (by omega) (by omega)]; exact hy)
    refine ⟨by decide, onPtr_mk ⟨by'.1, by'.2, _, _, _, ry, onPtr_mk ⟨bx.1, bx.2, _, _, _, rx, Calls.use (ord40 w1.drew y x) ?_⟩⟩⟩
    rintro _ w2 ⟨rfl, k2⟩
    have S2 := S1d.chgN k2
    have k12 := k1.trans ((k2.of_none _).of_drew)
    refine ⟨_, rfl, bc (fun hb => ?_) fun hb => ?_⟩
    · rw [show IntKind.wrap .i64 ((t : Int) + 1) = ((t + 1 : Nat) : Int) by rw [wrapS (by omega) (by omega)]; omega]
      exact ⟨⟨t + 1, r, rfl, rfl, by omega, by omega, hhi, S2, .inr ⟨x, y, by rw [Nat.add_sub_cancel]; exact hx, by rw [show mid - (t + 1) = mid - 1 - t by omega]; exact hy, Eq.mp (Bool.not_eq_true' _) hb⟩, c2, k12⟩, by simp only [Int.toNat_natCast]; omega⟩
    · exact ⟨⟨s, t, rfl, rfl, hlo, by omega, by omega, S2, c1, .inr ⟨x, y, hx, hy, Eq.mp (Bool.not_eq_false' _) hb⟩, k12⟩, by simp only [Int.toNat_natCast]; omega⟩
  have : s = r := by have := of_decide_eq_false g1; omega
  subst this
  have ee : IntKind.wrap .i64 (((mid + m : Nat) : Int) - (s : Int)) = ((mid + m - s : Nat) : Int) := by rw [wrapS (by omega) (by omega)]; omega
  rw [ee]
  obtain ⟨i, ei⟩ : ∃ i, i = s - a := ⟨_, rfl⟩
  obtain ⟨j, ej⟩ : ∃ j, j = mid - s := ⟨_, rfl⟩
  have his : s = a + i ∧ i ≤ L.length ∧ j ≤ R.length ∧ mid = a + i + j := by omega
  obtain ⟨hsa, hiL, hjR, hmid⟩ := his
  have hc := cut_ok fW sL sR (i := i) (j := j) (by
      rcases c1 with c1 | ⟨x, y, hx, hy, c1⟩
      · rcases hlh with h1 | h1
        · exact .inr (.inl (by omega))
        · exact .inl (by omega)
      · exact .inr (.inr ⟨x, y, by rw [show i - 1 = s - 1 - a by omega]; exact hx, by rw [ej]; exact hy, c1⟩)) (by
      rcases c2 with c2 | ⟨x, y, hx, hy, c2⟩
      · rcases hlh with h1 | h1
        · exact .inl (by omega)
        · exact .inr (.inl (by omega))
      · exact .inr (.inr ⟨x, y, by rw [ei]; exact hx, by rw [show j - 1 = mid - 1 - s by omega]; exact hy, c2⟩))
  obtain ⟨L1, eL1⟩ : ∃ L1, L1 = L.take i := ⟨_, rfl⟩
  obtain ⟨L2, eL2⟩ : ∃ L2, L2 = L.drop i := ⟨_, rfl⟩
  obtain ⟨R1, eR1⟩ : ∃ R1, R1 = R.take j := ⟨_, rfl⟩
  obtain ⟨R2, eR2⟩ : ∃ R2, R2 = R.drop j := ⟨_, rfl⟩
  have eL : L = L1 ++ L2 := by rw [eL1, eL2, List.take_append_drop]
  have eR : R = R1 ++ R2 := by rw [eR1, eR2, List.take_append_drop]
  have lL1 : L1.length = i := by rw [eL1, List.length_take]; omega
  have lL2 : L2.length = L.length - i := by rw [eL2, List.length_drop]
  have lR1 : R1.length = j := by rw [eR1, List.length_take]; omega
  have lR2 : R2.length = R.length - j := by rw [eR2, List.length_drop]
  rw [← eL1, ← eL2, ← eR1, ← eR2] at hc
  have eE : mid + m - s = m + j := by omega
  rw [eE]
  rw [eL, eR] at S1
  have sL' := sL
  have sR' := sR
  rw [eL] at sL'
  rw [eR] at sR'
  have nil_of : ∀ {X : List T3}, X.length = 0 → X = [] := fun h => List.eq_nil_of_length_eq_zero h
  have pos_of : ∀ {X : List T3}, 0 < X.length → X ≠ [] := fun h => List.length_pos_iff.1 h
  refine ⟨fun w' => SE En.t3 w' base 37 (some p) l c (P ++ (L1 ++ (R1 ++ (L2 ++ (R2 ++ S))))) ∧ Chg (fun k => some k = qB (some p)) w w', fun w14 ⟨S14, k14⟩ => ?_, ?_⟩
  · refine ⟨fun w' => ∃ M1, Srt fLt M1 ∧ Same fLt (L1 ++ R1) M1 ∧ M1.length = L1.length + R1.length ∧ SE En.t3 w' base 37 (some p) l c (P ++ (M1 ++ (L2 ++ (R2 ++ S)))) ∧ Chg (fun k => some k = qB (some p)) w w', fun w17 ⟨M1, s1, e1, lM, S17, k17⟩ => ?_, ?_⟩
    · have done : ∀ {w' : World} {M2 : List T3}, Srt fLt M2 → Same fLt (L2 ++ R2) M2 → SE En.t3 w' base 37 (some p) l c ((P ++ M1) ++ (M2 ++ S)) → Chg (fun k => some k = qB (some p)) w w' → (Value.tuple #[] = Value.tuple #[] ∧ ∃ M, SE En.t3 w' base 37 (some p) l c (P ++ (M ++ S)) ∧ Srt fLt M ∧ Same fLt (L ++ R) M ∧ Chg (fun k => some k = qB (some p)) w w') := fun {w' M2} s2 e2 S' k' => by
        have hm := merge_ok fW sL' sR' hc.1 hc.2 s1 e1 s2 e2
        rw [← eL, ← eR] at hm
        exact ⟨rfl, M1 ++ M2, by simpa using S', hm.1, hm.2, k'⟩
      refine ⟨fun b' w' => (b' = true ↔ 0 < L2.length ∧ 0 < R2.length) ∧ w' = w17, ?_, ?_⟩
      · rintro b' _ ⟨hb', rfl⟩
        refine bc (fun hb => ?_) fun hb => ?_
        · have hb := hb'.1 hb
          have hr := ih (P := P ++ M1) (L := L2) (R := R2) (S := S) (by simpa using S17) (by omega) (pos_of hb.1) (pos_of hb.2) sL'.right sR'.right
          have l1 : (P ++ M1).length = mid := by simp only [List.length_append]; omega
          rw [l1, show mid + L2.length = m + j by omega, show m + j + R2.length = b by omega] at hr
          refine Calls.use hr ?_
          rintro _ w21 ⟨rfl, M2, S21, s2, e2, k21⟩
          exact ⟨rfl, done s2 e2 S21 (k17.trans k21)⟩
        · have hb : ¬ (0 < L2.length ∧ 0 < R2.length) := fun h => by rw [hb'.2 h] at hb; cases hb
          refine done (M2 := L2 ++ R2) ?_ (Same.refl _) (by simpa using S17) k17
          by_cases h0 : 0 < L2.length
          · have : R2 = [] := nil_of (by omega)
            rw [this, List.append_nil]; exact sL'.right
          · have : L2 = [] := nil_of (by omega)
            rw [this]; exact sR'.right
      · refine bc (fun hb => ⟨?_, rfl⟩) fun hb => ⟨?_, rfl⟩
        · have := of_decide_eq_true hb
          rw [decide_eq_true_eq]
          omega
        · have := of_decide_eq_false hb
          constructor
          · intro h; cases h
          · intro h; omega
    · refine ⟨fun b' w' => (b' = true ↔ 0 < L1.length ∧ 0 < R1.length) ∧ w' = w14, ?_, ?_⟩
      · rintro b' _ ⟨hb', rfl⟩
        refine bc (fun hb => ?_) fun hb => ?_
        · have hb := hb'.1 hb
          have hr := ih (P := P) (L := L1) (R := R1) (S := L2 ++ (R2 ++ S)) S14 (by omega) (pos_of hb.1) (pos_of hb.2) sL'.left sR'.left
          rw [← ea, show a + L1.length = s by omega, show s + R1.length = mid by omega] at hr
          refine Calls.use hr ?_
          rintro _ w19 ⟨rfl, M1, S19, s1, e1, k19⟩
          refine ⟨rfl, M1, s1, e1, ?_, S19, k14.trans k19⟩
          have h1 := S19.len
          have h2 := S14.len
          simp only [List.length_append] at h1 h2
          omega
        · have hb : ¬ (0 < L1.length ∧ 0 < R1.length) := fun h => by rw [hb'.2 h] at hb; cases hb
          refine ⟨L1 ++ R1, ?_, Same.refl _, by simp, by simpa using S14, k14⟩
          by_cases h0 : 0 < L1.length
          · have : R1 = [] := nil_of (by omega)
            rw [this, List.append_nil]; exact sL'.left
          · have : L1 = [] := nil_of (by omega)
            rw [this]; exact sR'.left
      · refine bc (fun hb => ⟨?_, rfl⟩) fun hb => ⟨?_, rfl⟩
        · have := of_decide_eq_true hb
          rw [decide_eq_true_eq]
          omega
        · have := of_decide_eq_false hb
          constructor
          · intro h; cases h
          · intro h; omega
  · refine ⟨fun b' w' => (b' = true ↔ 0 < L2.length ∧ 0 < R1.length) ∧ w' = w1, ?_, ?_⟩
    · rintro b' _ ⟨hb', rfl⟩
      refine bc (fun hb => ?_) fun hb => ?_
      · have hb := hb'.1 hb
        have hr := rotate115 (P := P ++ L1) (A := L2) (B := R1) (S := R2 ++ S) (by simpa using S1) (pos_of hb.1) (pos_of hb.2) hl
        have l1 : (P ++ L1).length = s := by simp only [List.length_append]; omega
        rw [l1, show s + L2.length = m by omega, show m + R1.length = m + j by omega] at hr
        refine Calls.use hr ?_
        rintro _ w16 ⟨rfl, S16, k16⟩
        exact ⟨rfl, by simpa using S16, k1.trans k16⟩
      · have hb : ¬ (0 < L2.length ∧ 0 < R1.length) := fun h => by rw [hb'.2 h] at hb; cases hb
        refine ⟨?_, k1⟩
        by_cases h0 : 0 < L2.length
        · have : R1 = [] := nil_of (by omega)
          rw [this] at S1 ⊢
          simpa using S1
        · have : L2 = [] := nil_of (by omega)
          rw [this] at S1 ⊢
          simpa using S1
    · refine bc (fun hb => ⟨?_, rfl⟩) fun hb => ⟨?_, rfl⟩
      · have := of_decide_eq_true hb
        rw [decide_eq_true_eq]
        omega
      · have := of_decide_eq_false hb
        constructor
        · intro h; cases h
        · intro h; omega
theorem symMerge106 : ∀ (fuel : Nat) {w : World} {base : Nat} {q : Option Addr} {l c : Nat} {P L R S : List T3} (_ : SE En.t3 w base 37 q l c (P ++ (L ++ (R ++ S)))) (_ : L.length + R.length ≤ fuel) (_ : L ≠ []) (_ : R ≠ []) (_ : Srt fLt L) (_ : Srt fLt R) (_ : l ≤ 4611686018427387903), Calls Tryd.prog 106 #[.slice q l c, .int .i64 ((P.length : Nat) : Int), .int .i64 ((P.length + L.length : Nat) : Int), .int .i64 ((P.length + L.length + R.length : Nat) : Int), .func (.func 40) #[] #[]] w (Ret fun v w' => v = .tuple #[] ∧ ∃ M, SE En.t3 w' base 37 q l c (P ++ (M ++ S)) ∧ Srt fLt M ∧ Same fLt (L ++ R) M ∧ Chg (fun k => some k = qB q) w w')
  | 0, _, _, _, _, _, _, _, _, _, _, hf, hL, _, _, _, _ => by
    have := List.length_pos_iff.2 hL
    omega
  | fuel + 1, w, base, q, l, c, P, L, R, S, h, hf, hL, hR, sL, sR, hl => by
    by_cases g0 : L.length = 1
    · exact symL106 h hL hR sL sR hl g0
    · by_cases g1 : R.length = 1
      · exact symR106 h hL hR sL sR hl g0 g1
      · exact symS106 (fun h hf hL hR sL sR => symMerge106 fuel h hf hL hR sL sR hl) h hL hR sL sR hl hf g0 g1
theorem symL109 {w : World} {base : Nat} {q : Option Addr} {l c : Nat} {P L R S : List T3} (h : SE En.t3 w base 44 q l c (P ++ (L ++ (R ++ S)))) (hL : L ≠ []) (hR : R ≠ []) (sL : Srt tLt L) (sR : Srt tLt R) (hl : l ≤ 4611686018427387903) (g0 : L.length = 1) :
    Calls Tryd.prog 109 #[.slice q l c, .int .i64 ((P.length : Nat) : Int), .int .i64 ((P.length + L.length : Nat) : Int), .int .i64 ((P.length + L.length + R.length : Nat) : Int), .func (.func 63) #[] #[]] w (Ret fun v w' => v = .tuple #[] ∧ ∃ M, SE En.t3 w' base 44 q l c (P ++ (M ++ S)) ∧ Srt tLt M ∧ Same tLt (L ++ R) M ∧ Chg (fun k => some k = qB q) w w') := by
  have hlen := h.len
  simp only [List.length_append] at hlen
  have hL0 := List.length_pos_iff.2 hL
  have hR0 := List.length_pos_iff.2 hR
  obtain ⟨p, hp⟩ : ∃ p, q = some p := by obtain ⟨a, _, ha, _⟩ := h.re.ex (i := 0) (by omega); exact ⟨a, ha⟩
  subst hp
  refine f109_63.calls _ _ _ _ _ _ ?_
  unfold f109_63.wp
  obtain ⟨a, ea⟩ : ∃ a, a = P.length := ⟨_, rfl⟩
  obtain ⟨m, em⟩ : ∃ m, m = P.length + L.length := ⟨_, rfl⟩
  obtain ⟨b, eb⟩ : ∃ b, b = P.length + L.length + R.length := ⟨_, rfl⟩
  rw [← eb, ← em, ← ea, show IntKind.wrap .i64 ((m : Int) - (a : Int)) = ((L.length : Nat) : Int) by rw [wrapS (by omega) (by omega)]; omega, show IntKind.wrap .i64 ((b : Int) - (m : Int)) = ((R.length : Nat) : Int) by rw [wrapS (by omega) (by omega)]; omega]
  refine bc (fun g => ?_) fun g => absurd g (by rw [g0]; decide)
  have hL1 : L.length = 1 := by have : ((L.length : Nat) : Int) = 1 := by simpa using g
                                omega
  obtain ⟨x, rfl⟩ := List.length_eq_one_iff.1 hL1
  have ga : (P ++ ([x] ++ (R ++ S)))[a]? = some x := by rw [ea]; exact get_mid rfl
  refine ⟨fun i j w' => ∃ u v : Nat, i = ((m + u : Nat) : Int) ∧ j = ((m + v : Nat) : Int) ∧ u ≤ v ∧ v ≤ R.length ∧ SE En.t3 w' base 44 (some p) l c (P ++ ([x] ++ (R ++ S))) ∧ (u = 0 ∨ ∃ y, R[u - 1]? = some y ∧ tLt y x = true) ∧ (v = R.length ∨ ∃ y, R[v]? = some y ∧ tLt y x = false) ∧ Chg (fun k => some k = qB (some p)) w w', fun i j _ => j.toNat - i.toNat, ⟨0, R.length, by omega, by omega, Nat.zero_le _, Nat.le_refl _, h, .inl rfl, .inl rfl, Chg.refl _ _⟩, ?_⟩
  rintro _ _ w1 ⟨u, v, rfl, rfl, huv, hv, S1, c1, c2, k1⟩
  refine bc (fun g1 => ?_) fun g1 => ?_
  · have g1 : u < v := by have := of_decide_eq_true g1; omega
    have eh := half64 (i := m + u) (j := m + v) (by omega)
    obtain ⟨t, et⟩ : ∃ t, t = (u + v) / 2 := ⟨_, rfl⟩
    rw [show (m + u + (m + v)) / 2 = m + t by omega] at eh
    rw [eh]
    obtain ⟨y, hy⟩ := get_ex (l := R) (i := t) (by omega)
    have S1d := S1.drew
    obtain ⟨ry, by'⟩ := rdAt S1d (k := m + t) (x := y) (by rw [get_in2 (P := P) (L := [x]) (t := t) (by omega) (by omega)]; exact hy)
    obtain ⟨rx, bx⟩ := rdAt S1d ga
    refine ⟨by decide, onPtr_mk ⟨by'.1, by'.2, _, _, _, ry, onPtr_mk ⟨bx.1, bx.2, _, _, _, rx, Calls.use (ord63 w1.drew y x) ?_⟩⟩⟩
    rintro _ w2 ⟨rfl, k2⟩
    have S2 := S1d.chgN k2
    have k12 := k1.trans ((k2.of_none _).of_drew)
    refine ⟨_, rfl, bc (fun hb => ?_) fun hb => ?_⟩
    · rw [show IntKind.wrap .i64 (((m + t : Nat) : Int) + 1) = ((m + (t + 1) : Nat) : Int) by rw [wrapS (by omega) (by omega)]; omega]
      exact ⟨⟨t + 1, v, rfl, rfl, by omega, hv, S2, .inr ⟨y, hy, hb⟩, c2, k12⟩, by simp only [Int.toNat_natCast]; omega⟩
    · exact ⟨⟨u, t, rfl, rfl, by omega, by omega, S2, c1, .inr ⟨y, hy, hb⟩, k12⟩, by simp only [Int.toNat_natCast]; omega⟩
  · have : u = v := by have := of_decide_eq_false g1; omega
    subst this
    have lT : (R.take u).length = u := by simp; omega
    rw [show IntKind.wrap .i64 (((m + u : Nat) : Int) - 1) = ((a + u : Nat) : Int) by rw [wrapS (by omega) (by omega)]; omega]
    refine ⟨fun i w' => ∃ k : Nat, i = ((a + k : Nat) : Int) ∧ k ≤ u ∧ SE En.t3 w' base 44 (some p) l c (P ++ (R.take k ++ x :: (R.drop k ++ S))) ∧ Chg (fun k => some k = qB (some p)) w w', fun i _ => a + u - i.toNat, ⟨0, by omega, Nat.zero_le _, by simpa using S1, k1⟩, ?_⟩
    rintro _ w3 ⟨k, rfl, hk, S3, k3⟩
    refine bc (fun g2 => ?_) fun g2 => ?_
    · have g2 : k < u := by have := of_decide_eq_true g2; omega
      obtain ⟨y, hy⟩ := get_ex (l := R) (i := k) (by omega)
      have lK : (R.take k).length = k := by simp; omega
      rw [show IntKind.wrap .i64 (((a + k : Nat) : Int) + 1) = ((a + (k + 1) : Nat) : Int) by rw [wrapS (by omega) (by omega)]; omega]
      have eL : P ++ (R.take k ++ x :: (R.drop k ++ S)) = (P ++ R.take k) ++ x :: ([] ++ y :: (R.drop (k + 1) ++ S)) := by rw [drop_cons hy]; simp
      have S3d := S3.drew
      rw [eL] at S3d
      refine swapT3 S3d (i := a + (k + 1)) (j := a + k) (x := y) (y := x) rfl rfl ?_ (get_mid (by simp only [List.length_append, lK]; omega)) fun w' S' k' => ?_
      · have : (P ++ R.take k) ++ x :: ([] ++ y :: (R.drop (k + 1) ++ S)) = (P ++ R.take k ++ [x]) ++ y :: (R.drop (k + 1) ++ S) := by simp
        rw [this]; exact get_mid (by simp only [List.length_append, lK, List.length_cons, List.length_nil]; omega)
      · rw [sw_mid' (by simp only [List.length_append, lK]; omega) (by simp only [List.length_append, lK, List.length_nil]; omega)] at S'
        refine ⟨⟨k + 1, rfl, g2, by rw [take_snoc hy]; simpa using S', k3.trans k'.of_drew⟩, by simp only [Int.toNat_natCast]; omega⟩
    · have : k = u := by have := of_decide_eq_false g2; omega
      subst this
      refine ⟨rfl, R.take k ++ x :: R.drop k, by simpa using S3, ?_, ?_, k3⟩
      all_goals
        have hc := cut_ok tW (L := [x]) (R := R) (Srt.one x) sR (i := 0) (j := k) (.inl rfl) (by
          rcases c1 with c1 | ⟨y, hy, c1⟩
          · exact .inl c1
          · exact .inr (.inr ⟨x, y, rfl, hy, c1⟩))
        have hx : ∀ y ∈ R.drop k, tLt y x = false := fun y hy => by
          obtain ⟨t, ht, hyt⟩ := mem_drop_ex hy
          rcases c2 with c2 | ⟨y', hy', c2⟩
          · have := get_lt hyt; omega
          · exact tW.tr _ _ _ (sR.le tW ht hy' hyt) c2
        have hm := merge_ok tW (L1 := []) (L2 := [x]) (R1 := R.take k) (R2 := R.drop k) (M1 := R.take k) (M2 := x :: R.drop k) (Srt.one x) (by rw [List.take_append_drop]; exact sR) (fun x hx => by simp at hx) (by simpa using hc.2) (Srt.left (B := R.drop k) (by rw [List.take_append_drop]; exact sR)) (Same.refl _) (List.pairwise_cons.2 ⟨hx, Srt.right (A := R.take k) (by rw [List.take_append_drop]; exact sR)⟩) (Same.refl _)
      · exact hm.1
      · have := hm.2
        rw [List.take_append_drop] at this
        exact this
theorem symR109 {w : World} {base : Nat} {q : Option Addr} {l c : Nat} {P L R S : List T3} (h : SE En.t3 w base 44 q l c (P ++ (L ++ (R ++ S)))) (hL : L ≠ []) (hR : R ≠ []) (sL : Srt tLt L) (sR : Srt tLt R) (hl : l ≤ 4611686018427387903) (g0 : L.length ≠ 1) (g1 : R.length = 1) :
    Calls Tryd.prog 109 #[.slice q l c, .int .i64 ((P.length : Nat) : Int), .int .i64 ((P.length + L.length : Nat) : Int), .int .i64 ((P.length + L.length + R.length : Nat) : Int), .func (.func 63) #[] #[]] w (Ret fun v w' => v = .tuple #[] ∧ ∃ M, SE En.t3 w' base 44 q l c (P ++ (M ++ S)) ∧ Srt tLt M ∧ Same tLt (L ++ R) M ∧ Chg (fun k => some k = qB q) w w') := by
  have hlen := h.len
  simp only [List.length_append] at hlen
  have hL0 := List.length_pos_iff.2 hL
  have hR0 := List.length_pos_iff.2 hR
  obtain ⟨p, hp⟩ : ∃ p, q = some p := by obtain ⟨a, _, ha, _⟩ := h.re.ex (i := 0) (by omega); exact ⟨a, ha⟩
  subst hp
  refine f109_63.calls _ _ _ _ _ _ ?_
  unfold f109_63.wp
  obtain ⟨a, ea⟩ : ∃ a, a = P.length := ⟨_, rfl⟩
  obtain ⟨m, em⟩ : ∃ m, m = P.length + L.length := ⟨_, rfl⟩
  obtain ⟨b, eb⟩ : ∃ b, b = P.length + L.length + R.length := ⟨_, rfl⟩
  rw [← eb, ← em, ← ea, show IntKind.wrap .i64 ((m : Int) - (a : Int)) = ((L.length : Nat) : Int) by rw [wrapS (by omega) (by omega)]; omega, show IntKind.wrap .i64 ((b : Int) - (m : Int)) = ((R.length : Nat) : Int) by rw [wrapS (by omega) (by omega)]; omega]
  refine bc (fun g => absurd (of_beq g) g0) fun g => bc (fun g' => ?_) fun g' => absurd g' (by rw [g1]; decide)
  have hR1 : R.length = 1 := by have : ((R.length : Nat) : Int) = 1 := by simpa using g'
                                omega
  obtain ⟨y, rfl⟩ := List.length_eq_one_iff.1 hR1
  have gm : (P ++ (L ++ ([y] ++ S)))[m]? = some y := by rw [em, ← List.append_assoc]; exact get_mid (by simp)
  refine ⟨fun i j w' => ∃ u v : Nat, i = ((a + u : Nat) : Int) ∧ j = ((a + v : Nat) : Int) ∧ u ≤ v ∧ v ≤ L.length ∧ SE En.t3 w' base 44 (some p) l c (P ++ (L ++ ([y] ++ S))) ∧ (u = 0 ∨ ∃ x, L[u - 1]? = some x ∧ tLt y x = false) ∧ (v = L.length ∨ ∃ x, L[v]? = some x ∧ tLt y x = true) ∧ Chg (fun k => some k = qB (some p)) w w', fun i j _ => j.toNat - i.toNat, ⟨0, L.length, by omega, by omega, Nat.zero_le _, Nat.le_refl _, h, .inl rfl, .inl rfl, Chg.refl _ _⟩, ?_⟩
  rintro _ _ w1 ⟨u, v, rfl, rfl, huv, hv, S1, c1, c2, k1⟩
  refine bc (fun g1 => ?_) fun g1 => ?_
  · have g1 : u < v := by have := of_decide_eq_true g1; omega
    have eh := half64 (i := a + u) (j := a + v) (by omega)
    obtain ⟨t, et⟩ : ∃ t, t = (u + v) / 2 := ⟨_, rfl⟩
    rw [show (a + u + (a + v)) / 2 = a + t by omega] at eh
    rw [eh]
    obtain ⟨x, hx⟩ := get_ex (l := L) (i := t) (by omega)
    have S1d := S1.drew
    obtain ⟨rx, bx⟩ := rdAt S1d (k := a + t) (x := x) (by rw [get_in (P := P) (t := t) (by omega) (by omega)]; exact hx)
    obtain ⟨ry, by'⟩ := rdAt S1d gm
    refine ⟨by decide, onPtr_mk ⟨by'.1, by'.2, _, _, _, ry, onPtr_mk ⟨bx.1, bx.2, _, _, _, rx, Calls.use (ord63 w1.drew y x) ?_⟩⟩⟩
    rintro _ w2 ⟨rfl, k2⟩
    have S2 := S1d.chgN k2
    have k12 := k1.trans ((k2.of_none _).of_drew)
    refine ⟨_, rfl, bc (fun hb => ?_) fun hb => ?_⟩
    · rw [show IntKind.wrap .i64 (((a + t : Nat) : Int) + 1) = ((a + (t + 1) : Nat) : Int) by rw [wrapS (by omega) (by omega)]; omega]
      exact ⟨⟨t + 1, v, rfl, rfl, by omega, hv, S2, .inr ⟨x, hx, Eq.mp (Bool.not_eq_true' _) hb⟩, c2, k12⟩, by simp only [Int.toNat_natCast]; omega⟩
    · exact ⟨⟨u, t, rfl, rfl, by omega, by omega, S2, c1, .inr ⟨x, hx, Eq.mp (Bool.not_eq_false' _) hb⟩, k12⟩, by simp only [Int.toNat_natCast]; omega⟩
  · have : u = v := by have := of_decide_eq_false g1; omega
    subst this
    refine ⟨fun i w' => ∃ k : Nat, i = ((a + k : Nat) : Int) ∧ u ≤ k ∧ k ≤ L.length ∧ SE En.t3 w' base 44 (some p) l c (P ++ (L.take k ++ y :: (L.drop k ++ S))) ∧ Chg (fun k => some k = qB (some p)) w w', fun i _ => i.toNat, ⟨L.length, by omega, hv, Nat.le_refl _, by simpa using S1, k1⟩, ?_⟩
    rintro _ w3 ⟨k, rfl, hk, hkL, S3, k3⟩
    refine bc (fun g2 => ?_) fun g2 => ?_
    · have g2 : u < k := by have := of_decide_eq_true g2; omega
      obtain ⟨k, rfl⟩ : ∃ k', k = k' + 1 := ⟨k - 1, by omega⟩
      obtain ⟨x, hx⟩ := get_ex (l := L) (i := k) (by omega)
      have lK : (L.take k).length = k := by simp; omega
      rw [show IntKind.wrap .i64 (((a + (k + 1) : Nat) : Int) - 1) = ((a + k : Nat) : Int) by rw [wrapS (by omega) (by omega)]; omega]
      have eL : P ++ (L.take (k + 1) ++ y :: (L.drop (k + 1) ++ S)) = (P ++ L.take k) ++ x :: ([] ++ y :: (L.drop (k + 1) ++ S)) := by rw [take_snoc hx]; simp
      have S3d := S3.drew
      rw [eL] at S3d
      refine swapT3 S3d (i := a + k) (j := a + (k + 1)) (x := x) (y := y) rfl rfl (get_mid (by simp only [List.length_append, lK]; omega)) ?_ fun w' S' k' => ?_
      · have : (P ++ L.take k) ++ x :: ([] ++ y :: (L.drop (k + 1) ++ S)) = (P ++ L.take k ++ [x]) ++ y :: (L.drop (k + 1) ++ S) := by simp
        rw [this]; exact get_mid (by simp only [List.length_append, lK, List.length_cons, List.length_nil]; omega)
      · rw [sw_mid (by simp only [List.length_append, lK]; omega) (by simp only [List.length_append, lK, List.length_nil]; omega)] at S'
        refine ⟨⟨k, rfl, by omega, by omega, by rw [drop_cons hx]; simpa using S', k3.trans k'.of_drew⟩, by simp only [Int.toNat_natCast]; omega⟩
    · have : k = u := by have := of_decide_eq_false g2; omega
      subst this
      refine ⟨rfl, L.take k ++ y :: L.drop k, by simpa using S3, ?_, ?_, k3⟩
      all_goals
        have hc := cut_ok tW (L := L) (R := [y]) sL (Srt.one y) (i := k) (j := 1) (.inr (.inl (by simp))) (by
          rcases c2 with c2 | ⟨x, hx, c2⟩
          · exact .inr (.inl (by omega))
          · exact .inr (.inr ⟨x, y, hx, rfl, c2⟩))
        have hx : ∀ x ∈ L.take k, tLt y x = false := fun x hx => by
          obtain ⟨t, ht, hxt⟩ := mem_take_ex hx
          rcases c1 with c1 | ⟨x', hx', c1⟩
          · omega
          · exact tW.tr _ _ _ c1 (sL.le tW (by omega) hxt hx')
        have hm := merge_ok tW (L1 := L.take k) (L2 := L.drop k) (R1 := [y]) (R2 := []) (M1 := L.take k ++ [y]) (M2 := L.drop k) (by rw [List.take_append_drop]; exact sL) (Srt.one y) (fun x _ y hy => by simp at hy) (by simpa using hc.2) (List.pairwise_append.2 ⟨Srt.left (B := L.drop k) (by rw [List.take_append_drop]; exact sL), Srt.one y, fun x hx' z hz => by simp at hz; subst hz; exact hx x hx'⟩) (Same.refl _) (Srt.right (A := L.take k) (by rw [List.take_append_drop]; exact sL)) (by rw [List.append_nil]; exact Same.refl _)
        rw [List.append_assoc (L.take k) [y]] at hm
      · exact hm.1
      · have := hm.2
        rw [List.take_append_drop] at this
        simpa using this
theorem symS109 {fuel : Nat} {w : World} {base : Nat} {q : Option Addr} {l c : Nat} {P L R S : List T3} (ih : ∀ {w : World} {P L R S : List T3} (_ : SE En.t3 w base 44 q l c (P ++ (L ++ (R ++ S)))) (_ : L.length + R.length ≤ fuel) (_ : L ≠ []) (_ : R ≠ []) (_ : Srt tLt L) (_ : Srt tLt R), Calls Tryd.prog 109 #[.slice q l c, .int .i64 ((P.length : Nat) : Int), .int .i64 ((P.length + L.length : Nat) : Int), .int .i64 ((P.length + L.length + R.length : Nat) : Int), .func (.func 63) #[] #[]] w (Ret fun v w' => v = .tuple #[] ∧ ∃ M, SE En.t3 w' base 44 q l c (P ++ (M ++ S)) ∧ Srt tLt M ∧ Same tLt (L ++ R) M ∧ Chg (fun k => some k = qB q) w w')) (h : SE En.t3 w base 44 q l c (P ++ (L ++ (R ++ S)))) (hL : L ≠ []) (hR : R ≠ []) (sL : Srt tLt L) (sR : Srt tLt R) (hl : l ≤ 4611686018427387903) (hf : L.length + R.length ≤ fuel + 1) (g0 : L.length ≠ 1) (g1 : R.length ≠ 1) :
    Calls Tryd.prog 109 #[.slice q l c, .int .i64 ((P.length : Nat) : Int), .int .i64 ((P.length + L.length : Nat) : Int), .int .i64 ((P.length + L.length + R.length : Nat) : Int), .func (.func 63) #[] #[]] w (Ret fun v w' => v = .tuple #[] ∧ ∃ M, SE En.t3 w' base 44 q l c (P ++ (M ++ S)) ∧ Srt tLt M ∧ Same tLt (L ++ R) M ∧ Chg (fun k => some k = qB q) w w') := by
  have hlen := h.len
  simp only [List.length_append] at hlen
  have hL0 := List.length_pos_iff.2 hL
  have hR0 := List.length_pos_iff.2 hR
  obtain ⟨p, hp⟩ : ∃ p, q = some p := by obtain ⟨a, _, ha, _⟩ := h.re.ex (i := 0) (by omega); exact ⟨a, ha⟩
  subst hp
  refine f109_63.calls _ _ _ _ _ _ ?_
  unfold f109_63.wp
  obtain ⟨a, ea⟩ : ∃ a, a = P.length := ⟨_, rfl⟩
  obtain ⟨m, em⟩ : ∃ m, m = P.length + L.length := ⟨_, rfl⟩
  obtain ⟨b, eb⟩ : ∃ b, b = P.length + L.length + R.length := ⟨_, rfl⟩
  rw [← eb, ← em, ← ea, show IntKind.wrap .i64 ((m : Int) - (a : Int)) = ((L.length : Nat) : Int) by rw [wrapS (by omega) (by omega)]; omega, show IntKind.wrap .i64 ((b : Int) - (m : Int)) = ((R.length : Nat) : Int) by rw [wrapS (by omega) (by omega)]; omega]
  refine bc (fun g => absurd (of_beq g) g0) fun g => bc (fun g' => absurd (of_beq g') g1) fun g' => ?_
  have hL2 : 2 ≤ L.length := by
    have : ¬ ((L.length : Nat) : Int) = 1 := by simpa using g
    omega
  have hR2 : 2 ≤ R.length := by
    have : ¬ ((R.length : Nat) : Int) = 1 := by simpa using g'
    omega
  have eh := half64 (i := a) (j := b) (by omega)
  obtain ⟨mid, emid⟩ : ∃ mid, mid = (a + b) / 2 := ⟨_, rfl⟩
  rw [← emid] at eh
  rw [eh]
  have en : IntKind.wrap .i64 ((mid : Int) + (m : Int)) = ((mid + m : Nat) : Int) := by rw [wrapS (by omega) (by omega)]; omega
  have ep : IntKind.wrap .i64 (((mid + m : Nat) : Int) - 1) = ((mid + m - 1 : Nat) : Int) := by rw [wrapS (by omega) (by omega)]; omega
  rw [en, ep]
  refine ⟨by decide, fun x y w' => ∃ lo hi : Nat, x = (lo : Int) ∧ y = (hi : Int) ∧ w = w' ∧ (m > mid ∧ lo = mid + m - b ∧ hi = mid ∨ m ≤ mid ∧ lo = a ∧ hi = m), ?_, ?_⟩
  case refine_2 =>
    refine bc (fun hgt => ?_) fun hle => ?_
    · have hgt : mid < m := by have := of_decide_eq_true hgt; omega
      exact ⟨mid + m - b, mid, by rw [wrapS (by omega) (by omega)]; omega, rfl, rfl, .inl ⟨hgt, rfl, rfl⟩⟩
    · have hle : m ≤ mid := by have := of_decide_eq_false hle; omega
      exact ⟨a, m, rfl, rfl, rfl, .inr ⟨hle, rfl, rfl⟩⟩
  rintro _ _ _ ⟨lo, hi, rfl, rfl, rfl, hlh⟩
  refine ⟨fun x y w' => ∃ s r : Nat, x = (s : Int) ∧ y = (r : Int) ∧ lo ≤ s ∧ s ≤ r ∧ r ≤ hi ∧ SE En.t3 w' base 44 (some p) l c (P ++ (L ++ (R ++ S))) ∧ (s = lo ∨ ∃ x y, L[s - 1 - a]? = some x ∧ R[mid - s]? = some y ∧ tLt y x = false) ∧ (r = hi ∨ ∃ x y, L[r - a]? = some x ∧ R[mid - 1 - r]? = some y ∧ tLt y x = true) ∧ Chg (fun k => some k = qB (some p)) w w', fun x y _ => y.toNat - x.toNat, ⟨lo, hi, rfl, rfl, Nat.le_refl _, by omega, Nat.le_refl _, h, .inl rfl, .inl rfl, Chg.refl _ _⟩, ?_⟩
  rintro _ _ w1 ⟨s, r, rfl, rfl, hlo, hsr, hhi, S1, c1, c2, k1⟩
  refine bc (fun g1 => ?_) fun g1 => ?_
  · have g1 : s < r := by have := of_decide_eq_true g1; omega
    have eh2 := half64 (i := s) (j := r) (by omega)
    obtain ⟨t, et⟩ : ∃ t, t = (s + r) / 2 := ⟨_, rfl⟩
    rw [← et] at eh2
    rw [eh2]
    have epc : IntKind.wrap .i64 (((mid + m - 1 : Nat) : Int) - (t : Int)) = ((mid + m - 1 - t : Nat) : Int) := by rw [wrapS (by omega) (by omega)]; omega
    rw [epc]
    obtain ⟨x, hx⟩ := get_ex (l := L) (i := t - a) (by omega)
    obtain ⟨y, hy⟩ := get_ex (l := R) (i := mid - 1 - t) (by omega)
    have S1d := S1.drew
    obtain ⟨rx, bx⟩ := rdAt S1d (k := t) (x := x) (by rw [get_in (P := P) (t := t - a) (by omega) (by omega)]; exact hx)
    obtain ⟨ry, by'⟩ := rdAt S1d (k := mid + m - 1 - t) (x := y) (by rw [get_in2 (P := P) (L := L) (t := mid - 1 - t) (by omega) (by omega)]; exact hy)
    refine ⟨by decide, onPtr_mk ⟨by'.1, by'.2, _, _, _, ry, onPtr_mk ⟨bx.1, bx.2, _, _, _, rx, Calls.use (ord63 w1.drew y x) ?_⟩⟩⟩
    rintro _ w2 ⟨rfl, k2⟩
    have S2 := S1d.chgN k2
    have k12 := k1.trans ((k2.of_none _).of_drew)
    refine ⟨_, rfl, bc (fun hb => ?_) fun hb => ?_⟩
    · rw [show IntKind.wrap .i64 ((t : Int) + 1) = ((t + 1 : Nat) : Int) by rw [wrapS (by omega) (by omega)]; omega]
      exact ⟨⟨t + 1, r, rfl, rfl, by omega, by omega, hhi, S2, .inr ⟨x, y, by rw [Nat.add_sub_cancel]; exact hx, by rw [show mid - (t + 1) = mid - 1 - t by omega]; exact hy, Eq.mp (Bool.not_eq_true' _) hb⟩, c2, k12⟩, by simp only [Int.toNat_natCast]; omega⟩
    · exact ⟨⟨s, t, rfl, rfl, hlo, by omega, by omega, S2, c1, .inr ⟨x, y, hx, hy, Eq.mp (Bool.not_eq_false' _) hb⟩, k12⟩, by simp only [Int.toNat_natCast]; omega⟩
  have : s = r := by have := of_decide_eq_false g1; omega
  subst this
  have ee : IntKind.wrap .i64 (((mid + m : Nat) : Int) - (s : Int)) = ((mid + m - s : Nat) : Int) := by rw [wrapS (by omega) (by omega)]; omega
  rw [ee]
  obtain ⟨i, ei⟩ : ∃ i, i = s - a := ⟨_, rfl⟩
  obtain ⟨j, ej⟩ : ∃ j, j = mid - s := ⟨_, rfl⟩
  have his : s = a + i ∧ i ≤ L.length ∧ j ≤ R.length ∧ mid = a + i + j := by omega
  obtain ⟨hsa, hiL, hjR, hmid⟩ := his
  have hc := cut_ok tW sL sR (i := i) (j := j) (by
      rcases c1 with c1 | ⟨x, y, hx, hy, c1⟩
      · rcases hlh with h1 | h1
        · exact .inr (.inl (by omega))
        · exact .inl (by omega)
      · exact .inr (.inr ⟨x, y, by rw [show i - 1 = s - 1 - a by omega]; exact hx, by rw [ej]; exact hy, c1⟩)) (by
      rcases c2 with c2 | ⟨x, y, hx, hy, c2⟩
      · rcases hlh with h1 | h1
        · exact .inl (by omega)
        · exact .inr (.inl (by omega))
      · exact .inr (.inr ⟨x, y, by rw [ei]; exact hx, by rw [show j - 1 = mid - 1 - s by omega]; exact hy, c2⟩))
  obtain ⟨L1, eL1⟩ : ∃ L1, L1 = L.take i := ⟨_, rfl⟩
  obtain ⟨L2, eL2⟩ : ∃ L2, L2 = L.drop i := ⟨_, rfl⟩
  obtain ⟨R1, eR1⟩ : ∃ R1, R1 = R.take j := ⟨_, rfl⟩
  obtain ⟨R2, eR2⟩ : ∃ R2, R2 = R.drop j := ⟨_, rfl⟩
  have eL : L = L1 ++ L2 := by rw [eL1, eL2, List.take_append_drop]
  have eR : R = R1 ++ R2 := by rw [eR1, eR2, List.take_append_drop]
  have lL1 : L1.length = i := by rw [eL1, List.length_take]; omega
  have lL2 : L2.length = L.length - i := by rw [eL2, List.length_drop]
  have lR1 : R1.length = j := by rw [eR1, List.length_take]; omega
  have lR2 : R2.length = R.length - j := by rw [eR2, List.length_drop]
  rw [← eL1, ← eL2, ← eR1, ← eR2] at hc
  have eE : mid + m - s = m + j := by omega
  rw [eE]
  rw [eL, eR] at S1
  have sL' := sL
  have sR' := sR
  rw [eL] at sL'
  rw [eR] at sR'
  have nil_of : ∀ {X : List T3}, X.length = 0 → X = [] := fun h => List.eq_nil_of_length_eq_zero h
  have pos_of : ∀ {X : List T3}, 0 < X.length → X ≠ [] := fun h => List.length_pos_iff.1 h
  refine ⟨fun w' => SE En.t3 w' base 44 (some p) l c (P ++ (L1 ++ (R1 ++ (L2 ++ (R2 ++ S))))) ∧ Chg (fun k => some k = qB (some p)) w w', fun w14 ⟨S14, k14⟩ => ?_, ?_⟩
  · refine ⟨fun w' => ∃ M1, Srt tLt M1 ∧ Same tLt (L1 ++ R1) M1 ∧ M1.length = L1.length + R1.length ∧ SE En.t3 w' base 44 (some p) l c (P ++ (M1 ++ (L2 ++ (R2 ++ S)))) ∧ Chg (fun k => some k = qB (some p)) w w', fun w17 ⟨M1, s1, e1, lM, S17, k17⟩ => ?_, ?_⟩
    · have done : ∀ {w' : World} {M2 : List T3}, Srt tLt M2 → Same tLt (L2 ++ R2) M2 → SE En.t3 w' base 44 (some p) l c ((P ++ M1) ++ (M2 ++ S)) → Chg (fun k => some k = qB (some p)) w w' → (Value.tuple #[] = Value.tuple #[] ∧ ∃ M, SE En.t3 w' base 44 (some p) l c (P ++ (M ++ S)) ∧ Srt tLt M ∧ Same tLt (L ++ R) M ∧ Chg (fun k => some k = qB (some p)) w w') := fun {w' M2} s2 e2 S' k' => by
        have hm := merge_ok tW sL' sR' hc.1 hc.2 s1 e1 s2 e2
        rw [← eL, ← eR] at hm
        exact ⟨rfl, M1 ++ M2, by simpa using S', hm.1, hm.2, k'⟩
      refine ⟨fun b' w' => (b' = true ↔ 0 < L2.length ∧ 0 < R2.length) ∧ w' = w17, ?_, ?_⟩
      · rintro b' _ ⟨hb', rfl⟩
        refine bc (fun hb => ?_) fun hb => ?_
        · have hb := hb'.1 hb
          have hr := ih (P := P ++ M1) (L := L2) (R := R2) (S := S) (by simpa using S17) (by omega) (pos_of hb.1) (pos_of hb.2) sL'.right sR'.right
          have l1 : (P ++ M1).length = mid := by simp only [List.length_append]; omega
          rw [l1, show mid + L2.length = m + j by omega, show m + j + R2.length = b by omega] at hr
          refine Calls.use hr ?_
          rintro _ w21 ⟨rfl, M2, S21, s2, e2, k21⟩
          exact ⟨rfl, done s2 e2 S21 (k17.trans k21)⟩
        · have hb : ¬ (0 < L2.length ∧ 0 < R2.length) := fun h => by rw [hb'.2 h] at hb; cases hb
          refine done (M2 := L2 ++ R2) ?_ (Same.refl _) (by simpa using S17) k17
          by_cases h0 : 0 < L2.length
          · have : R2 = [] := nil_of (by omega)
            rw [this, List.append_nil]; exact sL'.right
          · have : L2 = [] := nil_of (by omega)
            rw [this]; exact sR'.right
      · refine bc (fun hb => ⟨?_, rfl⟩) fun hb => ⟨?_, rfl⟩
        · have := of_decide_eq_true hb
          rw [decide_eq_true_eq]
          omega
        · have := of_decide_eq_false hb
          constructor
          · intro h; cases h
          · intro h; omega
    · refine ⟨fun b' w' => (b' = true ↔ 0 < L1.length ∧ 0 < R1.length) ∧ w' = w14, ?_, ?_⟩
      · rintro b' _ ⟨hb', rfl⟩
        refine bc (fun hb => ?_) fun hb => ?_
        · have hb := hb'.1 hb
          have hr := ih (P := P) (L := L1) (R := R1) (S := L2 ++ (R2 ++ S)) S14 (by omega) (pos_of hb.1) (pos_of hb.2) sL'.left sR'.left
          rw [← ea, show a + L1.length = s by omega, show s + R1.length = mid by omega] at hr
          refine Calls.use hr ?_
          rintro _ w19 ⟨rfl, M1, S19, s1, e1, k19⟩
          refine ⟨rfl, M1, s1, e1, ?_, S19, k14.trans k19⟩
          have h1 := S19.len
          have h2 := S14.len
          simp only [List.length_append] at h1 h2
          omega
        · have hb : ¬ (0 < L1.length ∧ 0 < R1.length) := fun h => by rw [hb'.2 h] at hb; cases hb
          refine ⟨L1 ++ R1, ?_, Same.refl _, by simp, by simpa using S14, k14⟩
          by_cases h0 : 0 < L1.length
          · have : R1 = [] := nil_of (by omega)
            rw [this, List.append_nil]; exact sL'.left
          · have : L1 = [] := nil_of (by omega)
            rw [this]; exact sR'.left
      · refine bc (fun hb => ⟨?_, rfl⟩) fun hb => ⟨?_, rfl⟩
        · have := of_decide_eq_true hb
          rw [decide_eq_true_eq]
          omega
        · have := of_decide_eq_false hb
          constructor
          · intro h; cases h
          · intro h; omega
  · refine ⟨fun b' w' => (b' = true ↔ 0 < L2.length ∧ 0 < R1.length) ∧ w' = w1, ?_, ?_⟩
    · rintro b' _ ⟨hb', rfl⟩
      refine bc (fun hb => ?_) fun hb => ?_
      · have hb := hb'.1 hb
        have hr := rotate117 (P := P ++ L1) (A := L2) (B := R1) (S := R2 ++ S) (by simpa using S1) (pos_of hb.1) (pos_of hb.2) hl
        have l1 : (P ++ L1).length = s := by simp only [List.length_append]; omega
        rw [l1, show s + L2.length = m by omega, show m + R1.length = m + j by omega] at hr
        refine Calls.use hr ?_
        rintro _ w16 ⟨rfl, S16, k16⟩
        exact ⟨rfl, by simpa using S16, k1.trans k16⟩
      · have hb : ¬ (0 < L2.length ∧ 0 < R1.length) := fun h => by rw [hb'.2 h] at hb; cases hb
        refine ⟨?_, k1⟩
        by_cases h0 : 0 < L2.length
        · have : R1 = [] := nil_of (by omega)
          rw [this] at S1 ⊢
          simpa using S1
        · have : L2 = [] := nil_of (by omega)
          rw [this] at S1 ⊢
          simpa using S1
    · refine bc (fun hb => ⟨?_, rfl⟩) fun hb => ⟨?_, rfl⟩
      · have := of_decide_eq_true hb
        rw [decide_eq_true_eq]
        omega
      · have := of_decide_eq_false hb
        constructor
        · intro h; cases h
        · intro h; omega
theorem symMerge109 : ∀ (fuel : Nat) {w : World} {base : Nat} {q : Option Addr} {l c : Nat} {P L R S : List T3} (_ : SE En.t3 w base 44 q l c (P ++ (L ++ (R ++ S)))) (_ : L.length + R.length ≤ fuel) (_ : L ≠ []) (_ : R ≠ []) (_ : Srt tLt L) (_ : Srt tLt R) (_ : l ≤ 4611686018427387903), Calls Tryd.prog 109 #[.slice q l c, .int .i64 ((P.length : Nat) : Int), .int .i64 ((P.length + L.length : Nat) : Int), .int .i64 ((P.length + L.length + R.length : Nat) : Int), .func (.func 63) #[] #[]] w (Ret fun v w' => v = .tuple #[] ∧ ∃ M, SE En.t3 w' base 44 q l c (P ++ (M ++ S)) ∧ Srt tLt M ∧ Same tLt (L ++ R) M ∧ Chg (fun k => some k = qB q) w w')
  | 0, _, _, _, _, _, _, _, _, _, _, hf, hL, _, _, _, _ => by
    have := List.length_pos_iff.2 hL
    omega
  | fuel + 1, w, base, q, l, c, P, L, R, S, h, hf, hL, hR, sL, sR, hl => by
    by_cases g0 : L.length = 1
    · exact symL109 h hL hR sL sR hl g0
    · by_cases g1 : R.length = 1
      · exact symR109 h hL hR sL sR hl g0 g1
      · exact symS109 (fun h hf hL hR sL sR => symMerge109 fuel h hf hL hR sL sR hl) h hL hR sL sR hl hf g0 g1
theorem symL100 {w : World} {base : Nat} {q : Option Addr} {l c : Nat} {P L R S : List CrH} (h : SE En.crh w base 42 q l c (P ++ (L ++ (R ++ S)))) (hL : L ≠ []) (hR : R ≠ []) (sL : Srt cLt L) (sR : Srt cLt R) (hl : l ≤ 4611686018427387903) (g0 : L.length = 1) :
    Calls Tryd.prog 100 #[.slice q l c, .int .i64 ((P.length : Nat) : Int), .int .i64 ((P.length + L.length : Nat) : Int), .int .i64 ((P.length + L.length + R.length : Nat) : Int), .func (.func 45) #[] #[]] w (Ret fun v w' => v = .tuple #[] ∧ ∃ M, SE En.crh w' base 42 q l c (P ++ (M ++ S)) ∧ Srt cLt M ∧ Same cLt (L ++ R) M ∧ Chg (fun k => some k = qB q) w w') := by
  have hlen := h.len
  simp only [List.length_append] at hlen
  have hL0 := List.length_pos_iff.2 hL
  have hR0 := List.length_pos_iff.2 hR
  obtain ⟨p, hp⟩ : ∃ p, q = some p := by obtain ⟨a, _, ha, _⟩ := h.re.ex (i := 0) (by omega); exact ⟨a, ha⟩
  subst hp
  refine f100_45.calls _ _ _ _ _ _ ?_
  unfold f100_45.wp
  obtain ⟨a, ea⟩ : ∃ a, a = P.length := ⟨_, rfl⟩
  obtain ⟨m, em⟩ : ∃ m, m = P.length + L.length := ⟨_, rfl⟩
  obtain ⟨b, eb⟩ : ∃ b, b = P.length + L.length + R.length := ⟨_, rfl⟩
  rw [← eb, ← em, ← ea, show IntKind.wrap .i64 ((m : Int) - (a : Int)) = ((L.length : Nat) : Int) by rw [wrapS (by omega) (by omega)]; omega, show IntKind.wrap .i64 ((b : Int) - (m : Int)) = ((R.length : Nat) : Int) by rw [wrapS (by omega) (by omega)]; omega]
  refine bc (fun g => ?_) fun g => absurd g (by rw [g0]; decide)
  have hL1 : L.length = 1 := by have : ((L.length : Nat) : Int) = 1 := by simpa using g
                                omega
  obtain ⟨x, rfl⟩ := List.length_eq_one_iff.1 hL1
  have ga : (P ++ ([x] ++ (R ++ S)))[a]? = some x := by rw [ea]; exact get_mid rfl
  refine ⟨fun i j w' => ∃ u v : Nat, i = ((m + u : Nat) : Int) ∧ j = ((m + v : Nat) : Int) ∧ u ≤ v ∧ v ≤ R.length ∧ SE En.crh w' base 42 (some p) l c (P ++ ([x] ++ (R ++ S))) ∧ (u = 0 ∨ ∃ y, R[u - 1]? = some y ∧ cLt y x = true) ∧ (v = R.length ∨ ∃ y, R[v]? = some y ∧ cLt y x = false) ∧ Chg (fun k => some k = qB (some p)) w w', fun i j _ => j.toNat - i.toNat, ⟨0, R.length, by omega, by omega, Nat.zero_le _, Nat.le_refl _, h, .inl rfl, .inl rfl, Chg.refl _ _⟩, ?_⟩
  rintro _ _ w1 ⟨u, v, rfl, rfl, huv, hv, S1, c1, c2, k1⟩
  refine bc (fun g1 => ?_) fun g1 => ?_
  · have g1 : u < v := by have := of_decide_eq_true g1; omega
    have eh := half64 (i := m + u) (j := m + v) (by omega)
    obtain ⟨t, et⟩ : ∃ t, t = (u + v) / 2 := ⟨_, rfl⟩
    rw [show (m + u + (m + v)) / 2 = m + t by omega] at eh
    rw [eh]
    obtain ⟨y, hy⟩ := get_ex (l := R) (i := t) (by omega)
    have S1d := S1.drew
    obtain ⟨ry, by'⟩ := rdAt S1d (k := m + t) (x := y) (by rw [get_in2 (P := P) (L := [x]) (t := t) (by omega) (by omega)]; exact hy)
    obtain ⟨rx, bx⟩ := rdAt S1d ga
    refine ⟨by decide, onPtr_mk ⟨by'.1, by'.2, _, _, _, _, _, ry, onPtr_mk ⟨bx.1, bx.2, _, _, _, _, _, rx, Calls.use (ord45 w1.drew y x) ?_⟩⟩⟩
    rintro _ w2 ⟨rfl, k2⟩
    have S2 := S1d.chgN k2
    have k12 := k1.trans ((k2.of_none _).of_drew)
    refine ⟨_, rfl, bc (fun hb => ?_) fun hb => ?_⟩
    · rw [show IntKind.wrap .i64 (((m + t : Nat) : Int) + 1) = ((m + (t + 1) : Nat) : Int) by rw [wrapS (by omega) (by omega)]; omega]
      exact ⟨⟨t + 1, v, rfl, rfl, by omega, hv, S2, .inr ⟨y, hy, hb⟩, c2, k12⟩, by simp only [Int.toNat_natCast]; omega⟩
    · exact ⟨⟨u, t, rfl, rfl, by omega, by omega, S2, c1, .inr ⟨y, hy, hb⟩, k12⟩, by simp only [Int.toNat_natCast]; omega⟩
  · have : u = v := by have := of_decide_eq_false g1; omega
    subst this
    have lT : (R.take u).length = u := by simp; omega
    rw [show IntKind.wrap .i64 (((m + u : Nat) : Int) - 1) = ((a + u : Nat) : Int) by rw [wrapS (by omega) (by omega)]; omega]
    refine ⟨fun i w' => ∃ k : Nat, i = ((a + k : Nat) : Int) ∧ k ≤ u ∧ SE En.crh w' base 42 (some p) l c (P ++ (R.take k ++ x :: (R.drop k ++ S))) ∧ Chg (fun k => some k = qB (some p)) w w', fun i _ => a + u - i.toNat, ⟨0, by omega, Nat.zero_le _, by simpa using S1, k1⟩, ?_⟩
    rintro _ w3 ⟨k, rfl, hk, S3, k3⟩
    refine bc (fun g2 => ?_) fun g2 => ?_
    · have g2 : k < u := by have := of_decide_eq_true g2; omega
      obtain ⟨y, hy⟩ := get_ex (l := R) (i := k) (by omega)
      have lK : (R.take k).length = k := by simp; omega
      rw [show IntKind.wrap .i64 (((a + k : Nat) : Int) + 1) = ((a + (k + 1) : Nat) : Int) by rw [wrapS (by omega) (by omega)]; omega]
      have eL : P ++ (R.take k ++ x :: (R.drop k ++ S)) = (P ++ R.take k) ++ x :: ([] ++ y :: (R.drop (k + 1) ++ S)) := by rw [drop_cons hy]; simp
      have S3d := S3.drew
      rw [eL] at S3d
      refine swapCrH S3d (i := a + (k + 1)) (j := a + k) (x := y) (y := x) rfl rfl ?_ (get_mid (by simp only [List.length_append, lK]; omega)) fun w' S' k' => ?_
      · have : (P ++ R.take k) ++ x :: ([] ++ y :: (R.drop (k + 1) ++ S)) = (P ++ R.take k ++ [x]) ++ y :: (R.drop (k + 1) ++ S) := by simp
        rw [this]; exact get_mid (by simp only [List.length_append, lK, List.length_cons, List.length_nil]; omega)
      · rw [sw_mid' (by simp only [List.length_append, lK]; omega) (by simp only [List.length_append, lK, List.length_nil]; omega)] at S'
        refine ⟨⟨k + 1, rfl, g2, by rw [take_snoc hy]; simpa using S', k3.trans k'.of_drew⟩, by simp only [Int.toNat_natCast]; omega⟩
    · have : k = u := by have := of_decide_eq_false g2; omega
      subst this
      refine ⟨rfl, R.take k ++ x :: R.drop k, by simpa using S3, ?_, ?_, k3⟩
      all_goals
        have hc := cut_ok cW (L := [x]) (R := R) (Srt.one x) sR (i := 0) (j := k) (.inl rfl) (by
          rcases c1 with c1 | ⟨y, hy, c1⟩
          · exact .inl c1
          · exact .inr (.inr ⟨x, y, rfl, hy, c1⟩))
        have hx : ∀ y ∈ R.drop k, cLt y x = false := fun y hy => by
          obtain ⟨t, ht, hyt⟩ := mem_drop_ex hy
          rcases c2 with c2 | ⟨y', hy', c2⟩
          · have := get_lt hyt; omega
          · exact cW.tr _ _ _ (sR.le cW ht hy' hyt) c2
        have hm := merge_ok cW (L1 := []) (L2 := [x]) (R1 := R.take k) (R2 := R.drop k) (M1 := R.take k) (M2 := x :: R.drop k) (Srt.one x) (by rw [List.take_append_drop]; exact sR) (fun x hx => by simp at hx) (by simpa using hc.2) (Srt.left (B := R.drop k) (by rw [List.take_append_drop]; exact sR)) (Same.refl _) (List.pairwise_cons.2 ⟨hx, Srt.right (A := R.take k) (by rw [List.take_append_drop]; exact sR)⟩) (Same.refl _)
      · exact hm.1
      · have := hm.2
        rw [List.take_append_drop] at this
        exact this
theorem symR100 {w : World} {base : Nat} {q : Option Addr} {l c : Nat} {P L R S : List CrH} (h : SE En.crh w base 42 q l c (P ++ (L ++ (R ++ S)))) (hL : L ≠ []) (hR : R ≠ []) (sL : Srt cLt L) (sR : Srt cLt R) (hl : l ≤ 4611686018427387903) (g0 : L.length ≠ 1) (g1 : R.length = 1) :
    Calls Tryd.prog 100 #[.slice q l c, .int .i64 ((P.length : Nat) : Int), .int .i64 ((P.length + L.length : Nat) : Int), .int .i64 ((P.length + L.length + R.length : Nat) : Int), .func (.func 45) #[] #[]] w (Ret fun v w' => v = .tuple #[] ∧ ∃ M, SE En.crh w' base 42 q l c (P ++ (M ++ S)) ∧ Srt cLt M ∧ Same cLt (L ++ R) M ∧ Chg (fun k => some k = qB q) w w') := by
  have hlen := h.len
  simp only [List.length_append] at hlen
  have hL0 := List.length_pos_iff.2 hL
  have hR0 := List.length_pos_iff.2 hR
  obtain ⟨p, hp⟩ : ∃ p, q = some p := by obtain ⟨a, _, ha, _⟩ := h.re.ex (i := 0) (by omega); exact ⟨a, ha⟩
  subst hp
  refine f100_45.calls _ _ _ _ _ _ ?_
  unfold f100_45.wp
  obtain ⟨a, ea⟩ : ∃ a, a = P.length := ⟨_, rfl⟩
  obtain ⟨m, em⟩ : ∃ m, m = P.length + L.length := ⟨_, rfl⟩
  obtain ⟨b, eb⟩ : ∃ b, b = P.length + L.length + R.length := ⟨_, rfl⟩
  rw [← eb, ← em, ← ea, show IntKind.wrap .i64 ((m : Int) - (a : Int)) = ((L.length : Nat) : Int) by rw [wrapS (by omega) (by omega)]; omega, show IntKind.wrap .i64 ((b : Int) - (m : Int)) = ((R.length : Nat) : Int) by rw [wrapS (by omega) (by omega)]; omega]
  refine bc (fun g => absurd (of_beq g) g0) fun g => bc (fun g' => ?_) fun g' => absurd g' (by rw [g1]; decide)
  have hR1 : R.length = 1 := by have : ((R.length : Nat) : Int) = 1 := by simpa using g'
                                omega
  obtain ⟨y, rfl⟩ := List.length_eq_one_iff.1 hR1
  have gm : (P ++ (L ++ ([y] ++ S)))[m]? = some y := by rw [em, ← List.append_assoc]; exact get_mid (by simp)
  refine ⟨fun i j w' => ∃ u v : Nat, i = ((a + u : Nat) : Int) ∧ j = ((a + v : Nat) : Int) ∧ u ≤ v ∧ v ≤ L.length ∧ SE En.crh w' base 42 (some p) l c (P ++ (L ++ ([y] ++ S))) ∧ (u = 0 ∨ ∃ x, L[u - 1]? = some x ∧ cLt y x = false) ∧ (v = L.length ∨ ∃ x, L[v]? = some x ∧ cLt y x = true) ∧ Chg (fun k => some k = qB (some p)) w w', fun i j _ => j.toNat - i.toNat, ⟨0, L.length, by omega, by omega, Nat.zero_le _, Nat.le_refl _, h, .inl rfl, .inl rfl, Chg.refl _ _⟩, ?_⟩
  rintro _ _ w1 ⟨u, v, rfl, rfl, huv, hv, S1, c1, c2, k1⟩
  refine bc (fun g1 => ?_) fun g1 => ?_
  · have g1 : u < v := by have := of_decide_eq_true g1; omega
    have eh := half64 (i := a + u) (j := a + v) (by omega)
    obtain ⟨t, et⟩ : ∃ t, t = (u + v) / 2 := ⟨_, rfl⟩
    rw [show (a + u + (a + v)) / 2 = a + t by omega] at eh
    rw [eh]
    obtain ⟨x, hx⟩ := get_ex (l := L) (i := t) (by omega)
    have S1d := S1.drew
    obtain ⟨rx, bx⟩ := rdAt S1d (k := a + t) (x := x) (by rw [get_in (P := P) (t := t) (by omega) (by omega)]; exact hx)
    obtain ⟨ry, by'⟩ := rdAt S1d gm
    refine ⟨by decide, onPtr_mk ⟨by'.1, by'.2, _, _, _, _, _, ry, onPtr_mk ⟨bx.1, bx.2, _, _, _, _, _, rx, Calls.use (ord45 w1.drew y x) ?_⟩⟩⟩
    rintro _ w2 ⟨rfl, k2⟩
    have S2 := S1d.chgN k2
    have k12 := k1.trans ((k2.of_none _).of_drew)
    refine ⟨_, rfl, bc (fun hb => ?_) fun hb => ?_⟩
    · rw [show IntKind.wrap .i64 (((a + t : Nat) : Int) + 1) = ((a + (t + 1) : Nat) : Int) by rw [wrapS (by omega) (by omega)]; omega]
      exact ⟨⟨t + 1, v, rfl, rfl, by omega, hv, S2, .inr ⟨x, hx, Eq.mp (Bool.not_eq_true' _) hb⟩, c2, k12⟩, by simp only [Int.toNat_natCast]; omega⟩
    · exact ⟨⟨u, t, rfl, rfl, by omega, by omega, S2, c1, .inr ⟨x, hx, Eq.mp (Bool.not_eq_false' _) hb⟩, k12⟩, by simp only [Int.toNat_natCast]; omega⟩
  · have : u = v := by have := of_decide_eq_false g1; omega
    subst this
    refine ⟨fun i w' => ∃ k : Nat, i = ((a + k : Nat) : Int) ∧ u ≤ k ∧ k ≤ L.length ∧ SE En.crh w' base 42 (some p) l c (P ++ (L.take k ++ y :: (L.drop k ++ S))) ∧ Chg (fun k => some k = qB (some p)) w w', fun i _ => i.toNat, ⟨L.length, by omega, hv, Nat.le_refl _, by simpa using S1, k1⟩, ?_⟩
    rintro _ w3 ⟨k, rfl, hk, hkL, S3, k3⟩
    refine bc (fun g2 => ?_) fun g2 => ?_
    · have g2 : u < k := by have := of_decide_eq_true g2; omega
      obtain ⟨k, rfl⟩ : ∃ k', k = k' + 1 := ⟨k - 1, by omega⟩
      obtain ⟨x, hx⟩ := get_ex (l := L) (i := k) (by omega)
      have lK : (L.take k).length = k := by simp; omega
      rw [show IntKind.wrap .i64 (((a + (k + 1) : Nat) : Int) - 1) = ((a + k : Nat) : Int) by rw [wrapS (by omega) (by omega)]; omega]
      have eL : P ++ (L.take (k + 1) ++ y :: (L.drop (k + 1) ++ S)) = (P ++ L.take k) ++ x :: ([] ++ y :: (L.drop (k + 1) ++ S)) := by rw [take_snoc hx]; simp
      have S3d := S3.drew
      rw [eL] at S3d
      refine swapCrH S3d (i := a + k) (j := a + (k + 1)) (x := x) (y := y) rfl rfl (get_mid (by simp only [List.length_append, lK]; omega)) ?_ fun w' S' k' => ?_
      · have : (P ++ L.take k) ++ x :: ([] ++ y :: (L.drop (k + 1) ++ S)) = (P ++ L.take k ++ [x]) ++ y :: (L.drop (k + 1) ++ S) := by simp
        rw [this]; exact get_mid (by simp only [List.length_append, lK, List.length_cons, List.length_nil]; omega)
      · rw [sw_mid (by simp only [List.length_append, lK]; omega) (by simp only [List.length_append, lK, List.length_nil]; omega)] at S'
        refine ⟨⟨k, rfl, by omega, by omega, by rw [drop_cons hx]; simpa using S', k3.trans k'.of_drew⟩, by simp only [Int.toNat_natCast]; omega⟩
    · have : k = u := by have := of_decide_eq_false g2; omega
      subst this
      refine ⟨rfl, L.take k ++ y :: L.drop k, by simpa using S3, ?_, ?_, k3⟩
      all_goals
        have hc := cut_ok cW (L := L) (R := [y]) sL (Srt.one y) (i := k) (j := 1) (.inr (.inl (by simp))) (by
          rcases c2 with c2 | ⟨x, hx, c2⟩
          · exact .inr (.inl (by omega))
          · exact .inr (.inr ⟨x, y, hx, rfl, c2⟩))
        have hx : ∀ x ∈ L.take k, cLt y x = false := fun x hx => by
          obtain ⟨t, ht, hxt⟩ := mem_take_ex hx
          rcases c1 with c1 | ⟨x', hx', c1⟩
          · omega
          · exact cW.tr _ _ _ c1 (sL.le cW (by omega) hxt hx')
        have hm := merge_ok cW (L1 := L.take k) (L2 := L.drop k) (R1 := [y]) (R2 := []) (M1 := L.take k ++ [y]) (M2 := L.drop k) (by rw [List.take_append_drop]; exact sL) (Srt.one y) (fun x _ y hy => by simp at hy) (by simpa using hc.2) (List.pairwise_append.2 ⟨Srt.left (B := L.drop k) (by rw [List.take_append_drop]; exact sL), Srt.one y, fun x hx' z hz => by simp at hz; subst hz; exact hx x hx'⟩) (Same.refl _) (Srt.right (A := L.take k) (by rw [List.take_append_drop]; exact sL)) (by rw [List.append_nil]; exact Same.refl _)
        rw [List.append_assoc (L.take k) [y]] at hm
      · exact hm.1
      · have := hm.2
        rw [List.take_append_drop] at this
        simpa using this
theorem symS100 {fuel : Nat} {w : World} {base : Nat} {q : Option Addr} {l c : Nat} {P L R S : List CrH} (ih : ∀ {w : World} {P L R S : List CrH} (_ : SE En.crh w base 42 q l c (P ++ (L ++ (R ++ S)))) (_ : L.length + R.length ≤ fuel) (_ : L ≠ []) (_ : R ≠ []) (_ : Srt cLt L) (_ : Srt cLt R), Calls Tryd.prog 100 #[.slice q l c, .int .i64 ((P.length : Nat) : Int), .int .i64 ((P.length + L.length : Nat) : Int), .int .i64 ((P.length + L.length + R.length : Nat) : Int), .func (.func 45) #[] #[]] w (Ret fun v w' => v = .tuple #[] ∧ ∃ M, SE En.crh w' base 42 q l c (P ++ (M ++ S)) ∧ Srt cLt M ∧ Same cLt (L ++ R) M ∧ Chg (fun k => some k = qB q) w w')) (h : SE En.crh w base 42 q l c (P ++ (L ++ (R ++ S)))) (hL : L ≠ []) (hR : R ≠ []) (sL : Srt cLt L) (sR : Srt cLt R) (hl : l ≤ 4611686018427387903) (hf : L.length + R.length ≤ fuel + 1) (g0 : L.length ≠ 1) (g1 : R.length ≠ 1) :
    Calls Tryd.prog 100 #[.slice q l c, .int .i64 ((P.length : Nat) : Int), .int .i64 ((P.length + L.length : Nat) : Int), .int .i64 ((P.length + L.length + R.length : Nat) : Int), .func (.func 45) #[] #[]] w (Ret fun v w' => v = .tuple #[] ∧ ∃ M, SE En.crh w' base 42 q l c (P ++ (M ++ S)) ∧ Srt cLt M ∧ Same cLt (L ++ R) M ∧ Chg (fun k => some k = qB q) w w') := by
  have hlen := h.len
  simp only [List.length_append] at hlen
  have hL0 := List.length_pos_iff.2 hL
  have hR0 := List.length_pos_iff.2 hR
  obtain ⟨p, hp⟩ : ∃ p, q = some p := by obtain ⟨a, _, ha, _⟩ := h.re.ex (i := 0) (by omega); exact ⟨a, ha⟩
  subst hp
  refine f100_45.calls _ _ _ _ _ _ ?_
  unfold f100_45.wp
  obtain ⟨a, ea⟩ : ∃ a, a = P.length := ⟨_, rfl⟩
  obtain ⟨m, em⟩ : ∃ m, m = P.length + L.length := ⟨_, rfl⟩
  obtain ⟨b, eb⟩ : ∃ b, b = P.length + L.length + R.length := ⟨_, rfl⟩
  rw [← eb, ← em, ← ea, show IntKind.wrap .i64 ((m : Int) - (a : Int)) = ((L.length : Nat) : Int) by rw [wrapS (by omega) (by omega)]; omega, show IntKind.wrap .i64 ((b : Int) - (m : Int)) = ((R.length : Nat) : Int) by rw [wrapS (by omega) (by omega)]; omega]
  refine bc (fun g => absurd (of_beq g) g0) fun g => bc (fun g' => absurd (of_beq g') g1) fun g' => ?_
  have hL2 : 2 ≤ L.length := by
    have : ¬ ((L.length : Nat) : Int) = 1 := by simpa using g
    omega
  have hR2 : 2 ≤ R.length := by
    have : ¬ ((R.length : Nat) : Int) = 1 := by simpa using g'
    omega
  have eh := half64 (i := a) (j := b) (by omega)
  obtain ⟨mid, emid⟩ : ∃ mid, mid = (a + b) / 2 := ⟨_, rfl⟩
  rw [← emid] at eh
  rw [eh]
  have en : IntKind.wrap .i64 ((mid : Int) + (m : Int)) = ((mid + m : Nat) : Int) := by rw [wrapS (by omega) (by omega)]; omega
  have ep : IntKind.wrap .i64 (((mid + m : Nat) : Int) - 1) = ((mid + m - 1 : Nat) : Int) := by rw [wrapS (by omega) (by omega)]; omega
  rw [en, ep]
  refine ⟨by decide, fun x y w' => ∃ lo hi : Nat, x = (lo : Int) ∧ y = (hi : Int) ∧ w = w' ∧ (m > mid ∧ lo = mid + m - b ∧ hi = mid ∨ m ≤ mid ∧ lo = a ∧ hi = m), ?_, ?_⟩
  case refine_2 =>
    refine bc (fun hgt => ?_) fun hle => ?_
    · have hgt : mid < m := by have := of_decide_eq_true hgt; omega
      exact ⟨mid + m - b, mid, by rw [wrapS (by omega) (by omega)]; omega, rfl, rfl, .inl ⟨hgt, rfl, rfl⟩⟩
    · have hle : m ≤ mid := by have := of_decide_eq_false hle; omega
      exact ⟨a, m, rfl, rfl, rfl, .inr ⟨hle, rfl, rfl⟩⟩
  rintro _ _ _ ⟨lo, hi, rfl, rfl, rfl, hlh⟩
  refine ⟨fun x y w' => ∃ s r : Nat, x = (s : Int) ∧ y = (r : Int) ∧ lo ≤ s ∧ s ≤ r ∧ r ≤ hi ∧ SE En.crh w' base 42 (some p) l c (P ++ (L ++ (R ++ S))) ∧ (s = lo ∨ ∃ x y, L[s - 1 - a]? = some x ∧ R[mid - s]? = some y ∧ cLt y x = false) ∧ (r = hi ∨ ∃ x y, L[r - a]? = some x ∧ R[mid - 1 - r]? = some y ∧ cLt y x = true) ∧ Chg (fun k => some k = qB (some p)) w w', fun x y _ => y.toNat - x.toNat, ⟨lo, hi, rfl, rfl, Nat.le_refl _, by omega, Nat.le_refl _, h, .inl rfl, .inl rfl, Chg.refl _ _⟩, ?_⟩
  rintro _ _ w1 ⟨s, r, rfl, rfl, hlo, hsr, hhi, S1, c1, c2, k1⟩
  refine bc (fun g1 => ?_) fun g1 => ?_
  · have g1 : s < r := by have := of_decide_eq_true g1; omega
    have eh2 := half64 (i := s) (j := r) (by omega)
    obtain ⟨t, et⟩ : ∃ t, t = (s + r) / 2 := ⟨_, rfl⟩
    rw [← et] at eh2
    rw [eh2]
    have epc : IntKind.wrap .i64 (((mid + m - 1 : Nat) : Int) - (t : Int)) = ((mid + m - 1 - t : Nat) : Int) := by rw [wrapS (by omega) (by omega)]; omega
    rw [epc]
    obtain ⟨x, hx⟩ := get_ex (l := L) (i := t - a) (by omega)
    obtain ⟨y, hy⟩ := get_ex (l := R) (i := mid - 1 - t) (by omega)
    have S1d := S1.drew
    obtain ⟨rx, bx⟩ := rdAt S1d (k := t) (x := x) (by rw [get_in (P := P) (t := t - a) (by omega) (by omega)]; exact hx)
    obtain ⟨ry, by'⟩ := rdAt S1d (k := mid + m - 1 - t) (x := y) (by rw [get_in2 (P := P) (L := L) (t := mid - 1 - t) (by omega) (by omega)]; exact hy)
    refine ⟨by decide, onPtr_mk ⟨by'.1, by'.2, _, _, _, _, _, ry, onPtr_mk ⟨bx.1, bx.2, _, _, _, _, _, rx, Calls.use (ord45 w1.drew y x) ?_⟩⟩⟩
    rintro _ w2 ⟨rfl, k2⟩
    have S2 := S1d.chgN k2
    have k12 := k1.trans ((k2.of_none _).of_drew)
    refine ⟨_, rfl, bc (fun hb => ?_) fun hb => ?_⟩
    · rw [show IntKind.wrap .i64 ((t : Int) + 1) = ((t + 1 : Nat) : Int) by rw [wrapS (by omega) (by omega)]; omega]
      exact ⟨⟨t + 1, r, rfl, rfl, by omega, by omega, hhi, S2, .inr ⟨x, y, by rw [Nat.add_sub_cancel]; exact hx, by rw [show mid - (t + 1) = mid - 1 - t by omega]; exact hy, Eq.mp (Bool.not_eq_true' _) hb⟩, c2, k12⟩, by simp only [Int.toNat_natCast]; omega⟩
    · exact ⟨⟨s, t, rfl, rfl, hlo, by omega, by omega, S2, c1, .inr ⟨x, y, hx, hy, Eq.mp (Bool.not_eq_false' _) hb⟩, k12⟩, by simp only [Int.toNat_natCast]; omega⟩
  have : s = r := by have := of_decide_eq_false g1; omega
  subst this
  have ee : IntKind.wrap .i64 (((mid + m : Nat) : Int) - (s : Int)) = ((mid + m - s : Nat) : Int) := by rw [wrapS (by omega) (by omega)]; omega
  rw [ee]
  obtain ⟨i, ei⟩ : ∃ i, i = s - a := ⟨_, rfl⟩
  obtain ⟨j, ej⟩ : ∃ j, j = mid - s := ⟨_, rfl⟩
  have his : s = a + i ∧ i ≤ L.length ∧ j ≤ R.length ∧ mid = a + i + j := by omega
  obtain ⟨hsa, hiL, hjR, hmid⟩ := his
  have hc := cut_ok cW sL sR (i := i) (j := j) (by
      rcases c1 with c1 | ⟨x, y, hx, hy, c1⟩
      · rcases hlh with h1 | h1
        · exact .inr (.inl (by omega))
        · exact .inl (by omega)
      · exact .inr (.inr ⟨x, y, by rw [show i - 1 = s - 1 - a by omega]; exact hx, by rw [ej]; exact hy, c1⟩)) (by
      rcases c2 with c2 | ⟨x, y, hx, hy, c2⟩
      · rcases hlh with h1 | h1
        · exact .inl (by omega)
        · exact .inr (.inl (by omega))
      · exact .inr (.inr ⟨x, y, by rw [ei]; exact hx, by rw [show j - 1 = mid - 1 - s by omega]; exact hy, c2⟩))
  obtain ⟨L1, eL1⟩ : ∃ L1, L1 = L.take i := ⟨_, rfl⟩
  obtain ⟨L2, eL2⟩ : ∃ L2, L2 = L.drop i := ⟨_, rfl⟩
  obtain ⟨R1, eR1⟩ : ∃ R1, R1 = R.take j := ⟨_, rfl⟩
  obtain ⟨R2, eR2⟩ : ∃ R2, R2 = R.drop j := ⟨_, rfl⟩
  have eL : L = L1 ++ L2 := by rw [eL1, eL2, List.take_append_drop]
  have eR : R = R1 ++ R2 := by rw [eR1, eR2, List.take_append_drop]
  have lL1 : L1.length = i := by rw [eL1, List.length_take]; omega
  have lL2 : L2.length = L.length - i := by rw [eL2, List.length_drop]
  have lR1 : R1.length = j := by rw [eR1, List.length_take]; omega
  have lR2 : R2.length = R.length - j := by rw [eR2, List.length_drop]
  rw [← eL1, ← eL2, ← eR1, ← eR2] at hc
  have eE : mid + m - s = m + j := by omega
  rw [eE]
  rw [eL, eR] at S1
  have sL' := sL
  have sR' := sR
  rw [eL] at sL'
  rw [eR] at sR'
  have nil_of : ∀ {X : List CrH}, X.length = 0 → X = [] := fun h => List.eq_nil_of_length_eq_zero h
  have pos_of : ∀ {X : List CrH}, 0 < X.length → X ≠ [] := fun h => List.length_pos_iff.1 h
  refine ⟨fun w' => SE En.crh w' base 42 (some p) l c (P ++ (L1 ++ (R1 ++ (L2 ++ (R2 ++ S))))) ∧ Chg (fun k => some k = qB (some p)) w w', fun w14 ⟨S14, k14⟩ => ?_, ?_⟩
  · refine ⟨fun w' => ∃ M1, Srt cLt M1 ∧ Same cLt (L1 ++ R1) M1 ∧ M1.length = L1.length + R1.length ∧ SE En.crh w' base 42 (some p) l c (P ++ (M1 ++ (L2 ++ (R2 ++ S)))) ∧ Chg (fun k => some k = qB (some p)) w w', fun w17 ⟨M1, s1, e1, lM, S17, k17⟩ => ?_, ?_⟩
    · have done : ∀ {w' : World} {M2 : List CrH}, Srt cLt M2 → Same cLt (L2 ++ R2) M2 → SE En.crh w' base 42 (some p) l c ((P ++ M1) ++ (M2 ++ S)) → Chg (fun k => some k = qB (some p)) w w' → (Value.tuple #[] = Value.tuple #[] ∧ ∃ M, SE En.crh w' base 42 (some p) l c (P ++ (M ++ S)) ∧ Srt cLt M ∧ Same cLt (L ++ R) M ∧ Chg (fun k => some k = qB (some p)) w w') := fun {w' M2} s2 e2 S' k' => by
        have hm := merge_ok cW sL' sR' hc.1 hc.2 s1 e1 s2 e2
        rw [← eL, ← eR] at hm
        exact ⟨rfl, M1 ++ M2, by simpa using S', hm.1, hm.2, k'⟩
      refine ⟨fun b' w' => (b' = true ↔ 0 < L2.length ∧ 0 < R2.length) ∧ w' = w17, ?_, ?_⟩
      · rintro b' _ ⟨hb', rfl⟩
        refine bc (fun hb => ?_) fun hb => ?_
        · have hb := hb'.1 hb
          have hr := ih (P := P ++ M1) (L := L2) (R := R2) (S := S) (by simpa using S17) (by omega) (pos_of hb.1) (pos_of hb.2) sL'.right sR'.right
          have l1 : (P ++ M1).length = mid := by simp only [List.length_append]; omega
          rw [l1, show mid + L2.length = m + j by omega, show m + j + R2.length = b by omega] at hr
          refine Calls.use hr ?_
          rintro _ w21 ⟨rfl, M2, S21, s2, e2, k21⟩
          exact ⟨rfl, done s2 e2 S21 (k17.trans k21)⟩
        · have hb : ¬ (0 < L2.length ∧ 0 < R2.length) := fun h => by rw [hb'.2 h] at hb; cases hb
          refine done (M2 := L2 ++ R2) ?_ (Same.refl _) (by simpa using S17) k17
          by_cases h0 : 0 < L2.length
          · have : R2 = [] := nil_of (by omega)
            rw [this, List.append_nil]; exact sL'.right
          · have : L2 = [] := nil_of (by omega)
            rw [this]; exact sR'.right
      · refine bc (fun hb => ⟨?_, rfl⟩) fun hb => ⟨?_, rfl⟩
        · have := of_decide_eq_true hb
          rw [decide_eq_true_eq]
          omega
        · have := of_decide_eq_false hb
          constructor
          · intro h; cases h
          · intro h; omega
    · refine ⟨fun b' w' => (b' = true ↔ 0 < L1.length ∧ 0 < R1.length) ∧ w' = w14, ?_, ?_⟩
      · rintro b' _ ⟨hb', rfl⟩
        refine bc (fun hb => ?_) fun hb => ?_
        · have hb := hb'.1 hb
          have hr := ih (P := P) (L := L1) (R := R1) (S := L2 ++ (R2 ++ S)) S14 (by omega) (pos_of hb.1) (pos_of hb.2) sL'.left sR'.left
          rw [← ea, show a + L1.length = s by omega, show s + R1.length = mid by omega] at hr
          refine Calls.use hr ?_
          rintro _ w19 ⟨rfl, M1, S19, s1, e1, k19⟩
          refine ⟨rfl, M1, s1, e1, ?_, S19, k14.trans k19⟩
          have h1 := S19.len
          have h2 := S14.len
          simp only [List.length_append] at h1 h2
          omega
        · have hb : ¬ (0 < L1.length ∧ 0 < R1.length) := fun h => by rw [hb'.2 h] at hb; cases hb
          refine ⟨L1 ++ R1, ?_, Same.refl _, by simp, by simpa using S14, k14⟩
          by_cases h0 : 0 < L1.length
          · have : R1 = [] := nil_of (by omega)
            rw [this, List.append_nil]; exact sL'.left
          · have : L1 = [] := nil_of (by omega)
            rw [this]; exact sR'.left
      · refine bc (fun hb => ⟨?_, rfl⟩) fun hb => ⟨?_, rfl⟩
        · have := of_decide_eq_true hb
          rw [decide_eq_true_eq]
          omega
        · have := of_decide_eq_false hb
          constructor
          · intro h; cases h
          · intro h; omega
  · refine ⟨fun b' w' => (b' = true ↔ 0 < L2.length ∧ 0 < R1.length) ∧ w' = w1, ?_, ?_⟩
    · rintro b' _ ⟨hb', rfl⟩
      refine bc (fun hb => ?_) fun hb => ?_
      · have hb := hb'.1 hb
        have hr := rotate107 (P := P ++ L1) (A := L2) (B := R1) (S := R2 ++ S) (by simpa using S1) (pos_of hb.1) (pos_of hb.2) hl
        have l1 : (P ++ L1).length = s := by simp only [List.length_append]; omega
        rw [l1, show s + L2.length = m by omega, show m + R1.length = m + j by omega] at hr
        refine Calls.use hr ?_
        rintro _ w16 ⟨rfl, S16, k16⟩
        exact ⟨rfl, by simpa using S16, k1.trans k16⟩
      · have hb : ¬ (0 < L2.length ∧ 0 < R1.length) := fun h => by rw [hb'.2 h] at hb; cases hb
        refine ⟨?_, k1⟩
        by_cases h0 : 0 < L2.length
        · have : R1 = [] := nil_of (by omega)
          rw [this] at S1 ⊢
          simpa using S1
        · have : L2 = [] := nil_of (by omega)
          rw [this] at S1 ⊢
          simpa using S1
    · refine bc (fun hb => ⟨?_, rfl⟩) fun hb => ⟨?_, rfl⟩
      · have := of_decide_eq_true hb
        rw [decide_eq_true_eq]
        omega
      · have := of_decide_eq_false hb
        constructor
        · intro h; cases h
        · intro h; omega
theorem symMerge100 : ∀ (fuel : Nat) {w : World} {base : Nat} {q : Option Addr} {l c : Nat} {P L R S : List CrH} (_ : SE En.crh w base 42 q l c (P ++ (L ++ (R ++ S)))) (_ : L.length + R.length ≤ fuel) (_ : L ≠ []) (_ : R ≠ []) (_ : Srt cLt L) (_ : Srt cLt R) (_ : l ≤ 4611686018427387903), Calls Tryd.prog 100 #[.slice q l c, .int .i64 ((P.length : Nat) : Int), .int .i64 ((P.length + L.length : Nat) : Int), .int .i64 ((P.length + L.length + R.length : Nat) : Int), .func (.func 45) #[] #[]] w (Ret fun v w' => v = .tuple #[] ∧ ∃ M, SE En.crh w' base 42 q l c (P ++ (M ++ S)) ∧ Srt cLt M ∧ Same cLt (L ++ R) M ∧ Chg (fun k => some k = qB q) w w')
  | 0, _, _, _, _, _, _, _, _, _, _, hf, hL, _, _, _, _ => by
    have := List.length_pos_iff.2 hL
    omega
  | fuel + 1, w, base, q, l, c, P, L, R, S, h, hf, hL, hR, sL, sR, hl => by
    by_cases g0 : L.length = 1
    · exact symL100 h hL hR sL sR hl g0
    · by_cases g1 : R.length = 1
      · exact symR100 h hL hR sL sR hl g0 g1
      · exact symS100 (fun h hf hL hR sL sR => symMerge100 fuel h hf hL hR sL sR hl) h hL hR sL sR hl hf g0 g1
end Go.Proofs.YtdlbmmodlkmofaaDoor
