import Derived.Test.YtnloecggngmcjaaEvV
set_option maxRecDepth 20000
namespace Go.Proofs.Ytnloecggngmcjaa
open Go Go.Vc Go.RowKit Go.Vc.Ring
theorem wrapS {x : Int} (h0 : -9223372036854775808 ≤ x) (h : x ≤ 9223372036854775807) : IntKind.wrap .i64 x = x := by
  simp [IntKind.wrap, IntKind.bits, IntKind.signed]; omega
theorem own7 (w : World) (k n kp : Int) (q : Option Addr) (l c : Nat) (ho : Ops w q l) (hl : l ≤ 1048576) : Calls Try.prog 7 #[.agg #[.int .i64 k, .int .i64 n, .int .i64 kp, .slice q l c]] w (Ret fun u w' => u = .bool true ∧ Chg none_ w w') := by
  refine f7.calls _ _ _ _ _ _ ?_
  unfold f7.wp
  intro w1 e1
  have X1 := new_blk e1
  have c1 := (Chg.refl none_ w).new' e1
  refine ⟨_, _, _, _, _, _, X1.reads0, Calls.use (begin10 w1 k n kp q l c) ?_⟩
  clear e1
  rintro _ w2 (⟨_, rfl, c2⟩ | ⟨hk, v0, rb, b, rfl⟩)
  · exact ⟨_, _, _, rfl, bcF rfl ⟨ptrOk_none _ _, bcT (by simp) ⟨rfl, c1.trans c2⟩⟩⟩
  refine ⟨_, _, _, rfl, bcF rfl ⟨ptrOk_none _ _, bcF (by simp) ⟨_, _, _, ((b.chg.blk X1 (fun x => x)).cell0 3).trans rfl, ?_⟩⟩⟩
  have H0 := b.both hk c1
  generalize v0.B = B at *
  clear b X1 c1 hk
  refine ⟨fun q3 l3 c3 x w3 => ∃ (i : Nat) (v : Vi) (r : Rs) (ks : List Kp), x = i ∧ i ≤ l ∧ l3 = 2 * i ∧ Both w B rb v r w3 ∧ KS w.heap.size w3 (fun g => v.own g ∨ r.own g) ks q3 l3 c3, fun _ _ _ x _ => l - x.toNat,
    ⟨0, v0, _, [], rfl, Nat.zero_le _, rfl, H0, ⟨Sl.nil _ _ _, fun j s hj => (by simp at hj), fun s hs => (by cases hs), fun s hs => (by cases hs), fun g hg => (by simp [qBlock] at hg)⟩⟩, ?_⟩
  clear H0
  rintro q3 l3 c3 x w3 ⟨i, v, r, ks, rfl, hi, hl3, H, K⟩
  refine bc (fun hlt => ?_) (fun _ => ?_)
  · have hi' : i < l := by simpa using hlt
    obtain ⟨a, x, y, rfl, hr⟩ := ho.chg H.G.chg i hi'
    simp only [Int.toNat_natCast]
    have hM : l - ((i : Int) + 1).toNat < l - i := by omega
    refine onPtr_mk ⟨by omega, by omega, _, _, hr, fun w4 e4 => ?_⟩
    have X4 := new_blk e4
    have k4 := (Chg.refl none_ w3).new' e4
    have H4 := H.next k4
    refine ⟨X4.canStore (by simp), fun w5 e5 => ?_⟩
    have X5 := X4.over e5 rfl
    have H5 := H4.put X4 e5 H.G.chg.size
    have k5 : Chg none_ w3 w5 := own_at k4 ((Chg.refl (fun g => g = w3.heap.size) w4).sets' e5 (.inl rfl)) (fun g hg => by omega)
    have K5 := K.move k5 (fun _ hf => hf.elim) (fun _ hg => .inl hg)
    clear e4 e5 X4 H4 K k4
    rw [wrap1 (by omega) (by omega), show (-1 : Int) - (i : Int) = -1 - (i : Int) from rfl, wrapS (x := -1 - (i : Int)) (by omega) (by omega)]
    refine ⟨_, _, X5.reads0, Calls.use (does20 H5 x y) ?_⟩
    rintro _ w6 ⟨rfl, v', r', H6, m6⟩
    have K6 := K5.move m6.chg (fun g hg => hg) m6.own
    clear K5 H5 X5 m6 hr H
    refine ⟨_, rfl, bcF rfl (Calls.use H6.G.ln ?_)⟩
    rintro _ w7 ⟨⟨q4, c4, rfl⟩, o4, k7, _⟩
    have H7 := H6.next k7
    refine ⟨_, _, _, rfl, Calls.use H7.G.mks ?_⟩
    rintro _ w8 ⟨⟨q5, c5, rfl⟩, o5, k8, _⟩
    have H8 := H7.next k8
    obtain ⟨b1, b2, b3⟩ := H6.small
    refine ⟨_, _, _, rfl, Calls.use H8.rlines ?_⟩
    rintro _ w9 ⟨q6, c6, rfl, i6, H9, k9⟩
    refine ⟨_, _, _, rfl, Calls.use (same18 (((Ints.own o4).chg k8).chg k9) i6 (by omega)) ?_⟩
    rintro _ w10 ⟨rfl, k10⟩
    have H10 := H9.next k10
    refine ⟨_, rfl, bcF (by simp) (Calls.use H10.rmarks ?_)⟩
    rintro _ w11 ⟨q7, c7, rfl, i7, H11, k11⟩
    refine ⟨_, _, _, rfl, Calls.use (same18 ((((Ints.own o5).chg k9).chg k10).chg k11) i7 (by omega)) ?_⟩
    rintro _ w12 ⟨rfl, k12⟩
    have k8' := (((k9.trans k10).trans k11).trans k12)
    have s4 : Sl w12 w6.heap.size 3 q4 v'.bs.length c4 _ := (Sl.of_own o4 rfl).chg (k8.trans k8') (fun _ _ hf => hf)
    have s5a : Sl w12 w7.heap.size 3 q5 (marksTo v'.line v'.n).length c5 _ := (Sl.of_own o5 rfl).chg k8' (fun _ _ hf => hf)
    have s5 := Sl.lower s5a k7.size
    have g4 : ∀ g, qBlock q4 = some g → w6.heap.size ≤ g ∧ g < w7.heap.size := fun g hg => ⟨((Sl.of_own o4 rfl).lt hg).2, ((Sl.of_own o4 rfl).lt hg).1⟩
    have g5 : ∀ g, qBlock q5 = some g → w7.heap.size ≤ g := fun g hg => (s5a.lt hg).2
    have k612 : Chg none_ w6 w12 := (k7.trans k8).trans k8'
    have H12 := H6.next k612
    clear k8' i6 i7 o4 o5 H7 H8 H9 H10 H11 k8 k9 k10 k11 k12
    refine ⟨_, rfl, bcF (by simp) (fillLoop s4 b1 _ fun w13 t4 x13 => ?_)⟩
    have k613 : Chg none_ w6 w13 := own_at k612 x13 (fun g hg => (g4 g hg.symm).1)
    have s5' := s5.chg x13 (fun g hg hc => by have := g5 g hg; have := (g4 g hc.symm).2; omega)
    refine fillLoop s5' b3 _ fun w15 t5 x15 => ?_
    have k615 : Chg none_ w6 w15 := own_at k613 x15 (fun g hg => Nat.le_trans k7.size (g5 g hg.symm))
    have t4' := t4.chg x15 (fun g hg hc => by have := g5 g hc.symm; have := (g4 g hg).2; omega)
    intro w17 e17
    have y17 := (Chg.refl none_ w15).new' e17
    have k617 := k615.trans y17
    have u4 := t4'.chg y17 (fun _ _ hf => hf)
    have u5 := t5.chg y17 (fun _ _ hf => hf)
    have B17 := new_blk e17
    have rd17 : Rd w17 (some ⟨w15.heap.size, 0, none⟩) 2 [iv (-9), iv (-9)] := ⟨rfl, fun j u hu => ⟨_, rfl, by rw [Nat.mul_one, B17.cell0]; simpa using hu⟩⟩
    have nine : ∀ u ∈ [iv (-9), iv (-9)], u.oneCell' = true := fun u hu => by simp at hu; subst hu; rfl
    obtain ⟨q8, c8, w18, hr18, t18, x18, _, u4'⟩ := u4.append_full (P := Try.prog) (t := 36) (ty := 36) (z := .int .i64 0) (bytes := 8) Try.underlying36 (by kernel_rfl) rfl rd17 nine (by simp only [maxLen]; omega) (by omega) k617.size (c2 := 2)
    refine ⟨q8, _, c8, w18, hr18, ?_⟩
    clear hr18 t18 rd17 B17 e17
    have k618 : Chg none_ w6 w18 := own_at k617 x18 (fun g hg => (g4 g hg.symm).1)
    have u5' := u5.chg x18 (fun g hg hc => by have := g5 g hg; have := (g4 g hc.symm).2; omega)
    intro w19 e19
    have y19 := (Chg.refl none_ w18).new' e19
    have k619 := k618.trans y19
    have v4 := u4'.chg y19 (fun _ _ hf => hf)
    have v5 := u5'.chg y19 (fun _ _ hf => hf)
    have B19 := new_blk e19
    have rd19 : Rd w19 (some ⟨w18.heap.size, 0, none⟩) 2 [iv (-9), iv (-9)] := ⟨rfl, fun j u hu => ⟨_, rfl, by rw [Nat.mul_one, B19.cell0]; simpa using hu⟩⟩
    obtain ⟨q9, c9, w20, hr20, t20, x20, _, v5'⟩ := v5.append_full (P := Try.prog) (t := 36) (ty := 36) (z := .int .i64 0) (bytes := 8) Try.underlying36 (by kernel_rfl) rfl rd19 nine (by simp only [maxLen]; omega) (by omega) k619.size (c2 := 2)
    refine ⟨q9, _, c9, w20, hr20, ?_⟩
    clear hr20 t20 rd19 B19 e19 nine
    have k620 : Chg none_ w6 w20 := own_at k619 x20 (fun g hg => Nat.le_trans k7.size (g5 g hg.symm))
    have v4' := v4.chg x20 (fun g hg hc => by have := g5 g hc.symm; have := (g4 g hg).2; omega)
    have H20 := H6.next k620
    have K20 := K6.move k620 (fun _ hf => hf.elim) (fun _ hg => .inl hg)
    have lt6 := H6.lt
    have k6s := k620.size
    clear t4 t5 t4' s4 s5 s5a s5' u4 u5 u4' u5' v4 v5 x13 x15 x18 x20 y17 y19 k612 k613 k615 k617 k618 k619 H12 K6 H6 k620
    intro w21 e21
    have y21 := (Chg.refl none_ w20).new' e21
    have H21 := H20.next y21
    have K21 := K20.move y21 (fun _ hf => hf.elim) (fun _ hg => .inl hg)
    have B21 := new_blk e21
    have hlen : ks.length = l3 := by have := K21.sl.1; simpa using this
    obtain ⟨q10, c10, w22, hr22, t22, x22, at22, _⟩ := K21.sl.append_full (P := Try.prog) (t := 46) (ty := 46) (z := .slice none 0 0) (bytes := 24) (m := 2) (news := [kv (q4, v'.bs.length, c4), kv (q5, (marksTo v'.line v'.n).length, c5)]) (q2 := some ⟨w20.heap.size, 0, none⟩) Try.underlying46 (by kernel_rfl) rfl
      ⟨rfl, fun j u hu => ⟨_, rfl, by rw [Nat.mul_one, B21.cell0]; simpa using hu⟩⟩ (fun u hu => by simp at hu; rcases hu with rfl | rfl <;> rfl) (by simp only [maxLen]; omega) (by omega) H21.G.chg.size (c2 := 2)
    refine ⟨q10, _, c10, w22, hr22, ?_⟩
    clear hr22 B21 e21
    have H22 := H21.chgS x22 (fun g hg => (K21.sl.lt hg.symm).2) (fun g hg hs => K21.row g hs.symm hg)
    have ne : ∀ {g : Nat} {cs : Array Value}, Blk w21 g 3 cs → ¬ some g = qBlock q3 := fun hb hc => by
      obtain ⟨cs', hc'⟩ := Sl.blk K21.sl hc.symm
      have := (hb.type hc').1
      simp at this
    have w4b : ∀ g, qBlock q4 = some g → ∃ cs, Blk w21 g 3 cs := fun g hg => by
      obtain ⟨cs, hc⟩ := Sl.blk v4' hg
      exact ⟨cs, y21.blk hc (fun x => x)⟩
    have w5b : ∀ g, qBlock q5 = some g → ∃ cs, Blk w21 g 3 cs := fun g hg => by
      obtain ⟨cs, hc⟩ := Sl.blk v5' hg
      exact ⟨cs, y21.blk hc (fun x => x)⟩
    have f4 : Fill w22 (q4, v'.bs.length, c4) (-1 - (i : Int)) := ((Fill.sl v4').chg y21 (fun _ _ hf => hf)).chg x22 (fun g hg => by obtain ⟨cs, hc⟩ := w4b g hg; exact ne hc)
    have f5 : Fill w22 (q5, (marksTo v'.line v'.n).length, c5) (-1 - (i : Int)) := ((Fill.sl v5').chg y21 (fun _ _ hf => hf)).chg x22 (fun g hg => by obtain ⟨cs, hc⟩ := w5b g hg; exact ne hc)
    have K22 : KS w.heap.size w22 (fun g => v'.own g ∨ r'.own g) (ks ++ [(q4, v'.bs.length, c4), (q5, (marksTo v'.line v'.n).length, c5)]) q10 (l3 + 2) c10 := by
      refine ⟨by simpa using t22, fun j s hj => ?_, fun s hs g hg => ?_, fun s hs => ?_, fun g hg hb => ?_⟩
      · rcases Nat.lt_or_ge j ks.length with h1 | h1
        · rw [List.getElem?_append_left h1] at hj
          exact (K21.fill j s hj).chg x22 (fun g hg => by obtain ⟨⟨cs, hc⟩, _⟩ := K21.blk s (List.mem_of_getElem? hj) g hg; exact ne hc)
        · rw [List.getElem?_append_right h1] at hj
          have h2 : j - ks.length < 2 := by
            rcases Nat.lt_or_ge (j - ks.length) 2 with h3 | h3
            · exact h3
            · rw [List.getElem?_eq_none (by simpa using h3)] at hj; cases hj
          have h4 : j / 2 = i := by omega
          rw [h4]
          rcases (show j - ks.length = 0 ∨ j - ks.length = 1 by omega) with h5 | h5
          · rw [h5] at hj; cases hj; exact f4
          · rw [h5] at hj; cases hj; exact f5
      · simp at hs
        rcases hs with hs | rfl | rfl
        · obtain ⟨⟨cs, hc⟩, hn⟩ := K21.blk s hs g hg
          exact ⟨⟨cs, x22.blk hc (ne hc)⟩, hn⟩
        · obtain ⟨cs, hc⟩ := w4b g hg
          exact ⟨⟨cs, x22.blk hc (ne hc)⟩, fun hb => by have := lt6 g hb; have := (g4 g hg).1; omega⟩
        · obtain ⟨cs, hc⟩ := w5b g hg
          exact ⟨⟨cs, x22.blk hc (ne hc)⟩, fun hb => by have := lt6 g hb; have := g5 g hg; have := k7.size; omega⟩
      · simp at hs
        rcases hs with hs | rfl | rfl
        · exact K21.few s hs
        · exact b1
        · exact b3
      · rcases at22 with h1 | h1
        · exact K21.row g (h1 ▸ hg) hb
        · rw [h1] at hg
          simp at hg
          have := lt6 g hb
          have := y21.size
          omega
    clear f4 f5 w4b w5b ne at22 x22 t22 H21 K21 K20 H20 y21 v4' v5'
    refine Calls.use H22.lines ?_
    rintro _ w23 ⟨q11, c11, rfl, i11, H23, k23⟩
    refine ⟨_, _, _, rfl, Calls.use H23.rlines ?_⟩
    rintro _ w24 ⟨q12, c12, rfl, i12, H24, k24⟩
    refine ⟨_, _, _, rfl, Calls.use (same18 (i11.chg k24) i12 (by omega)) ?_⟩
    rintro _ w25 ⟨rfl, k25⟩
    have H25 := H24.next k25
    refine ⟨_, rfl, bcF (by simp) (Calls.use H25.marks ?_)⟩
    rintro _ w26 ⟨q13, c13, rfl, i13, H26, k26⟩
    refine ⟨_, _, _, rfl, Calls.use H26.rmarks ?_⟩
    rintro _ w27 ⟨q14, c14, rfl, i14, H27, k27⟩
    refine ⟨_, _, _, rfl, Calls.use (same18 (i13.chg k27) i14 (by omega)) ?_⟩
    rintro _ w28 ⟨rfl, k28⟩
    have K28 := K22.move (((((k23.trans k24).trans k25).trans k26).trans k27).trans k28) (fun _ hf => hf.elim) (fun _ hg => .inl hg)
    exact ⟨_, rfl, bcF (by simp) ⟨⟨i + 1, v', r', _, by omega, hi', by omega, H27.next k28, K28⟩, hM⟩⟩
  · have hlen : ks.length = l3 := by have := K.sl.1; simpa using this
    refine ⟨fun x w29 => ∃ j : Nat, x = j ∧ j ≤ l3 ∧ w29 = w3, fun x _ => l3 - x.toNat, ⟨0, rfl, Nat.zero_le _, rfl⟩, ?_⟩
    rintro x w29 ⟨j, rfl, hj, rfl⟩
    refine bc (fun hlt => ?_) (fun _ => ⟨rfl, H.G.chg⟩)
    have hj' : j < l3 := by simpa using hlt
    obtain ⟨s, hs⟩ : ∃ s, ks[j]? = some s := ⟨_, List.getElem?_eq_getElem (by omega)⟩
    obtain ⟨a, rfl, hc⟩ := K.sl.cell (i := j) (x := kv s) (by simp [hs])
    simp only [Int.toNat_natCast]
    have hf := K.fill j s hs
    have hfew := K.few s (List.mem_of_getElem? hs)
    refine onPtr_mk ⟨by omega, by omega, _, _, _, hc, fun x w30 => ∃ y : Nat, x = y ∧ y ≤ s.2.1 ∧ w30 = w29, fun x _ => s.2.1 - x.toNat, ⟨0, rfl, Nat.zero_le _, rfl⟩, ?_⟩
    rintro x w30 ⟨y, rfl, hy, rfl⟩
    refine bc (fun hlt => ?_) (fun _ => ?_)
    · have hy' : y < s.2.1 := by simpa using hlt
      obtain ⟨a5, ha5, hc5⟩ := hf y hy'
      rw [ha5]
      simp only [Int.toNat_natCast]
      have hd : Int.tdiv (j : Int) 2 = ((j / 2 : Nat) : Int) := by rw [Int.tdiv_eq_ediv_of_nonneg (by omega)]; omega
      rw [hd, wrapS (x := ((j / 2 : Nat) : Int)) (by omega) (by omega), wrapS (x := (-1 : Int) - ((j / 2 : Nat) : Int)) (by omega) (by omega), wrap1 (by omega) (by omega)]
      exact onPtr_mk ⟨by omega, by omega, _, hc5, by decide, bcF (by simp) ⟨⟨y + 1, by omega, hy', by trivial⟩, by omega⟩⟩
    · rw [wrap1 (by omega) (by omega)]
      exact ⟨⟨j + 1, by omega, hj', by trivial⟩, by omega⟩
end Go.Proofs.Ytnloecggngmcjaa
