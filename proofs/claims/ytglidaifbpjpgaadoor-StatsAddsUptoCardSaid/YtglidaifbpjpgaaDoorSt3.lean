import Derived.Test.YtglidaifbpjpgaaDoorSt2
set_option maxRecDepth 20000
namespace Go.Proofs.YtglidaifbpjpgaaDoor
namespace Mo
open Go Go.Vc Go.RowKit
/-! # each begin has its move, in order -/
def fl (m : Mv) : Int × Int := (m.frm, m.life)
def begs (b i : Int) (es : List Ev) : List (Int × Int) := (es.filter fun e => !e.ret).map fun e => (b + e.step, i)
theorem begs_cons (b i : Int) (e : Ev) (es : List Ev) : begs b i (e :: es) = if e.ret then begs b i es else (b + e.step, i) :: begs b i es := by
  unfold begs
  cases h : e.ret <;> simp [h]
theorem map_set_same {α β : Type} (f : α → β) {l : List α} {j : Nat} {x y : α} (h : l[j]? = some x) (e : f y = f x) : (l.set j y).map f = l.map f := by
  rw [List.map_set, e, set_same (by simp [h])]
theorem step_fl {p : P} {s t : S} {e : Ev} (h : stepX p s e = some t) : t.out.map fl = s.out.map fl ++ begs p.base p.life [e] ∧ s.last ≤ e.step ∧ e.step < p.steps ∧ t.last = e.step := by
  unfold stepX at h
  split at h
  · cases h
  · rename_i h0
    split at h
    · rename_i n cur calls anss h1 h2 h3
      unfold stepC at h
      split at h
      · cases h
      · split at h
        · cases h
        · cases hr : e.ret <;> cases cur <;> (rw [hr] at h; simp only at h)
          · split at h
            · cases h
            · cases h
              refine ⟨?_, by omega, by omega, rfl⟩
              rw [begs_cons, hr, List.map_append]
              simp [begs, fl, begM]
          · cases h
          · cases h
          · split at h
            · rename_i a m h6 h7
              cases h
              refine ⟨?_, by omega, by omega, rfl⟩
              rw [begs_cons, hr]
              show (s.out.set _ (endM m (p.base + e.step) a)).map fl = _
              rw [map_set_same fl h7 (show fl (endM m (p.base + e.step) a) = fl m from rfl)]
              simp [begs]
            · cases h
    · cases h
theorem run_fl {p : P} : ∀ (es : List Ev) {s t : S}, runX p es s = some t → 0 ≤ s.last → t.out.map fl = s.out.map fl ++ begs p.base p.life es ∧ ∀ e ∈ es, 0 ≤ e.step ∧ e.step < p.steps
  | [], s, t, h, _ => by cases h; exact ⟨by simp [begs], fun e he => by cases he⟩
  | e :: es, s, t, h, h0 => by
    rw [runX] at h
    cases hs : stepX p s e with
    | none => rw [hs] at h; cases h
    | some u =>
      rw [hs] at h
      obtain ⟨h1, h2, h3, h4⟩ := step_fl hs
      obtain ⟨g1, g2⟩ := run_fl es h (by omega)
      refine ⟨?_, fun x hx => ?_⟩
      · rw [g1, h1, List.append_assoc]
        congr 1
        rw [begs_cons, begs_cons]
        cases e.ret <;> simp [begs]
      · rcases List.mem_cons.1 hx with rfl | hx
        · exact ⟨by omega, h3⟩
        · exact g2 x hx
theorem life_fl {p : P} {es : List Ev} {o : List Mv} (h : lifeX p es = some o) : o.map fl = begs p.base p.life es ∧ ∀ e ∈ es, 0 ≤ e.step ∧ e.step < p.steps := by
  unfold lifeX at h
  split at h
  · cases h
  · cases hr : runX p es (S0 p.cs.length) with
    | none => rw [hr] at h; cases h
    | some s =>
      rw [hr] at h
      simp only at h
      split at h
      · cases h
        have := run_fl es hr (Int.le_refl _)
        exact ⟨by rw [this.1]; simp [S0], this.2⟩
      · cases h
def flA : List (List (List Cl) × Tl) → Int → Int → List (Int × Int)
  | [], _, _ => []
  | z :: r, i, b => begs b i z.2.es ++ flA r (i + 1) (b + z.2.steps)
theorem all_fl : ∀ (zs : List (List (List Cl) × Tl)) {i b : Int} {o : List Mv}, allX true kpP zs i b = some o → o.map fl = flA zs i b ∧ ∀ z ∈ zs, (0 ≤ z.2.steps ∧ z.2.steps ≤ 1048576) ∧ ∀ e ∈ z.2.es, 0 ≤ e.step ∧ e.step ≤ 1048576
  | [], i, b, o, h => by cases h; exact ⟨rfl, fun z hz => by cases hz⟩
  | z :: zs, i, b, o, h => by
    rw [allX] at h
    cases hl : lifeX ⟨true, kpP, i, b, z.2.steps, z.1, z.2.an⟩ z.2.es with
    | none => rw [hl] at h; cases h
    | some a =>
      rw [hl] at h
      cases hr : allX true kpP zs (i + 1) (b + z.2.steps) with
      | none => rw [hr] at h; cases h
      | some r =>
        rw [hr] at h
        cases h
        obtain ⟨h1, h2⟩ := life_fl hl
        obtain ⟨g1, g2⟩ := all_fl zs hr
        have h3 : 0 ≤ z.2.steps ∧ z.2.steps ≤ 1048576 := lifeX_steps hl
        refine ⟨by rw [List.map_append, h1, g1]; rfl, fun y hy => ?_⟩
        rcases List.mem_cons.1 hy with rfl | hy
        · refine ⟨h3, fun e he => ?_⟩
          have h4 : 0 ≤ e.step ∧ e.step < y.2.steps := h2 e he
          omega
        · exact g2 y hy

/-! # what the counts add up to -/
def Inv (n : Int) (cs : List Int) : Prop := ∃ a0 a1 a2 a3 a4 a5 a6 a7 a8 a9 a10 a11 a12 a13 a14, cs = [a0, a1, a2, a3, a4, a5, a6, a7, a8, a9, a10, a11, a12, a13, a14] ∧ a0 = a1 + a2 ∧ a0 + a3 + a4 + a5 + a6 + a7 + a8 + a9 = n ∧ (0 ≤ a1 ∧ 0 ≤ a2 ∧ 0 ≤ a3 ∧ 0 ≤ a4 ∧ 0 ≤ a5 ∧ 0 ≤ a6 ∧ 0 ≤ a7 ∧ 0 ≤ a8 ∧ 0 ≤ a9) ∧ a13 = 0 ∧ a14 = 0
def Fin (n : Int) (cs : List Int) : Prop := ∃ a0 a1 a2 a3 a4 a5 a6 a7 a8 a9 a10 a11 a12 a13 a14, cs = [a0, a1, a2, a3, a4, a5, a6, a7, a8, a9, a10, a11, a12, a13, a14] ∧ a0 = a1 + a2 ∧ a0 + a3 + a4 + a5 + a6 + a7 + a8 + a9 = n ∧ (0 ≤ a1 ∧ 0 ≤ a2 ∧ 0 ≤ a3 ∧ 0 ≤ a4 ∧ 0 ≤ a5 ∧ 0 ≤ a6 ∧ 0 ≤ a7 ∧ 0 ≤ a8 ∧ 0 ≤ a9) ∧ a13 ≤ a14
section
variable {a0 a1 a2 a3 a4 a5 a6 a7 a8 a9 a10 a11 a12 a13 a14 : Int}
theorem inc_0 (h0 : 0 ≤ a0) (h : a0 < 9000000000000000000) : inc 0 [a0, a1, a2, a3, a4, a5, a6, a7, a8, a9, a10, a11, a12, a13, a14] = [a0 + 1, a1, a2, a3, a4, a5, a6, a7, a8, a9, a10, a11, a12, a13, a14] := by
  show [IntKind.wrap .i64 (a0 + 1), a1, a2, a3, a4, a5, a6, a7, a8, a9, a10, a11, a12, a13, a14] = _
  rw [wrapS (by omega) (by omega)]
theorem inc_1 (h0 : 0 ≤ a1) (h : a1 < 9000000000000000000) : inc 1 [a0, a1, a2, a3, a4, a5, a6, a7, a8, a9, a10, a11, a12, a13, a14] = [a0, a1 + 1, a2, a3, a4, a5, a6, a7, a8, a9, a10, a11, a12, a13, a14] := by
  show [a0, IntKind.wrap .i64 (a1 + 1), a2, a3, a4, a5, a6, a7, a8, a9, a10, a11, a12, a13, a14] = _
  rw [wrapS (by omega) (by omega)]
theorem inc_2 (h0 : 0 ≤ a2) (h : a2 < 9000000000000000000) : inc 2 [a0, a1, a2, a3, a4, a5, a6, a7, a8, a9, a10, a11, a12, a13, a14] = [a0, a1, a2 + 1, a3, a4, a5, a6, a7, a8, a9, a10, a11, a12, a13, a14] := by
  show [a0, a1, IntKind.wrap .i64 (a2 + 1), a3, a4, a5, a6, a7, a8, a9, a10, a11, a12, a13, a14] = _
  rw [wrapS (by omega) (by omega)]
theorem inc_3 (h0 : 0 ≤ a3) (h : a3 < 9000000000000000000) : inc 3 [a0, a1, a2, a3, a4, a5, a6, a7, a8, a9, a10, a11, a12, a13, a14] = [a0, a1, a2, a3 + 1, a4, a5, a6, a7, a8, a9, a10, a11, a12, a13, a14] := by
  show [a0, a1, a2, IntKind.wrap .i64 (a3 + 1), a4, a5, a6, a7, a8, a9, a10, a11, a12, a13, a14] = _
  rw [wrapS (by omega) (by omega)]
theorem inc_4 (h0 : 0 ≤ a4) (h : a4 < 9000000000000000000) : inc 4 [a0, a1, a2, a3, a4, a5, a6, a7, a8, a9, a10, a11, a12, a13, a14] = [a0, a1, a2, a3, a4 + 1, a5, a6, a7, a8, a9, a10, a11, a12, a13, a14] := by
  show [a0, a1, a2, a3, IntKind.wrap .i64 (a4 + 1), a5, a6, a7, a8, a9, a10, a11, a12, a13, a14] = _
  rw [wrapS (by omega) (by omega)]
theorem inc_5 (h0 : 0 ≤ a5) (h : a5 < 9000000000000000000) : inc 5 [a0, a1, a2, a3, a4, a5, a6, a7, a8, a9, a10, a11, a12, a13, a14] = [a0, a1, a2, a3, a4, a5 + 1, a6, a7, a8, a9, a10, a11, a12, a13, a14] := by
  show [a0, a1, a2, a3, a4, IntKind.wrap .i64 (a5 + 1), a6, a7, a8, a9, a10, a11, a12, a13, a14] = _
  rw [wrapS (by omega) (by omega)]
theorem inc_6 (h0 : 0 ≤ a6) (h : a6 < 9000000000000000000) : inc 6 [a0, a1, a2, a3, a4, a5, a6, a7, a8, a9, a10, a11, a12, a13, a14] = [a0, a1, a2, a3, a4, a5, a6 + 1, a7, a8, a9, a10, a11, a12, a13, a14] := by
  show [a0, a1, a2, a3, a4, a5, IntKind.wrap .i64 (a6 + 1), a7, a8, a9, a10, a11, a12, a13, a14] = _
  rw [wrapS (by omega) (by omega)]
theorem inc_7 (h0 : 0 ≤ a7) (h : a7 < 9000000000000000000) : inc 7 [a0, a1, a2, a3, a4, a5, a6, a7, a8, a9, a10, a11, a12, a13, a14] = [a0, a1, a2, a3, a4, a5, a6, a7 + 1, a8, a9, a10, a11, a12, a13, a14] := by
  show [a0, a1, a2, a3, a4, a5, a6, IntKind.wrap .i64 (a7 + 1), a8, a9, a10, a11, a12, a13, a14] = _
  rw [wrapS (by omega) (by omega)]
theorem inc_8 (h0 : 0 ≤ a8) (h : a8 < 9000000000000000000) : inc 8 [a0, a1, a2, a3, a4, a5, a6, a7, a8, a9, a10, a11, a12, a13, a14] = [a0, a1, a2, a3, a4, a5, a6, a7, a8 + 1, a9, a10, a11, a12, a13, a14] := by
  show [a0, a1, a2, a3, a4, a5, a6, a7, IntKind.wrap .i64 (a8 + 1), a9, a10, a11, a12, a13, a14] = _
  rw [wrapS (by omega) (by omega)]
theorem inc_9 (h0 : 0 ≤ a9) (h : a9 < 9000000000000000000) : inc 9 [a0, a1, a2, a3, a4, a5, a6, a7, a8, a9, a10, a11, a12, a13, a14] = [a0, a1, a2, a3, a4, a5, a6, a7, a8, a9 + 1, a10, a11, a12, a13, a14] := by
  show [a0, a1, a2, a3, a4, a5, a6, a7, a8, IntKind.wrap .i64 (a9 + 1), a10, a11, a12, a13, a14] = _
  rw [wrapS (by omega) (by omega)]
end
theorem inv_zero : Inv 0 zeros := ⟨0, 0, 0, 0, 0, 0, 0, 0, 0, 0, 0, 0, 0, 0, 0, rfl, rfl, rfl, by omega, rfl, rfl⟩
theorem inv_next {n : Int} {cs : List Int} {m : Mv} (h : Inv n cs) (hn : n < 1048576) : Inv (n + 1) (stp cs m) := by
  obtain ⟨a0, a1, a2, a3, a4, a5, a6, a7, a8, a9, a10, a11, a12, a13, a14, rfl, h1, h2, h3, h4, h5⟩ := h
  unfold stp kindS getS putS
  have fin : ∀ b0 b1 b2 b3 b4 b5 b6 b7 b8 b9 b10 b11 b12 : Int, b0 = b1 + b2 → b0 + b3 + b4 + b5 + b6 + b7 + b8 + b9 = n + 1 → (0 ≤ b1 ∧ 0 ≤ b2 ∧ 0 ≤ b3 ∧ 0 ≤ b4 ∧ 0 ≤ b5 ∧ 0 ≤ b6 ∧ 0 ≤ b7 ∧ 0 ≤ b8 ∧ 0 ≤ b9) → Inv (n + 1) [b0, b1, b2, b3, b4, b5, b6, b7, b8, b9, b10, b11, b12, a13, a14] := fun b0 b1 b2 b3 b4 b5 b6 b7 b8 b9 b10 b11 b12 g1 g2 g3 => ⟨b0, b1, b2, b3, b4, b5, b6, b7, b8, b9, b10, b11, b12, a13, a14, rfl, g1, g2, g3, h4, h5⟩
  split
  · rw [inc_9 (by omega) (by omega)]; exact fin _ _ _ _ _ _ _ _ _ _ _ _ _ (by omega) (by omega) (by omega)
  split
  · split
    · rw [inc_0 (by omega) (by omega)]
      split
      · rw [inc_1 (by omega) (by omega)]; exact fin _ _ _ _ _ _ _ _ _ _ _ _ _ (by omega) (by omega) (by omega)
      · rw [inc_2 (by omega) (by omega)]; exact fin _ _ _ _ _ _ _ _ _ _ _ _ _ (by omega) (by omega) (by omega)
    split
    · rw [inc_3 (by omega) (by omega)]; exact fin a0 a1 a2 (a3 + 1) a4 a5 a6 a7 a8 a9 _ a11 a12 (by omega) (by omega) (by omega)
    split
    · rw [inc_5 (by omega) (by omega)]; exact fin _ _ _ _ _ _ _ _ _ _ _ _ _ (by omega) (by omega) (by omega)
    split
    · rw [inc_6 (by omega) (by omega)]; exact fin _ _ _ _ _ _ _ _ _ _ _ _ _ (by omega) (by omega) (by omega)
    · rw [inc_7 (by omega) (by omega)]; exact fin _ _ _ _ _ _ _ _ _ _ _ _ _ (by omega) (by omega) (by omega)
  split
  · rw [inc_4 (by omega) (by omega)]; exact fin _ _ _ _ _ _ _ _ _ _ _ _ _ (by omega) (by omega) (by omega)
  · rw [inc_8 (by omega) (by omega)]; exact fin _ _ _ _ _ _ _ _ _ _ _ _ _ (by omega) (by omega) (by omega)
theorem inv_take (ms : List Mv) : ∀ k : Nat, k ≤ ms.length → k < 1048576 → Inv (k : Int) (fo (ms.take k))
  | 0, _, _ => by simpa [fo] using inv_zero
  | k + 1, h, hk => by
    obtain ⟨m, hm⟩ := get_ex (l := ms) (i := k) (by omega)
    rw [fo_next hm]
    have := inv_next (m := m) (inv_take ms k (by omega) (by omega)) (by omega)
    rwa [show ((k + 1 : Nat) : Int) = (k : Int) + 1 by omega]
theorem wear_ok {l : List Int} {a0 a1 a2 a3 a4 a5 a6 a7 a8 a9 a10 a11 a12 : Int} : ∀ k : Nat, ∃ x y, wrN l [a0, a1, a2, a3, a4, a5, a6, a7, a8, a9, a10, a11, a12, 0, 0] k = [a0, a1, a2, a3, a4, a5, a6, a7, a8, a9, a10, a11, a12, x, y] ∧ x ≤ y
  | 0 => ⟨0, 0, rfl, Int.le_refl _⟩
  | k + 1 => by
    obtain ⟨x, y, h, hxy⟩ := wear_ok (l := l) (a0 := a0) (a1 := a1) (a2 := a2) (a3 := a3) (a4 := a4) (a5 := a5) (a6 := a6) (a7 := a7) (a8 := a8) (a9 := a9) (a10 := a10) (a11 := a11) (a12 := a12) k
    rw [wrN]
    cases hk : l[k]? with
    | none => exact ⟨x, y, h, hxy⟩
    | some z =>
      simp only [h]
      have ec : (if k = 0 ∨ at0 z < gt [a0, a1, a2, a3, a4, a5, a6, a7, a8, a9, a10, a11, a12, x, y] 13 then List.set [a0, a1, a2, a3, a4, a5, a6, a7, a8, a9, a10, a11, a12, x, y] 13 (at0 z) else [a0, a1, a2, a3, a4, a5, a6, a7, a8, a9, a10, a11, a12, x, y]) = [a0, a1, a2, a3, a4, a5, a6, a7, a8, a9, a10, a11, a12, if k = 0 ∨ at0 z < x then at0 z else x, y] := by
        show (if k = 0 ∨ at0 z < x then _ else _) = _
        split <;> rfl
      have e : wst k z [a0, a1, a2, a3, a4, a5, a6, a7, a8, a9, a10, a11, a12, x, y] = [a0, a1, a2, a3, a4, a5, a6, a7, a8, a9, a10, a11, a12, if k = 0 ∨ at0 z < x then at0 z else x, if at0 z > y then at0 z else y] := by
        unfold wst
        simp only [ec]
        show (if at0 z > y then _ else _) = _
        split <;> rfl
      refine ⟨_, _, e, ?_⟩
      split <;> split <;> omega
theorem fin_ok (ms : List Mv) (ds : List Dv) (page : Int) (h : ms.length < 1048576) : Fin (ms.length : Int) (fin ms ds page) := by
  have h0 := inv_take ms ms.length (Nat.le_refl _) h
  rw [List.take_length] at h0
  obtain ⟨a0, a1, a2, a3, a4, a5, a6, a7, a8, a9, a10, a11, a12, a13, a14, e, h1, h2, h3, h4, h5⟩ := h0
  subst h4 h5
  unfold fin
  rw [e]
  split
  · exact ⟨_, _, _, _, _, _, _, _, _, _, _, _, _, _, _, rfl, h1, h2, h3, Int.le_refl _⟩
  · rename_i d _
    obtain ⟨x, y, h, hxy⟩ := wear_ok (l := d.wear) (a0 := a0) (a1 := a1) (a2 := a2) (a3 := a3) (a4 := a4) (a5 := a5) (a6 := a6) (a7 := a7) (a8 := a8) (a9 := a9) (a10 := a10) (a11 := wrt (at0 d.prog) (at0 page)) (a12 := at0 d.er) d.wear.length
    exact ⟨_, _, _, _, _, _, _, _, _, _, _, _, _, x, y, h, h1, h2, h3, hxy⟩
/-! # how many begins -/
def nb (es : List Ev) : Nat := (es.filter fun e => !e.ret).length
def tb (ts : List Tl) : Nat := (ts.map fun t => nb t.es).sum
theorem nb_le (es : List Ev) : nb es ≤ es.length := List.length_filter_le _ _
theorem nb_next {es : List Ev} {k : Nat} {e : Ev} (h : es[k]? = some e) : nb (es.take (k + 1)) = nb (es.take k) + if e.ret then 0 else 1 := by
  unfold nb
  rw [List.take_add_one, h, List.filter_append, List.length_append]
  cases he : e.ret <;> simp [he]
theorem tb_next {ts : List Tl} {k : Nat} {t : Tl} (h : ts[k]? = some t) : tb (ts.take (k + 1)) = tb (ts.take k) + nb t.es := by
  unfold tb
  rw [List.take_add_one, h, List.map_append, List.sum_append]
  simp
theorem tb_tot : ∀ ts : List Tl, tb ts ≤ tot ts
  | [] => Nat.le_refl _
  | t :: ts => by
    have h1 := tb_tot ts
    have h2 := nb_le t.es
    unfold tb tot at *
    simp only [List.map_cons, List.sum_cons]; omega
theorem flA_len : ∀ (css : List (List (List Cl))) (ts : List Tl) (i b : Int), css.length = ts.length → (flA (css.zip ts) i b).length = tb ts
  | [], [], _, _, _ => rfl
  | c :: css, t :: ts, i, b, h => by
    have h1 := flA_len css ts (i + 1) (b + t.steps) (by simpa using h)
    show (begs b i t.es ++ flA (css.zip ts) (i + 1) (b + t.steps)).length = tb (t :: ts)
    rw [List.length_append, h1]
    show _ = nb t.es + tb ts
    congr 1
    unfold begs nb
    rw [List.length_map]
  | [], _ :: _, _, _, h => by simp at h
  | _ :: _, [], _, _, h => by simp at h
theorem tells_len {css : List (List (List Cl))} {ts : List Tl} {out : List Mv} (h : Tells true kpP css ts out) : out.length = tb ts ∧ out.length ≤ 4096 := by
  obtain ⟨h1, h2, h3⟩ := h
  obtain ⟨hf, _⟩ := all_fl _ h2
  have := congrArg List.length hf
  rw [List.length_map, flA_len _ _ _ _ h1] at this
  exact ⟨this, h3.alive.1⟩
section
variable {w : World} {q1 q2 q3 : Option Addr} {l1 c1 l2 c2 l3 c3 : Nat} {css : List (List (List Cl))} {ts : List Tl} {ds : List Dv} {i1 i2 i3 i4 i5 i6 i7 i8 i9 i10 i11 i12 i13 i14 i15 i16 : Int}
theorem adds9 (hC : SL w q1 l1 css) (hT : TL w q2 l2 ts) (hD : TD w q2 l2 ds) (ht : tot ts ≤ 1048576) (hl2 : l2 ≤ 1048576) :
    Calls Tryd.prog 9 #[.agg #[.int .i64 i1, .int .i64 i2, .int .i64 i3, .int .i64 i4, .int .i64 i5, .int .i64 i6, .int .i64 i7, .int .i64 i8, .int .i64 i9, .int .i64 i10, .int .i64 i11, .int .i64 i12, .int .i64 i13, .int .i64 i14, .int .i64 i15, .int .i64 i16, .slice q1 l1 c1, .slice q2 l2 c2, .slice q3 l3 c3]] w (Ret fun v w' => v = .bool true ∧ Chg none_ w w') := by
  have et := hT.len
  refine f9.calls _ _ _ _ _ _ _ _ _ _ _ _ _ _ _ _ _ _ _ _ _ _ _ _ _ ?_
  unfold f9.wp
  refine newBox fun w1 B1 k1 s1 => Calls.use (awake12 w1) ?_
  rintro _ w2 ⟨rfl, k2⟩
  have B2 := k2.blk B1 (fun x => x)
  have k02 := k1.trans k2
  refine ⟨true, rfl, bcF rfl ⟨i1, i2, i3, i4, i5, i6, i7, i8, i9, i10, i11, i12, i13, i14, i15, i16, q1, l1, c1, bpart0 B2 (post := [.slice q2 l2 c2, .slice q3 l3 c3]) rfl, q2, l2, c2, q3, l3, c3, bpart B2 (pre := [.int .i64 i1, .int .i64 i2, .int .i64 i3, .int .i64 i4, .int .i64 i5, .int .i64 i6, .int .i64 i7, .int .i64 i8, .int .i64 i9, .int .i64 i10, .int .i64 i11, .int .i64 i12, .int .i64 i13, .int .i64 i14, .int .i64 i15, .int .i64 i16, .slice q1 l1 c1]) (post := []) rfl rfl, Calls.use (of33 (hC.chg k02) (hT.chg k02) (hD.chg k02) ht hl2) ?_⟩⟩
  rintro v w3 ⟨k3, cs, e, rfl, hl, ho⟩
  obtain ⟨a0, a1, a2, a3, a4, a5, a6, a7, a8, a9, a10, a11, a12, a13, a14, rfl⟩ := fifteen hl
  refine ⟨_, _, _, _, _, _, _, _, _, _, _, _, _, _, _, e, rfl, boxed rfl rfl fun w5 B5 k5 s5 => ?_⟩
  have k25 := k3.trans k5
  have k05 := k02.trans k25
  rcases ho with ⟨rfl, out, hT0, hcs⟩ | ⟨rfl, hcs, _⟩
  · obtain ⟨hlen, hl4⟩ := tells_len hT0
    have hF := fin_ok out ds i1 (by omega)
    rw [← hcs] at hF
    obtain ⟨y0, y1, y2, y3, y4, y5, y6, y7, y8, y9, y10, y11, y12, y13, y14, hy, h1, h2, h3, h4⟩ := hF
    simp only [List.cons.injEq, and_true] at hy
    obtain ⟨rfl, rfl, rfl, rfl, rfl, rfl, rfl, rfl, rfl, rfl, rfl, rfl, rfl, rfl, rfl⟩ := hy
    have B5' := k25.blk B2 (fun x => x)
    have htt := tb_tot ts
    refine bcF rfl ⟨q2, l2, c2, (B5'.cell0 17).trans rfl, fun x1 x2 w6 => ∃ i : Nat, x2 = (i : Int) ∧ i ≤ l2 ∧ x1 = ((tb (ts.take i) : Nat) : Int) ∧ Chg none_ w5 w6, fun _ x2 _ => l2 - x2.toNat, ⟨0, rfl, by omega, by simp [tb], Chg.refl _ _⟩, ?_⟩
    rintro _ _ w6 ⟨i, rfl, hi, rfl, k6⟩
    have hti := tb_tot (ts.take i)
    have hti' := tot_take ts i
    refine bc (fun g => ?_) fun g => ?_
    · have hil : i < l2 := by simp at g; omega
      obtain ⟨tl, htl⟩ := get_ex (l := ts) (i := i) (by omega)
      obtain ⟨p1, qe, le, ce, qa, la, ca, b1, j1, j2, j3, j4, j5, j6, j7, b2, j8, j9, j10, j11, j12, qu, lu, cu, ha1, hr1, hes, han, hle⟩ := (hT.chg (k05.trans k6)).get i tl htl
      subst ha1
      have hes' := hes.len
      have htn := tb_next htl
      refine onPtr_mk ⟨by omega, by omega, qe, le, ce, qa, la, ca, tl.steps, b1, j1, j2, j3, j4, j5, j6, j7, b2, j8, j9, j10, j11, j12, qu, lu, cu, hr1, boxed rfl rfl fun w8 B8 k8 s8 => ⟨qe, le, ce, (B8.cell 0).trans rfl, fun x3 x4 w9 => ∃ k : Nat, x4 = (k : Int) ∧ k ≤ le ∧ x3 = ((tb (ts.take i) + nb (tl.es.take k) : Nat) : Int) ∧ Chg none_ w8 w9, fun _ x4 _ => le - x4.toNat, ⟨0, rfl, by omega, by simp [nb], Chg.refl _ _⟩, ?_⟩⟩
      rintro _ _ w9 ⟨k, rfl, hk, rfl, k9⟩
      have hnk := nb_le (tl.es.take k)
      rw [List.length_take] at hnk
      refine bc (fun g1 => ?_) fun g1 => ?_
      · have hkl : k < le := by simp at g1; omega
        obtain ⟨p2, ev, ha2, he, hre⟩ := (hes.chg (k8.trans k9)).ex hkl
        subst ha2
        have hn := nb_next he
        rw [wrapN (n := k) (by omega), wrapN (n := tb (ts.take i) + nb (tl.es.take k)) (by omega)]
        refine onPtr_mk ⟨by omega, by omega, ev.step, ev.task, ev.call, ev.ret, hre, boxed rfl rfl fun w11 B11 k11 s11 => ⟨ev.ret, (B11.cell0 3).trans rfl, bc (fun g2 => ?_) fun g2 => ?_⟩⟩
        · rw [if_neg (by simp at g2; rw [g2]; simp)] at hn
          exact ⟨⟨k + 1, rfl, by omega, by rw [hn]; omega, k9.trans k11⟩, by simp only [Int.toNat_natCast]; omega⟩
        · rw [if_pos (by simpa using g2)] at hn
          exact ⟨⟨k + 1, rfl, by omega, by rw [hn]; omega, k9.trans k11⟩, by simp only [Int.toNat_natCast]; omega⟩
      · have hke : k = le := by simp at g1; omega
        subst hke
        rw [List.take_of_length_le (l := tl.es) (by omega)]
        rw [wrapN (n := i) (by omega)]
        exact ⟨⟨i + 1, rfl, by omega, by rw [htn], k6.trans (k8.trans k9)⟩, by simp only [Int.toNat_natCast]; omega⟩
    · have hie : i = l2 := by simp at g; omega
      subst hie
      rw [List.take_of_length_le (l := ts) (by omega)]
      have B6 := k6.blk B5 (fun x => x)
      have e12 : IntKind.wrap .i64 (a1 + a2) = a1 + a2 := wrapS (by omega) (by omega)
      have s3 : IntKind.wrap .i64 (a0 + a3) = a0 + a3 := wrapS (by omega) (by omega)
      have s4 : IntKind.wrap .i64 (a0 + a3 + a4) = a0 + a3 + a4 := wrapS (by omega) (by omega)
      have s5 : IntKind.wrap .i64 (a0 + a3 + a4 + a5) = a0 + a3 + a4 + a5 := wrapS (by omega) (by omega)
      have s6 : IntKind.wrap .i64 (a0 + a3 + a4 + a5 + a6) = a0 + a3 + a4 + a5 + a6 := wrapS (by omega) (by omega)
      have s7 : IntKind.wrap .i64 (a0 + a3 + a4 + a5 + a6 + a7) = a0 + a3 + a4 + a5 + a6 + a7 := wrapS (by omega) (by omega)
      have s8 : IntKind.wrap .i64 (a0 + a3 + a4 + a5 + a6 + a7 + a8) = a0 + a3 + a4 + a5 + a6 + a7 + a8 := wrapS (by omega) (by omega)
      have s9 : IntKind.wrap .i64 (a0 + a3 + a4 + a5 + a6 + a7 + a8 + a9) = a0 + a3 + a4 + a5 + a6 + a7 + a8 + a9 := wrapS (by omega) (by omega)
      refine ⟨_, (B6.cell 0).trans rfl, _, (B6.cell0 1).trans rfl, _, (B6.cell0 2).trans rfl, bcT (by rw [e12]; simpa using h1) ⟨_, (B6.cell 0).trans rfl, _, (B6.cell0 3).trans rfl, _, (B6.cell0 4).trans rfl, _, (B6.cell0 5).trans rfl, _, (B6.cell0 6).trans rfl, _, (B6.cell0 7).trans rfl, _, (B6.cell0 8).trans rfl, _, (B6.cell0 9).trans rfl, bcT ?_ ⟨_, (B6.cell0 13).trans rfl, _, (B6.cell0 14).trans rfl, ?_, k05.trans k6⟩⟩⟩
      · rw [s3, s4, s5, s6, s7, s8, s9]; simp; omega
      · simpa using h4
  · unfold zeros at hcs
    simp only [List.replicate, List.cons.injEq, and_true] at hcs
    obtain ⟨rfl, rfl, rfl, rfl, rfl, rfl, rfl, rfl, rfl, rfl, rfl, rfl, rfl, rfl, rfl⟩ := hcs
    exact bcT (by simp) ⟨_, _, _, _, _, _, _, _, _, _, _, _, _, _, _, B5.reads0, by simp, k05⟩
end
end Mo
end Go.Proofs.YtglidaifbpjpgaaDoor
