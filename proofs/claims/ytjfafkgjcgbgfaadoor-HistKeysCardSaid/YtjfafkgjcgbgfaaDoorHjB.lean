import Derived.Test.YtjfafkgjcgbgfaaDoorW
import Derived.Test.YtjfafkgjcgbgfaaDoorHjA
set_option maxRecDepth 20000
namespace Go.Proofs.YtjfafkgjcgbgfaaDoor
open Go Go.Vc Go.RowKit
abbrev mvV (m : Mv) : Value := .agg #[.int .i64 m.kind, .string m.key, .string m.val, .int .i64 m.err, .bool m.hit, .int .i64 m.life, .int .i64 m.frm, .int .i64 m.to]
abbrev mvC (m : Mv) : Array Value := #[.int .i64 m.kind, .string m.key, .string m.val, .int .i64 m.err, .bool m.hit, .int .i64 m.life, .int .i64 m.frm, .int .i64 m.to]
theorem ofKey38 (z : Int) {w : World} : Calls Tryd.prog 38 #[.int .i64 z] w (Ret fun v w' => ∃ b : Bool, v = .bool b ∧ (b = true ↔ z = 1 ∨ z = 2 ∨ z = 3) ∧ w' = w) := by
  refine f38.calls _ ?_
  unfold f38.wp
  refine bc (fun h1 => ⟨_, rfl, ?_, rfl⟩) fun h1 => bc (fun h2 => ⟨_, rfl, ?_, rfl⟩) fun h2 => ⟨_, rfl, ?_, rfl⟩
  · simp at h1; simp [h1]
  · simp at h2; simp [h2]
  · simp at h1 h2; simp; omega
theorem neS {a b : ByteArray} : (!(a.toList == b.toList)) = true ↔ ¬ a.toList = b.toList := by simp
theorem alone27 (m : Mv) {w : World} : Calls Tryd.prog 27 #[mvV m] w (Ret fun v w' => ∃ b : Bool, v = .bool b ∧ (b = true ↔ Alone m) ∧ Chg none_ w w') := by
  refine f27.calls _ _ _ _ _ _ _ _ ?_
  unfold f27.wp
  refine newBox fun w1 B k1 _ => ?_
  have fin : ∀ b : Bool, (b = true ↔ Alone m) → (fun (v : Value) (w' : World) => ∃ b : Bool, v = .bool b ∧ (b = true ↔ Alone m) ∧ Chg none_ w w') (.bool b) w1 := fun b hb => ⟨b, rfl, hb, k1⟩
  have bad : ¬ Alone m → (fun (v : Value) (w' : World) => ∃ b : Bool, v = .bool b ∧ (b = true ↔ Alone m) ∧ Chg none_ w w') (.bool false) w1 := fun hb => fin _ (by simp [hb])
  refine ⟨_, (B.cell0 7).trans rfl, _, (B.cell0 3).trans rfl, _, (B.cell0 5).trans rfl, _, (B.cell0 6).trans rfl, _, (B.cell0 7).trans rfl, bc (fun h => ?_) fun h => ?_⟩
  · refine bad fun a => ?_
    have := a.b1; have := a.b2; have := a.b3; have := a.b4
    simp only [decide_eq_true_eq] at h
    split at h <;> split at h <;> (try split at h) <;> omega
  have hb : m.err < 1000000000000000000 ∧ m.life < 1000000000000000000 ∧ m.frm < 1000000000000000000 ∧ m.to < 1000000000000000000 := by
    simp only [decide_eq_false_iff_not] at h
    refine ⟨?_, ?_, ?_, ?_⟩ <;> (split at h <;> split at h <;> (try split at h) <;> omega)
  clear h
  refine ⟨fun x w' => w' = w1 ∧ (x = true ↔ m.kind < 1 ∨ m.kind > 5 ∨ m.life < 0 ∨ m.frm < 0 ∨ (m.to ≠ -1 ∧ m.to < m.frm) ∨ m.err < 0), ?_, fun x w' => w' = w1 ∧ (x = true ↔ m.kind < 1 ∨ m.kind > 5), ?_, _, (B.cell 0).trans rfl, bc (fun h => ⟨rfl, ?_⟩) fun h => ⟨_, (B.cell 0).trans rfl, rfl, ?_⟩⟩
  · rintro x w' ⟨rfl, hx⟩
    refine bc (fun h => ?_) fun h => ?_
    · refine bad fun a => ?_
      have := a.k1; have := a.k2; have := a.l0; have := a.f0; have := a.to; have := a.er
      rw [hx] at h; omega
    have hA : ¬ (m.kind < 1 ∨ m.kind > 5 ∨ m.life < 0 ∨ m.frm < 0 ∨ (m.to ≠ -1 ∧ m.to < m.frm) ∨ m.err < 0) := by rw [← hx, h]; simp
    clear hx h
    refine ⟨fun x w2 => w2 = w' ∧ (x = true ↔ (m.to < 0 ∧ (m.err ≠ 0 ∨ m.hit = true)) ∨ (m.hit = true ∧ (m.kind ≠ 1 ∨ m.err ≠ 0))), ?_, fun x w2 => w2 = w' ∧ (x = true ↔ (m.to < 0 ∧ (m.err ≠ 0 ∨ m.hit = true))), ?_, bc (fun h => ⟨_, (B.cell0 3).trans rfl, bc (fun h1 => ⟨rfl, ?_⟩) fun h1 => ⟨_, (B.cell0 4).trans rfl, rfl, ?_⟩⟩) fun h => ⟨rfl, ?_⟩⟩
    · rintro x w2 ⟨rfl, hx⟩
      refine bc (fun h => ?_) fun h => ?_
      · refine bad fun a => ?_
        have h1 := a.bk; have h2 := a.ht
        rw [hx] at h
        rcases h with ⟨h3, h4 | h4⟩ | ⟨h3, h4⟩
        · omega
        · rcases h1 with h1 | h1
          · omega
          · rw [h1.2] at h4; cases h4
        · have := h2 h3; omega
      have hB : ¬ ((m.to < 0 ∧ (m.err ≠ 0 ∨ m.hit = true)) ∨ (m.hit = true ∧ (m.kind ≠ 1 ∨ m.err ≠ 0))) := by rw [← hx, h]; simp
      clear hx h
      have mk : (m.val.toList = e0.toList ∨ m.kind = 2 ∨ m.hit = true) → (m.kind ≤ 3 ∨ m.key.toList = e0.toList) → Alone m := fun hv hk => by
        refine ⟨hb.1, hb.2.1, hb.2.2.1, hb.2.2.2, by omega, by omega, by omega, by omega, by omega, by omega, ?_, fun hh => ?_, hv, hk⟩
        · by_cases h : m.to < 0
          · refine .inr ⟨?_, ?_⟩
            · by_cases he : m.err = 0
              · exact he
              · exact absurd (.inl ⟨h, .inl he⟩) hB
            · cases hh : m.hit
              · rfl
              · exact absurd (.inl ⟨h, .inr hh⟩) hB
          · exact .inl (by omega)
        · constructor
          · by_cases he : m.kind = 1
            · exact he
            · exact absurd (.inr ⟨hh, .inl he⟩) hB
          · by_cases he : m.err = 0
            · exact he
            · exact absurd (.inr ⟨hh, .inr he⟩) hB
      refine ⟨fun x w3 => w3 = w2 ∧ (x = true ↔ ¬ m.val.toList = e0.toList ∧ m.kind ≠ 2 ∧ m.hit = false), ?_, _, (B.cell0 2).trans rfl, bc (fun h => ⟨_, (B.cell 0).trans rfl, bc (fun h1 => ⟨_, (B.cell0 4).trans rfl, rfl, ?_⟩) fun h1 => ⟨rfl, ?_⟩⟩) fun h => ⟨rfl, ?_⟩⟩
      · rintro x w3 ⟨rfl, hx⟩
        refine bc (fun h => bcT h ?_) fun h => ?_
        · refine bad fun a => ?_
          have h1 := a.vl
          rw [hx] at h
          rcases h1 with h1 | h1 | h1
          · exact h.1 h1
          · exact h.2.1 h1
          · rw [h.2.2] at h1; cases h1
        have hC : (m.val.toList = e0.toList ∨ m.kind = 2 ∨ m.hit = true) := by
          by_cases h1 : m.val.toList = e0.toList
          · exact .inl h1
          · by_cases h2 : m.kind = 2
            · exact .inr (.inl h2)
            · cases h3 : m.hit
              · rw [hx.2 ⟨h1, h2, h3⟩] at h; cases h
              · exact .inr (.inr rfl)
        refine ⟨_, (B.cell 0).trans rfl, Calls.use (ofKey38 m.kind) ?_⟩
        rintro _ _ ⟨b, rfl, hk, rfl⟩
        refine ⟨_, rfl, bc (fun h4 => ⟨_, (B.cell0 1).trans rfl, bc (fun h5 => bad fun a => ?_) fun h5 => fin _ (iff_of_true rfl (mk hC (.inr ?_)))⟩) fun h4 => fin _ (iff_of_true rfl (mk hC (.inl ?_)))⟩
        · have := a.ky
          simp at h4 h5
          rw [h4] at hk
          simp at hk
          rcases this with h6 | h6
          · omega
          · exact h5 (by simpa using h6)
        · simpa using h5
        · simp at h4; have := hk.1 h4; omega
      · simp at h h1; simp [h, h1]
      · simp at h h1; simp [h1]
      · simp at h; simp [h]
    · rintro x w2 ⟨rfl, hx⟩
      refine bc (fun h => ⟨rfl, ?_⟩) fun h => ⟨_, (B.cell0 4).trans rfl, bc (fun h1 => ⟨_, (B.cell 0).trans rfl, bc (fun h2 => ⟨rfl, ?_⟩) fun h2 => ⟨_, (B.cell0 3).trans rfl, rfl, ?_⟩⟩) fun h1 => ⟨rfl, ?_⟩⟩
      · rw [hx] at h; exact iff_of_true (hx.2 h) (.inl h)
      · simp at h2; exact iff_of_true rfl (.inr ⟨h1, .inl h2⟩)
      · have h3 : ¬ _ := fun g => by rw [hx.2 g] at h; cases h
        simp at h2
        simp [h2, h1]
        intro g g1
        exact absurd ⟨g, .inr h1⟩ h3
      · have h3 : ¬ _ := fun g => by rw [hx.2 g] at h; cases h
        constructor
        · intro g; cases g
        · rintro (g | g)
          · exact absurd g h3
          · rw [h1] at g; cases g.1
    · simp at h h1; simp [h, h1]
    · simp at h h1; simp [h, h1]
    · simp at h; simp; intro; omega
  · rintro x w' ⟨rfl, hx⟩
    refine bc (fun h => ⟨rfl, ?_⟩) fun h => ⟨_, (B.cell0 5).trans rfl, bc (fun h1 => ⟨rfl, ?_⟩) fun h1 => ⟨_, (B.cell0 6).trans rfl, bc (fun h2 => ⟨rfl, ?_⟩) fun h2 => ⟨_, (B.cell0 7).trans rfl, bc (fun h3 => ⟨_, (B.cell0 7).trans rfl, _, (B.cell0 6).trans rfl, bc (fun h4 => ⟨rfl, ?_⟩) fun h4 => ⟨_, (B.cell0 3).trans rfl, rfl, ?_⟩⟩) fun h3 => ⟨_, (B.cell0 3).trans rfl, rfl, ?_⟩⟩⟩⟩
    · exact iff_of_true h (by have := hx.1 h; omega)
    all_goals (have hN : ¬ (m.kind < 1 ∨ m.kind > 5) := fun g => by rw [hx.2 g] at h; cases h)
    all_goals clear hx
    all_goals simp at *
    all_goals omega
  · simp at h; simp; omega
  · simp at h; simp; omega
end Go.Proofs.YtjfafkgjcgbgfaaDoor
