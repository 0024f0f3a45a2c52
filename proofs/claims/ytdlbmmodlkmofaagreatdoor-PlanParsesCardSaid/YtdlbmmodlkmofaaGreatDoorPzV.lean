import Derived.Test.YtdlbmmodlkmofaaGreatDoorPzU
set_option maxRecDepth 20000
namespace Go.Proofs.YtdlbmmodlkmofaaGreatDoor
open Go Go.Vc Go.RowKit
/-! # the reference's numbers, read -/
theorem number57 (s : ByteArray) (w : World) : Calls Tryz.prog 57 #[.string s] w (Ret fun v w' => v = numV (numF s.data.toList) ∧ Chg none_ w w') := by
  refine f57.calls _ ?_
  unfold f57.wp
  have hz := s_size s
  have e0 : ∀ {l : List UInt8}, l.length = 0 → l = [] := fun h => List.eq_nil_of_length_eq_zero h
  refine ⟨fun w' => w = w' ∧ ¬ bad0 s.data.toList, ?_, ?_⟩
  rotate_left
  · have no : bad0 s.data.toList → (Value.tuple #[.int .i64 0, .bool false] = numV (numF s.data.toList) ∧ Chg none_ w w) := fun h => ⟨by rw [numF, if_pos h]; rfl, Chg.refl _ _⟩
    refine bc (fun h => no (.inl (e0 (by have : ((s.size : Nat) : Int) = 0 := eq_of_beq h; omega)))) fun h => bc (fun h2 => no (.inr (.inl ?_))) fun h2 => bc (fun h3 => ?_) fun h3 => ⟨rfl, ?_⟩
    · have := of_decide_eq_true h2; omega
    · have h3 : 1 < s.size := by have := of_decide_eq_true h3; omega
      obtain ⟨u, hu⟩ := get_ex (l := s.data.toList) (i := 0) (by omega)
      refine ⟨u, by decide, (s_get s 0).trans hu, bc (fun h4 => no (.inr (.inr ⟨by omega, ?_⟩))) fun h4 => ⟨rfl, ?_⟩⟩
      · rw [hu]
        have h4 : ((u.toNat : Nat) : Int) = 48 := by simpa using h4
        have : u.toNat = 48 := by omega
        rw [show u = 48 from UInt8.toNat_inj.1 (by rw [this]; rfl)]
      · rintro (h5 | h5 | h5)
        · have : s.data.toList.length = 0 := by rw [h5]; rfl
          omega
        · have := of_decide_eq_false h2; omega
        · rw [hu] at h5
          have h6 : u = 48 := Option.some.inj h5.2
          rw [h6] at h4; simp at h4
    · rintro (h5 | h5 | h5)
      · have : s.data.toList.length = 0 := by rw [h5]; rfl
        have h7 : ¬ ((s.size : Nat) : Int) = 0 := ne_of_beq_false h
        omega
      · have := of_decide_eq_false h2; omega
      · have := of_decide_eq_false h3; omega
  rintro _ ⟨rfl, hb⟩
  have h18 : s.size ≤ 18 := by rw [hz]; exact Nat.le_of_not_lt fun h => hb (.inr (.inl h))
  have eN : numF s.data.toList = Lib.decFrom 0 s.data.toList := by rw [numF, if_neg hb]
  rw [eN]
  refine ⟨fun x1 x2 w' => ∃ i v : Nat, x2 = (i : Int) ∧ x1 = (v : Int) ∧ i ≤ s.size ∧ v < 10 ^ i ∧ Lib.decFrom 0 s.data.toList = Lib.decFrom v (s.data.toList.drop i) ∧ Chg none_ w w', fun _ x _ => s.size - x.toNat, ⟨0, 0, rfl, rfl, Nat.zero_le _, by decide, rfl, Chg.refl _ _⟩, ?_⟩
  rintro _ _ w2 ⟨i, v, rfl, rfl, hi, hv, hd, k2⟩
  refine bc (fun hlt => ?_) fun hge => ?_
  rotate_left
  · have hil : i = s.size := by have := of_decide_eq_false hge; omega
    rw [List.drop_eq_nil_of_le (by omega)] at hd
    rw [hd]
    exact ⟨rfl, k2⟩
  have hi' : i < s.size := by simpa using hlt
  have hp : 10 ^ i ≤ 10 ^ 17 := Nat.pow_le_pow_right (by decide) (by omega)
  have hp' : (10 : Nat) ^ 17 = 100000000000000000 := by decide
  obtain ⟨u, hu⟩ := get_ex (l := s.data.toList) (i := i) (by omega)
  have hdr : s.data.toList.drop i = u :: s.data.toList.drop (i + 1) := by
    have hlt := get_lt hu
    rw [List.drop_eq_getElem_cons hlt]
    rw [List.getElem?_eq_getElem hlt] at hu
    cases hu; rfl
  rw [hdr, Lib.decFrom, Lib.digitVal] at hd
  have bad : ¬ (48 ≤ u.toNat ∧ u.toNat ≤ 57) → (Value.tuple #[.int .i64 0, .bool false] = numV (Lib.decFrom 0 s.data.toList) ∧ Chg none_ w w2) := fun h => ⟨by rw [hd, if_neg h]; rfl, k2⟩
  refine ⟨u, by omega, (s_get s i).trans hu, bc (fun h => bad fun hD => ?_) fun h => ⟨u, by omega, (s_get s i).trans hu, bc (fun h' => bad fun hD => ?_) fun h' => ⟨u, by omega, (s_get s i).trans hu, ?_⟩⟩⟩
  · have := of_decide_eq_true h; omega
  · have := of_decide_eq_true h'; omega
  have h1 := of_decide_eq_false h
  have h2 := of_decide_eq_false h'
  rw [if_pos ⟨by omega, by omega⟩] at hd
  have eu : IntKind.wrap .u8 (((u.toNat : Nat) : Int) - 48) = ((u.toNat - 48 : Nat) : Int) := by
    simp [IntKind.wrap, IntKind.bits, IntKind.signed]; omega
  rw [wrapS (x := (i : Int) + 1) (by omega) (by omega), eu, wrapS (x := (v : Int) * 10) (by omega) (by omega), wrapS (x := ((u.toNat - 48 : Nat) : Int)) (by omega) (by omega), wrapS (by omega) (by omega)]
  refine ⟨⟨i + 1, v * 10 + (u.toNat - 48), by omega, by omega, hi', ?_, hd, k2⟩, meas hi'⟩
  rw [Nat.pow_succ]; omega
end Go.Proofs.YtdlbmmodlkmofaaGreatDoor
