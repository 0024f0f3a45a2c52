import Derived.Test.YtdlbmmodlkmofaaGreatDoorQ2
set_option maxRecDepth 20000
namespace Go.Proofs.YtdlbmmodlkmofaaGreatDoor
open Go Go.Vc Go.RowKit
/-! # a printed plan, parsed (plain) -/
def joinW (ws : List ByteArray) : List UInt8 := Lib.join (ws.map (·.data.toList)) [32]
def Wd (s : List UInt8) : Prop := ∀ b ∈ s, b ≠ 32 ∧ b ≠ 10
theorem idx_hit : ∀ (x r : List UInt8) (c : UInt8), (∀ b ∈ x, b ≠ c) → Lib.indexByte (x ++ c :: r) c = (x.length : Int)
  | [], r, c, _ => by simp [Lib.indexByte]
  | b :: x, r, c, h => by
    have hb := h b (List.mem_cons_self ..)
    have ih := idx_hit x r c fun y hy => h y (List.mem_cons_of_mem _ hy)
    rw [List.cons_append, Lib.indexByte, if_neg (by simpa using hb), ih, if_neg (by simp)]
    simp
theorem idx_miss : ∀ (x : List UInt8) (c : UInt8), (∀ b ∈ x, b ≠ c) → Lib.indexByte x c = -1
  | [], c, _ => rfl
  | b :: x, c, h => by
    have hb := h b (List.mem_cons_self ..)
    have ih := idx_miss x c fun y hy => h y (List.mem_cons_of_mem _ hy)
    rw [Lib.indexByte, if_neg (by simpa using hb), ih]; rfl
theorem ext_tail {s : ByteArray} {x r : List UInt8} {c : UInt8} (h : s.data.toList = x ++ c :: r) : s.extract (x.length + 1) s.size = ⟨r.toArray⟩ := by
  have hz : s.size = (x ++ c :: r).length := by rw [← h, Array.length_toList]; rfl
  apply ByteArray.ext
  rw [ByteArray.data_extract]
  apply Array.toList_inj.1
  rw [Array.toList_extract, h, hz, List.extract_eq_take_drop]
  simp
  exact List.take_of_length_le (by omega)
theorem ext_head {s : ByteArray} {x r : List UInt8} {c : UInt8} (h : s.data.toList = x ++ c :: r) : s.extract 0 x.length = ⟨x.toArray⟩ := by
  apply ByteArray.ext
  rw [ByteArray.data_extract]
  apply Array.toList_inj.1
  rw [Array.toList_extract, h, List.extract_eq_take_drop]
  simp
theorem split_words : ∀ (ws : List ByteArray), ws ≠ [] → (∀ x ∈ ws, Wd x.data.toList) → ∀ s : ByteArray, s.data.toList = joinW ws → Lib.countB s ⟨#[32]⟩ + 1 = ws.length ∧ Lib.splitB ⟨#[32]⟩ 0 (ws.length - 1) s = ws
  | [], h, _, _, _ => absurd rfl h
  | [x], _, h, s, hs => by
    have e : s = x := by
      rw [← ba_back s, ← ba_back x, hs]
      simp [joinW, Lib.join_one]
    subst e
    have hm : Lib.indexB s ⟨#[32]⟩ = -1 := (Lib.index_one _ 32).trans (idx_miss _ _ fun b hb => (h s (List.mem_cons_self ..) b hb).1)
    exact ⟨by rw [Lib.countB_miss _ _ hm]; rfl, rfl⟩
  | x :: y :: r, _, h, s, hs => by
    have e : s.data.toList = x.data.toList ++ 32 :: joinW (y :: r) := by
      rw [hs]; exact join_two _ _ _
    have hh : Lib.indexB s ⟨#[32]⟩ = (x.data.toList.length : Int) := by
      refine (Lib.index_one _ 32).trans ?_
      rw [e]
      exact idx_hit _ _ _ fun b hb => (h x (List.mem_cons_self ..) b hb).1
    obtain ⟨h1, h2⟩ := split_words (y :: r) (by simp) (fun z hz => h z (List.mem_cons_of_mem _ hz)) ⟨(joinW (y :: r)).toArray⟩ (by simp)
    have et : s.extract (x.data.toList.length + (⟨#[32]⟩ : ByteArray).size) s.size = ⟨(joinW (y :: r)).toArray⟩ := ext_tail e
    refine ⟨?_, ?_⟩
    · rw [Lib.countB_hit _ _ _ (by decide) hh, et, List.length_cons]; omega
    · have : (x :: y :: r).length - 1 = ((y :: r).length - 1) + 1 := by simp
      rw [this, Lib.splitB_hit _ _ _ _ _ hh, et, h2]
      congr 1
      exact (ext_head e).trans (ba_back x)
theorem cut_line {l r : List UInt8} (h : ∀ b ∈ l, b ≠ 10) : Lib.cut (l ++ 10 :: r) [10] = (l, r, true) := by
  have hi : Lib.index (l ++ 10 :: r) [10] = (l.length : Int) := (Lib.index_one _ 10).trans (idx_hit _ _ _ h)
  unfold Lib.cut
  rw [hi, if_pos (by omega)]
  simp
theorem wd_dec : ∀ u : Nat, Wd (Lib.decDigits u) := by
  intro u
  induction u using Nat.strongRecOn with
  | _ u ih =>
    have hd : ∀ d : Fin 10, UInt8.ofNat (48 + d.1) ≠ 32 ∧ UInt8.ofNat (48 + d.1) ≠ 10 := by decide +kernel
    by_cases h : u < 10
    · rw [Lib.decDigits, dif_pos h]
      intro b hb
      rw [List.mem_singleton] at hb
      subst hb
      exact hd ⟨u, h⟩
    · rw [Lib.decDigits, dif_neg h]
      intro b hb
      rcases List.mem_append.1 hb with hb | hb
      · exact ih _ (by omega) b hb
      · rw [List.mem_singleton] at hb
        subst hb
        exact hd ⟨u % 10, by omega⟩
theorem wd_nW (n : Int) : Wd (nW n).data.toList := by simpa [nW] using wd_dec n.toNat
theorem wd_of {l : List UInt8} (h : (l.all fun b => b != 32 && b != 10) = true) : Wd l := fun b hb => by
  have := List.all_eq_true.1 h b hb
  simpa using this
theorem wd_join : ∀ (ws : List ByteArray), (∀ x ∈ ws, Wd x.data.toList) → ∀ b ∈ joinW ws, b ≠ 10
  | [], _, b, hb => by simp [joinW, Lib.join_nil] at hb
  | [x], h, b, hb => by
    simp only [joinW, List.map_cons, List.map_nil, Lib.join_one] at hb
    exact (h x (List.mem_cons_self ..) b hb).2
  | x :: y :: r, h, b, hb => by
    have e : joinW (x :: y :: r) = x.data.toList ++ 32 :: joinW (y :: r) := join_two _ _ _
    rw [e, List.mem_append, List.mem_cons] at hb
    rcases hb with hb | rfl | hb
    · exact (h x (List.mem_cons_self ..) b hb).2
    · decide
    · exact wd_join (y :: r) (fun z hz => h z (List.mem_cons_of_mem _ hz)) b hb
theorem dig_val : ∀ d : Fin 10, Lib.digitVal (UInt8.ofNat (48 + d.1)) = some d.1 := by decide +kernel
theorem decFrom_app : ∀ (l r : List UInt8) (acc n : Nat), Lib.decFrom acc l = some n → Lib.decFrom acc (l ++ r) = Lib.decFrom n r
  | [], r, acc, n, h => by simp only [Lib.decFrom, Option.some.injEq] at h; subst h; rfl
  | b :: l, r, acc, n, h => by
    simp only [Lib.decFrom, List.cons_append] at h ⊢
    cases hd : Lib.digitVal b with
    | none => rw [hd] at h; cases h
    | some d => rw [hd] at h; exact decFrom_app l r _ _ h
theorem dec_back (u : Nat) : Lib.decFrom 0 (Lib.decDigits u) = some u := by
  induction u using Nat.strongRecOn with
  | _ u ih =>
    by_cases h : u < 10
    · rw [Lib.decDigits, dif_pos h, Lib.decFrom, dig_val ⟨u, h⟩]; simp [Lib.decFrom]
    · rw [Lib.decDigits, dif_neg h, decFrom_app _ _ _ _ (ih _ (by omega)), Lib.decFrom, dig_val ⟨u % 10, by omega⟩]
      simp only [Lib.decFrom, Option.some.injEq]; omega

theorem dec_first (u : Nat) (h : 1 ≤ u) : (Lib.decDigits u)[0]? ≠ some 48 := by
  induction u using Nat.strongRecOn with
  | ind u ih =>
    by_cases h9 : u < 10
    · rw [Lib.decDigits, dif_pos h9]
      have : ∀ d : Fin 10, 1 ≤ d.1 → UInt8.ofNat (48 + d.1) ≠ 48 := by decide
      simpa using this ⟨u, h9⟩ h
    · have h0 := ih (u / 10) (by omega) (by omega)
      rw [Lib.decDigits, dif_neg h9]
      have hl : 0 < (Lib.decDigits (u / 10)).length := by
        have := Lib.decDigits_length (u / 10)
        by_cases h1 : u / 10 < 10
        · rw [Lib.decDigits, dif_pos h1]; simp
        · rw [Lib.decDigits, dif_neg h1]; simp
      rw [List.getElem?_append_left hl]; exact h0
theorem numF_dec {n : Nat} (h : n ≤ 2147483647) : numF (Lib.decDigits n) = some n := by
  have hl := dec_len (u := n) (by omega)
  have hb := dec_back n
  rw [numF, if_neg ?_, hb]
  rintro (h1 | h1 | ⟨h1, h2⟩)
  · rw [h1] at hb
    by_cases h9 : n < 10
    · rw [Lib.decDigits, dif_pos h9] at h1; simp at h1
    · rw [Lib.decDigits, dif_neg h9] at h1; simp at h1
  · omega
  · by_cases h0 : n = 0
    · subst h0
      rw [Lib.decDigits, dif_pos (by decide)] at h1
      simp at h1
    · exact dec_first n (by omega) h2
end Go.Proofs.YtdlbmmodlkmofaaGreatDoor
