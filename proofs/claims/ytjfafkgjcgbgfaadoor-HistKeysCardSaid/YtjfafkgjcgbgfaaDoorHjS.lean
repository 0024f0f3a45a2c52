import Derived.Test.YtjfafkgjcgbgfaaDoorHjM
set_option maxRecDepth 20000
namespace Go.Proofs.YtjfafkgjcgbgfaaDoor
open Go Go.Vc Go.RowKit
/-! # the text of a history, in plain words -/
def nW (n : Int) : ByteArray := ⟨(Lib.decDigits n.toNat).toArray⟩
def hexW (b : ByteArray) : ByteArray := if b.data.toList = [] then dashW else ⟨(hexOf b.data.toList).toArray⟩
def toW (m : Mv) : ByteArray := if m.to < 0 then dashW else nW m.to
def wkOf (m : Mv) : List ByteArray := if m.kind ≤ 3 then [hexW m.key] else []
def wvOf (m : Mv) : List ByteArray := if m.kind = 2 then [hexW m.val] else []
def weOf (m : Mv) : List ByteArray := if m.to < 0 then [] else if m.err ≠ 0 then [errW, nW m.err] else if m.kind ≠ 1 then [okW] else if m.hit = true then [hitW, hexW m.val] else [missW]
def wordsOf (m : Mv) : List ByteArray := nW m.life :: nW m.frm :: toW m :: kindW m.kind.toNat :: (wkOf m ++ (wvOf m ++ weOf m))
def joinW (ws : List ByteArray) : List UInt8 := Lib.join (ws.map (·.data.toList)) [32]
def lineT (m : Mv) : List UInt8 := joinW (wordsOf m)
def textT (ms : List Mv) : List UInt8 := ms.flatMap fun m => lineT m ++ [10]
/-- a word has no blank and no end of a line -/
def Wd (s : List UInt8) : Prop := ∀ b ∈ s, b ≠ 32 ∧ b ≠ 10
theorem idx_hit : ∀ (x r : List UInt8) (c : UInt8), (∀ b ∈ x, b ≠ c) → Lib.indexByte (x ++ c :: r) c = (x.length : Int)
  | [], r, c, _ => by simp [Lib.indexByte]
  | b :: x, r, c, h => by
    have hb := h b (List.mem_cons_self ..)
    have ih := idx_hit x r c fun y hy => h y (List.mem_cons_of_mem _ hy)
    rw [List.cons_append, Lib.indexByte, if_neg (by simpa using hb), ih, if_neg (by simp)]
    simp
theorem idx_miss : ∀ (x : List UInt8) (c : UInt8), (∀ b ∈ x, b ≠ c) → Lib.indexByte x c = -1
  | [], c, _ => rfl
  | b :: x, c, h => by
    have hb := h b (List.mem_cons_self ..)
    have ih := idx_miss x c fun y hy => h y (List.mem_cons_of_mem _ hy)
    rw [Lib.indexByte, if_neg (by simpa using hb), ih]; rfl
theorem join_two (x y : List UInt8) (r : List (List UInt8)) : Lib.join (x :: y :: r) [32] = x ++ 32 :: Lib.join (y :: r) [32] := by
  rw [Lib.join_cons, Lib.join_cons]; simp [Lib.joinTail]
theorem ext_tail {s : ByteArray} {x r : List UInt8} {c : UInt8} (h : s.data.toList = x ++ c :: r) : s.extract (x.length + 1) s.size = ⟨r.toArray⟩ := by
  have hz : s.size = (x ++ c :: r).length := by rw [← h, Array.length_toList]; rfl
  apply ByteArray.ext
  rw [ByteArray.data_extract]
  apply Array.toList_inj.1
  rw [Array.toList_extract, h, hz, List.extract_eq_take_drop]
  simp
  exact List.take_of_length_le (by omega)
theorem ext_head {s : ByteArray} {x r : List UInt8} {c : UInt8} (h : s.data.toList = x ++ c :: r) : s.extract 0 x.length = ⟨x.toArray⟩ := by
  apply ByteArray.ext
  rw [ByteArray.data_extract]
  apply Array.toList_inj.1
  rw [Array.toList_extract, h, List.extract_eq_take_drop]
  simp
theorem split_words : ∀ (ws : List ByteArray), ws ≠ [] → (∀ x ∈ ws, Wd x.data.toList) → ∀ s : ByteArray, s.data.toList = joinW ws → Lib.countB s ⟨#[32]⟩ + 1 = ws.length ∧ Lib.splitB ⟨#[32]⟩ 0 (ws.length - 1) s = ws
  | [], h, _, _, _ => absurd rfl h
  | [x], _, h, s, hs => by
    have e : s = x := by
      rw [← ba_back s, ← ba_back x, hs]
      simp [joinW, Lib.join_one]
    subst e
    have hm : Lib.indexB s ⟨#[32]⟩ = -1 := (Lib.index_one _ 32).trans (idx_miss _ _ fun b hb => (h s (List.mem_cons_self ..) b hb).1)
    exact ⟨by rw [Lib.countB_miss _ _ hm]; rfl, rfl⟩
  | x :: y :: r, _, h, s, hs => by
    have e : s.data.toList = x.data.toList ++ 32 :: joinW (y :: r) := by
      rw [hs]; exact join_two _ _ _
    have hh : Lib.indexB s ⟨#[32]⟩ = (x.data.toList.length : Int) := by
      refine (Lib.index_one _ 32).trans ?_
      rw [e]
      exact idx_hit _ _ _ fun b hb => (h x (List.mem_cons_self ..) b hb).1
    obtain ⟨h1, h2⟩ := split_words (y :: r) (by simp) (fun z hz => h z (List.mem_cons_of_mem _ hz)) ⟨(joinW (y :: r)).toArray⟩ (by simp)
    have et : s.extract (x.data.toList.length + (⟨#[32]⟩ : ByteArray).size) s.size = ⟨(joinW (y :: r)).toArray⟩ := ext_tail e
    refine ⟨?_, ?_⟩
    · rw [Lib.countB_hit _ _ _ (by decide) hh, et, List.length_cons]; omega
    · have : (x :: y :: r).length - 1 = ((y :: r).length - 1) + 1 := by simp
      rw [this, Lib.splitB_hit _ _ _ _ _ hh, et, h2]
      congr 1
      exact (ext_head e).trans (ba_back x)
theorem cut_line {l r : List UInt8} (h : ∀ b ∈ l, b ≠ 10) : Lib.cut (l ++ 10 :: r) [10] = (l, r, true) := by
  have hi : Lib.index (l ++ 10 :: r) [10] = (l.length : Int) := (Lib.index_one _ 10).trans (idx_hit _ _ _ h)
  unfold Lib.cut
  rw [hi, if_pos (by omega)]
  simp
/-! # words are words -/
theorem wd_dec : ∀ u : Nat, Wd (Lib.decDigits u) := by
  intro u
  induction u using Nat.strongRecOn with
  | _ u ih =>
    have hd : ∀ d : Fin 10, UInt8.ofNat (48 + d.1) ≠ 32 ∧ UInt8.ofNat (48 + d.1) ≠ 10 := by decide +kernel
    by_cases h : u < 10
    · rw [Lib.decDigits, dif_pos h]
      intro b hb
      rw [List.mem_singleton] at hb
      subst hb
      exact hd ⟨u, h⟩
    · rw [Lib.decDigits, dif_neg h]
      intro b hb
      rcases List.mem_append.1 hb with hb | hb
      · exact ih _ (by omega) b hb
      · rw [List.mem_singleton] at hb
        subst hb
        exact hd ⟨u % 10, by omega⟩
theorem wd_hexOf : ∀ l : List UInt8, Wd (hexOf l)
  | [] => fun b hb => by simp [hexOf] at hb
  | c :: l => by
    have hx' : ∀ n : Fin 16, hx n.1 ≠ 32 ∧ hx n.1 ≠ 10 := by decide +kernel
    have hc := c.toNat_lt
    intro b hb
    simp only [hexOf, List.mem_cons] at hb
    rcases hb with rfl | rfl | hb
    · exact hx' ⟨c.toNat / 16, by omega⟩
    · exact hx' ⟨c.toNat % 16, by omega⟩
    · exact wd_hexOf l b hb
theorem wd_nW (n : Int) : Wd (nW n).data.toList := by simpa [nW] using wd_dec n.toNat
theorem wd_hexW (b : ByteArray) : Wd (hexW b).data.toList := by
  unfold hexW
  split
  · intro b hb; simp at hb; subst hb; decide
  · simpa using wd_hexOf b.data.toList
theorem wd_kind (n : Nat) : Wd (kindW n).data.toList := by
  have : ∀ i : Fin 6, ∀ b ∈ (kindW i.1).data.toList, b ≠ 32 ∧ b ≠ 10 := by decide +kernel
  by_cases h : n < 6
  · exact this ⟨n, h⟩
  · have e : kindW n = kindW 5 := by
      match n, h with
      | n + 6, _ => rfl
      | 0, h => omega
      | 1, h => omega
      | 2, h => omega
      | 3, h => omega
      | 4, h => omega
      | 5, h => omega
    rw [e]; exact this ⟨5, by omega⟩
theorem wd_of {l : List UInt8} (h : (l.all fun b => b != 32 && b != 10) = true) : Wd l := fun b hb => by
  have := List.all_eq_true.1 h b hb
  simpa using this
theorem wd_words (m : Mv) : ∀ x ∈ wordsOf m, Wd x.data.toList := by
  intro x hx
  simp only [wordsOf, List.mem_cons, List.mem_append] at hx
  rcases hx with rfl | rfl | rfl | rfl | hx | hx | hx
  · exact wd_nW _
  · exact wd_nW _
  · unfold toW; split
    · exact wd_of rfl
    · exact wd_nW _
  · exact wd_kind _
  · unfold wkOf at hx; split at hx
    · simp at hx; subst hx; exact wd_hexW _
    · cases hx
  · unfold wvOf at hx; split at hx
    · simp at hx; subst hx; exact wd_hexW _
    · cases hx
  · unfold weOf at hx
    split at hx
    · cases hx
    · split at hx
      · simp at hx; rcases hx with rfl | rfl
        · exact wd_of rfl
        · exact wd_nW _
      · split at hx
        · simp at hx; subst hx; exact wd_of rfl
        · split at hx
          · simp at hx; rcases hx with rfl | rfl
            · exact wd_of rfl
            · exact wd_hexW _
          · simp at hx; subst hx; exact wd_of rfl
theorem wd_join : ∀ (ws : List ByteArray), (∀ x ∈ ws, Wd x.data.toList) → ∀ b ∈ joinW ws, b ≠ 10
  | [], _, b, hb => by simp [joinW, Lib.join_nil] at hb
  | [x], h, b, hb => by
    simp only [joinW, List.map_cons, List.map_nil, Lib.join_one] at hb
    exact (h x (List.mem_cons_self ..) b hb).2
  | x :: y :: r, h, b, hb => by
    have e : joinW (x :: y :: r) = x.data.toList ++ 32 :: joinW (y :: r) := join_two _ _ _
    rw [e, List.mem_append, List.mem_cons] at hb
    rcases hb with hb | rfl | hb
    · exact (h x (List.mem_cons_self ..) b hb).2
    · decide
    · exact wd_join (y :: r) (fun z hz => h z (List.mem_cons_of_mem _ hz)) b hb
/-! # what is printed is read -/
theorem dig_val : ∀ d : Fin 10, Lib.digitVal (UInt8.ofNat (48 + d.1)) = some d.1 := by decide +kernel
theorem decFrom_app : ∀ (l r : List UInt8) (acc n : Nat), Lib.decFrom acc l = some n → Lib.decFrom acc (l ++ r) = Lib.decFrom n r
  | [], r, acc, n, h => by simp only [Lib.decFrom, Option.some.injEq] at h; subst h; rfl
  | b :: l, r, acc, n, h => by
    simp only [Lib.decFrom, List.cons_append] at h ⊢
    cases hd : Lib.digitVal b with
    | none => rw [hd] at h; cases h
    | some d => rw [hd] at h; exact decFrom_app l r _ _ h
theorem dec_back (u : Nat) : Lib.decFrom 0 (Lib.decDigits u) = some u := by
  induction u using Nat.strongRecOn with
  | _ u ih =>
    by_cases h : u < 10
    · rw [Lib.decDigits, dif_pos h, Lib.decFrom, dig_val ⟨u, h⟩]; simp [Lib.decFrom]
    · rw [Lib.decDigits, dif_neg h, decFrom_app _ _ _ _ (ih _ (by omega)), Lib.decFrom, dig_val ⟨u % 10, by omega⟩]
      simp only [Lib.decFrom, Option.some.injEq]; omega
theorem dec_first (u : Nat) : ∃ b r, Lib.decDigits u = b :: r ∧ b ≠ 45 ∧ b ≠ 43 := by
  induction u using Nat.strongRecOn with
  | _ u ih =>
    have hd : ∀ d : Fin 10, UInt8.ofNat (48 + d.1) ≠ 45 ∧ UInt8.ofNat (48 + d.1) ≠ 43 := by decide +kernel
    by_cases h : u < 10
    · rw [Lib.decDigits, dif_pos h]; exact ⟨_, _, rfl, hd ⟨u, h⟩⟩
    · obtain ⟨b, r, h1, h2⟩ := ih (u / 10) (by omega)
      rw [Lib.decDigits, dif_neg h, h1]; exact ⟨b, _, rfl, h2⟩
theorem atoi_dec (u : Nat) : Lib.atoi (Lib.decDigits u) = some (u : Int) := by
  obtain ⟨b, r, h1, h2, h3⟩ := dec_first u
  have h4 := dec_back u
  rw [h1] at h4 ⊢
  rw [Lib.atoi, if_neg (by simpa using h2), if_neg (by simpa using h3)]
  unfold Lib.decNat
  rw [if_neg (by simp), h4]; rfl
theorem dec_len {u : Nat} (h : u < 1000000000000000000) : (Lib.decDigits u).length ≤ 18 := by
  rw [Lib.decDigits_length]
  rcases Nat.lt_or_ge 18 (Lib.nDigits u) with h1 | h1
  · exfalso
    have : ∀ (k u : Nat), k < Lib.nDigits u → 10 ^ k ≤ u ∨ k = 0 := fun k => by
      induction k with
      | zero => exact fun _ _ => .inr rfl
      | succ k ih =>
        intro u hk
        left
        by_cases h : u < 10
        · rw [Lib.nDigits_small h] at hk; omega
        · rw [Lib.nDigits_big h] at hk
          rcases ih (u / 10) (by omega) with h2 | h2
          · rw [Nat.pow_succ]; omega
          · subst h2; simp; omega
    rcases this 18 u h1 with h2 | h2 <;> omega
  · exact h1
end Go.Proofs.YtjfafkgjcgbgfaaDoor
