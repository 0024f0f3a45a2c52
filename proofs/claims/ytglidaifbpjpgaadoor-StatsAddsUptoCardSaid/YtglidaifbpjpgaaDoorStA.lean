import Derived.Test.YtglidaifbpjpgaaDoorW
import Derived.Test.YtglidaifbpjpgaaDoorOps
set_option maxRecDepth 20000
namespace Go.Proofs.YtglidaifbpjpgaaDoor
open Go Go.Vc Go.RowKit
abbrev iv (x : Int) : Value := .int .i64 x
theorem elemInt : ElemOk Tryd.prog 28 3 1 8 := ⟨Tryd.underlying28, .int .i64 0, by kernel_rfl, rfl⟩
theorem sameInts16 {w : World} {q1 q2 : Option Addr} {l1 c1 l2 c2 : Nat} {xs ys : List Int} (h1 : RE En.int w q1 l1 xs) (h2 : RE En.int w q2 l2 ys) (hl : l1 ≤ 9223372036854775807) :
    Calls Tryd.prog 16 #[.slice q1 l1 c1, .slice q2 l2 c2] w (Ret fun v w' => v = .bool (decide (xs = ys)) ∧ Chg none_ w w') := by
  refine f16.calls _ _ _ _ _ _ ?_
  unfold f16.wp
  have e1 := h1.len
  have e2 := h2.len
  refine bc (fun hne => ⟨?_, Chg.refl _ _⟩) (fun heq => ?_)
  · have : xs ≠ ys := fun h => by subst h; simp at hne; omega
    simp [this]
  have heq : l1 = l2 := by simp at heq; omega
  subst heq
  refine ⟨fun x w' => ∃ i : Nat, x = i ∧ i ≤ l1 ∧ Chg none_ w w' ∧ ∀ j : Nat, j < i → xs[j]? = ys[j]?, fun x _ => l1 - x.toNat, ⟨0, rfl, Nat.zero_le _, Chg.refl _ _, fun j hj => absurd hj (Nat.not_lt_zero j)⟩, ?_⟩
  rintro x w1 ⟨i, rfl, hi, c, hj⟩
  refine bc (fun hlt => ?_) (fun hge => ⟨?_, c⟩)
  · have hi' : i < l1 := by simpa using hlt
    obtain ⟨a, u, rfl, hu, hr⟩ := (h1.chg c.drew).ex hi'
    obtain ⟨b, v, rfl, hv, hs⟩ := (h2.chg c.drew).ex hi'
    rw [wrapS (by omega) (by omega)]
    refine onPtr_mk ⟨by omega, by omega, u, reads_one' hr, onPtr_mk ⟨by omega, by omega, v, reads_one' hs, bc (fun hne => ⟨?_, c.drew⟩) (fun heq => ⟨⟨i + 1, by omega, by omega, c.drew, fun j hj' => ?_⟩, meas hi'⟩)⟩⟩
    · have : xs ≠ ys := fun h => by subst h; rw [hu] at hv; cases hv; simp at hne
      simp [this]
    · have huv : u = v := by simpa using heq
      rcases Nat.lt_or_ge j i with h | h
      · exact hj j h
      · have : j = i := by omega
        subst this
        rw [hu, hv, huv]
  · have hle : l1 ≤ i := by simpa using hge
    have : xs = ys := List.ext_getElem? fun j => by
      rcases Nat.lt_or_ge j i with h | h
      · exact hj j h
      · rw [List.getElem?_eq_none (by omega), List.getElem?_eq_none (by omega)]
    simp [this]
theorem equal40 {w : World} {q1 q2 : Option Addr} {l1 c1 l2 c2 : Nat} {xs ys : List Int} (h1 : RE En.int w q1 l1 xs) (h2 : RE En.int w q2 l2 ys) (hl : l1 ≤ 9223372036854775807) :
    Calls Tryd.prog 40 #[.slice q1 l1 c1, .slice q2 l2 c2] w (Ret fun v w' => v = .bool (decide (xs = ys)) ∧ Chg none_ w w') := by
  refine f40.calls _ _ _ _ _ _ ?_
  unfold f40.wp
  have e1 := h1.len
  have e2 := h2.len
  refine bc (fun hne => ⟨?_, Chg.refl _ _⟩) (fun heq => ?_)
  · have : xs ≠ ys := fun h => by subst h; simp at hne; omega
    simp [this]
  have heq : l1 = l2 := by simp at heq; omega
  subst heq
  refine ⟨fun x w' => ∃ i : Nat, x = i ∧ i ≤ l1 ∧ Chg none_ w w' ∧ ∀ j : Nat, j < i → xs[j]? = ys[j]?, fun x _ => l1 - x.toNat, ⟨0, rfl, Nat.zero_le _, Chg.refl _ _, fun j hj => absurd hj (Nat.not_lt_zero j)⟩, ?_⟩
  rintro x w1 ⟨i, rfl, hi, c, hj⟩
  refine bc (fun hlt => ?_) (fun hge => ⟨?_, c⟩)
  · have hi' : i < l1 := by simpa using hlt
    obtain ⟨a, u, rfl, hu, hr⟩ := (h1.chg c.drew).ex hi'
    obtain ⟨b, v, rfl, hv, hs⟩ := (h2.chg c.drew).ex hi'
    rw [wrapS (by omega) (by omega)]
    refine onPtr_mk ⟨by omega, by omega, u, reads_one' hr, onPtr_mk ⟨by omega, by omega, v, reads_one' hs, bc (fun hne => ⟨?_, c.drew⟩) (fun heq => ⟨⟨i + 1, by omega, by omega, c.drew, fun j hj' => ?_⟩, meas hi'⟩)⟩⟩
    · have : xs ≠ ys := fun h => by subst h; rw [hu] at hv; cases hv; simp at hne
      simp [this]
    · have huv : u = v := by simpa using heq
      rcases Nat.lt_or_ge j i with h | h
      · exact hj j h
      · have : j = i := by omega
        subst this
        rw [hu, hv, huv]
  · have hle : l1 ≤ i := by simpa using hge
    have : xs = ys := List.ext_getElem? fun j => by
      rcases Nat.lt_or_ge j i with h | h
      · exact hj j h
      · rw [List.getElem?_eq_none (by omega), List.getElem?_eq_none (by omega)]
    simp [this]
theorem clone37 {w : World} {q : Option Addr} {l c : Nat} {xs : List Int} (h : RE En.int w q l xs) (hl : l ≤ 17592186044416) (hlc : q = none → l = 0) :
    Calls Tryd.prog 37 #[.slice q l c] w (Ret fun v w' => ∃ q' c', v = .slice q' l c' ∧ SE En.int w' w.heap.size 3 q' l c' xs ∧ Chg none_ w w' ∧ (q' = none ↔ q = none)) := by
  refine f37.calls _ _ _ ?_
  unfold f37.wp
  refine ⟨_, w, run_eqnil Tryd.underlying28 q l c, ?_⟩
  refine bc (fun hn => ?_) (fun hn => ?_)
  · have hq : q = none := by simpa using hn
    have h0 := hlc hq
    subst h0 hq
    have hx : xs = [] := List.eq_nil_of_length_eq_zero h.len
    subst hx
    exact ⟨none, 0, rfl, SE.nil _ _ _ _, Chg.refl _ _, by simp⟩
  intro w1 e1
  have B1 := new_blk e1
  have k1 := (Chg.refl none_ w).new' e1
  have s1 : SE En.int w1 w.heap.size 3 (some ⟨w.heap.size, 0, none⟩) 0 0 [] := SE.lit B1 (Nat.le_refl _) (fun n v hv => by simp [En.flat] at hv) rfl (Nat.le_refl _) (Nat.zero_le _) (by simp)
  obtain ⟨q', c', w2, hr, s2, k2, _, _, hnn, _⟩ := s1.append (t := 28) (ty := 28) (m := l) (c2 := c) elemInt (h.chg k1) (by simp only [maxLen]; omega) (by omega) k1.size
  rw [Nat.zero_add] at hr s2
  refine ⟨q', l, c', w2, hr, q', c', rfl, by simpa using s2, Chg.up k1 k2 (fun k hk => by simp [qB] at hk; omega), ?_⟩
  have := hnn (by simp)
  have hq : q ≠ none := by cases q <;> simp at hn ⊢
  simp [this, hq]
end Go.Proofs.YtglidaifbpjpgaaDoor
