import Derived.Test.YtjfafkgjcgbgfaaDoorHjY
import Derived.Sort.KeysCollected
import Derived.Maps.OwnSet
set_option maxRecDepth 20000
namespace Go.Proofs.YtjfafkgjcgbgfaaDoor
open Go Go.Vc Go.RowKit
/-! # the keys of a history, rising, each once -/
def Kd (m : Mv) : Prop := m.kind = 1 ∨ m.kind = 2 ∨ m.kind = 3
instance (m : Mv) : Decidable (Kd m) := by unfold Kd; infer_instance
def insK (x : List UInt8) : List (List UInt8) → List (List UInt8)
  | [] => [x]
  | y :: r => if y < x then y :: insK x r else if y = x then y :: r else x :: y :: r
def refK (ms : List Mv) : List (List UInt8) := ms.foldl (fun acc m => if Kd m then insK m.key.data.toList acc else acc) []
theorem refK_next {ms : List Mv} {i : Nat} {m : Mv} (h : ms[i]? = some m) : refK (ms.take (i + 1)) = if Kd m then insK m.key.data.toList (refK (ms.take i)) else refK (ms.take i) := by
  unfold refK
  rw [List.take_add_one, h, List.foldl_append]
  rfl
theorem insK_mem {x y : List UInt8} : ∀ l : List (List UInt8), y ∈ insK x l ↔ y = x ∨ y ∈ l
  | [] => by simp [insK]
  | z :: r => by
    have ih := insK_mem (x := x) (y := y) r
    unfold insK
    split
    · simp only [List.mem_cons, ih]
      constructor
      · rintro (h | h | h)
        · exact .inr (.inl h)
        · exact .inl h
        · exact .inr (.inr h)
      · rintro (h | h | h)
        · exact .inr (.inl h)
        · exact .inl h
        · exact .inr (.inr h)
    · split
      · rename_i h; subst h
        simp only [List.mem_cons]
        constructor
        · exact .inr
        · rintro (h | h)
          · exact .inl h
          · exact h
      · simp only [List.mem_cons]
theorem lt_asymm' {a b : List UInt8} (h : a < b) : ¬ b < a := List.lt_asymm h
theorem lt_of {a b : List UInt8} (h1 : ¬ a < b) (h2 : a ≠ b) : b < a := by
  rcases Decidable.em (b < a) with h | h
  · exact h
  · exact absurd (List.le_antisymm h h1) h2
theorem insK_sorted {x : List UInt8} : ∀ l : List (List UInt8), l.Pairwise (· < ·) → (insK x l).Pairwise (· < ·)
  | [], _ => by simp [insK]
  | z :: r, h => by
    rw [List.pairwise_cons] at h
    have ih := insK_sorted (x := x) r h.2
    unfold insK
    split
    · rename_i h1
      rw [List.pairwise_cons]
      refine ⟨fun y hy => ?_, ih⟩
      rcases (insK_mem r).1 hy with rfl | hy
      · exact h1
      · exact h.1 y hy
    · rename_i h1
      split
      · exact List.pairwise_cons.2 h
      · rename_i h2
        have h3 : x < z := lt_of h1 h2
        rw [List.pairwise_cons]
        refine ⟨fun y hy => ?_, List.pairwise_cons.2 h⟩
        rcases List.mem_cons.1 hy with rfl | hy
        · exact h3
        · exact List.lt_trans h3 (h.1 y hy)
theorem refK_sorted (ms : List Mv) : ∀ n, n ≤ ms.length → (refK (ms.take n)).Pairwise (· < ·)
  | 0, _ => by simp [refK]
  | n + 1, h => by
    obtain ⟨m, hm⟩ := get_ex (l := ms) (i := n) (by omega)
    have ih := refK_sorted ms n (by omega)
    rw [refK_next hm]
    split
    · exact insK_sorted _ ih
    · exact ih
theorem insK_len {x : List UInt8} : ∀ l : List (List UInt8), (insK x l).length ≤ l.length + 1
  | [] => by simp [insK]
  | z :: r => by
    have ih := insK_len (x := x) r
    unfold insK
    split
    · simp only [List.length_cons]; omega
    · split <;> simp
theorem refK_len (ms : List Mv) : ∀ n, n ≤ ms.length → (refK (ms.take n)).length ≤ n
  | 0, _ => by simp [refK]
  | n + 1, h => by
    obtain ⟨m, hm⟩ := get_ex (l := ms) (i := n) (by omega)
    have ih := refK_len ms n (by omega)
    rw [refK_next hm]
    split
    · have := insK_len (x := m.key.data.toList) (refK (ms.take n)); omega
    · omega
/-- where it is put -/
theorem insK_at {x : List UInt8} : ∀ (l : List (List UInt8)) (n : Nat), n ≤ l.length → (∀ j y, j < n → l[j]? = some y → y < x) → (∀ y, l[n]? = some y → ¬ y < x) →
    insK x l = if l[n]? = some x then l else l.take n ++ x :: l.drop n
  | [], 0, _, _, _ => by simp [insK]
  | [], n + 1, h, _, _ => by simp at h
  | z :: r, 0, _, _, h2 => by
    have h := h2 z rfl
    unfold insK
    rw [if_neg h]
    by_cases e : z = x
    · rw [if_pos e, if_pos (by simp [e])]
    · rw [if_neg e, if_neg (by simpa using e)]; rfl
  | z :: r, n + 1, hn, h1, h2 => by
    have hz := h1 0 z (by omega) rfl
    have ih := insK_at (x := x) r n (by simpa using hn) (fun j y hj hy => h1 (j + 1) y (by omega) (by simpa using hy)) (fun y hy => h2 y (by simpa using hy))
    unfold insK
    rw [if_pos hz, ih]
    by_cases e : r[n]? = some x
    · rw [if_pos e, if_pos (by simpa using e)]
    · rw [if_neg e, if_neg (by simpa using e)]; rfl
theorem keys_same {H : Type} {P : Program} {k : TypeId} {R : Value → Option (DataW H × List MemPlace)} {w : World} {b n : Nat} {D : DataW H} (hown : w.ownsMap P k R b n D) (hk : P.underlying k = some .string) {K : List (List UInt8)} (hs : K.Pairwise (· < ·))
    (hm : ∀ x, x ∈ K ↔ Maps.has D (.string x) = true) {ss : List (List UInt8)} (hp : ss.Perm (strKeys D)) : ss.mergeSort (fun x y => decide (x ≤ y)) = K := by
  have KK := Maps.string_keyed hk
  obtain ⟨es, hD, hpw, _⟩ := hown.entries KK
  obtain ⟨es', hD', hko⟩ := hown.keysOf
  obtain rfl : es = es' := by rw [hD] at hD'; simpa using hD'
  subst hD
  have hnd : K.Nodup := hs.imp fun {a b} h e => by subst e; exact absurd h (List.lt_irrefl a)
  have h1 : K.Perm (strKeys (.map es)) := perm_strKeys hpw (fun p hp => by obtain ⟨v, hv⟩ := hko p hp; obtain ⟨x, _, hx, _⟩ := Maps.keyOf_str hk hv; exact ⟨x, hx⟩) hnd hm
  have h2 : ss.mergeSort leB = K.mergeSort leB := mergeSort_of_perm (hp.trans h1.symm)
  have h3 : K.mergeSort leB = K := List.mergeSort_of_pairwise (hs.imp fun {a b} h => by simpa [leB] using lt_asymm' h)
  exact h2.trans h3
/-! # the places of a key's moves -/
def ofF (ms : List Mv) (k : List UInt8) (n : Nat) : List Nat := (List.range n).filter fun i => match ms[i]? with
  | some m => decide (Kd m) && decide (m.key.data.toList = k)
  | none => false
theorem ofF_next {ms : List Mv} {k : List UInt8} {n : Nat} {m : Mv} (h : ms[n]? = some m) : ofF ms k (n + 1) = if Kd m ∧ m.key.data.toList = k then ofF ms k n ++ [n] else ofF ms k n := by
  unfold ofF
  rw [List.range_succ, List.filter_append]
  by_cases e : Kd m ∧ m.key.data.toList = k
  · rw [if_pos e]; simp [h, e.1, e.2]
  · rw [if_neg e]
    have : ¬ (Kd m ∧ m.key.data.toList = k) := e
    simp [h]
    intro h1 h2; exact e ⟨h1, h2⟩
theorem ofF_len (ms : List Mv) (k : List UInt8) (n : Nat) : (ofF ms k n).length ≤ n := by
  unfold ofF
  refine Nat.le_trans (List.length_filter_le _ _) ?_
  simp
end Go.Proofs.YtjfafkgjcgbgfaaDoor
