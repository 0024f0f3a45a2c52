import Derived.Test.YtibpbbjlecohiaaLbR
set_option maxRecDepth 20000
namespace Go.Proofs.Ytibpbbjlecohiaa
namespace Full
open Go Go.Vc Go.RowKit
/-- these two may stand in one telling of all that is held -/
def Rk (b a : W3) : Prop := ¬ (a.2.2 = b.2.2 ∧ ((a.2.1 = 1 ∧ b.2.1 = 1) ∨ (a.2.1 ≠ 1 ∧ b.2.1 ≠ 1 ∧ (a.2.1 = 5 ∨ b.2.1 = 5))))
theorem mem_hmi {s : S8} {t : Int} {j : Nat} {x : W3} (h : x ∈ hmi s t j) : ∃ m, s.ms[j]? = some m ∧ m.owner = t ∧ x = (t, 1, (j : Int)) := by
  unfold hmi at h
  split at h
  · rename_i m hm
    split at h
    · rename_i ho
      simp at h
      exact ⟨m, hm, ho, h⟩
    · cases h
  · cases h
theorem mem_hli {s : S8} {t : Int} {j : Nat} {x : W3} (h : x ∈ hli s t j) : ∃ l, s.ls[j]? = some l ∧ (idxI l.readers t ≥ 0 ∧ x = (t, 3, (j : Int)) ∨ l.writer = t ∧ x = (t, 5, (j : Int))) := by
  unfold hli at h
  split at h
  · rename_i m hm
    refine ⟨m, hm, ?_⟩
    rcases List.mem_append.1 h with h | h
    · split at h
      · rename_i ho; simp at h; exact .inl ⟨ho, h⟩
      · cases h
    · split at h
      · rename_i ho; simp at h; exact .inr ⟨ho, h⟩
      · cases h
  · cases h
theorem mem_hm {s : S8} {t : Int} {k : Nat} {x : W3} (h : x ∈ hm s t k) : ∃ (j : Nat) (m : Mx), s.ms[j]? = some m ∧ m.owner = t ∧ x = (t, 1, (j : Int)) := by
  simp only [hm, List.mem_flatMap] at h
  obtain ⟨j, _, h⟩ := h
  exact ⟨j, mem_hmi h⟩
theorem mem_hl {s : S8} {t : Int} {k : Nat} {x : W3} (h : x ∈ hl s t k) : ∃ (j : Nat) (l : Lk), s.ls[j]? = some l ∧ (idxI l.readers t ≥ 0 ∧ x = (t, 3, (j : Int)) ∨ l.writer = t ∧ x = (t, 5, (j : Int))) := by
  simp only [hl, List.mem_flatMap] at h
  obtain ⟨j, _, h⟩ := h
  exact ⟨j, mem_hli h⟩
theorem nat_of {j k : Nat} (h : (j : Int) = (k : Int)) : j = k := by omega
/-- a writer of a lock holds it alone -/
theorem wr_alone {s : S8} (h : WF s) {j : Nat} {l : Lk} (hl : s.ls[j]? = some l) {t u : Int} (ht : 0 ≤ t) (hw : l.writer = t) (hr : idxI l.readers u ≥ 0) : False := by
  have : l.readers = [] := h l (List.mem_of_getElem? hl) (by omega)
  have h2 := (idxI_lt l.readers u).1
  rw [this] at h2 hr
  simp at h2; omega
theorem hl_pair {s : S8} (h : WF s) {t u : Int} (ht : 0 ≤ t) (hu : 0 ≤ u) {x y : W3} {k : Nat} (hx : x ∈ hl s t k) (hy : y ∈ hl s u k) (hne : t ≠ u ∨ x.2.2 ≠ y.2.2 ∨ x.2.1 ≠ y.2.1) : Rk x y := by
  obtain ⟨j, l, hj, hx⟩ := mem_hl hx
  obtain ⟨j', l', hj', hy⟩ := mem_hl hy
  rintro ⟨he, hk⟩
  rcases hx with ⟨h1, rfl⟩ | ⟨h1, rfl⟩ <;> rcases hy with ⟨h2, rfl⟩ | ⟨h2, rfl⟩ <;> simp only at he hk hne
  · omega
  · have e := nat_of he
    subst e
    rw [hj] at hj'; cases hj'
    exact wr_alone h hj hu h2 h1
  · have e := nat_of he
    subst e
    rw [hj] at hj'; cases hj'
    exact wr_alone h hj ht h1 h2
  · have e := nat_of he
    subst e
    rw [hj] at hj'; cases hj'
    omega
theorem holds_pair {s : S8} (h : WF s) {t u : Int} (ht : 0 ≤ t) (hu : 0 ≤ u) (hne : t ≠ u) {x y : W3} (hx : x ∈ holdsF s t) (hy : y ∈ holdsF s u) : Rk x y := by
  rw [holdsF, if_neg (by omega)] at hx hy
  rcases List.mem_append.1 hx with hx | hx <;> rcases List.mem_append.1 hy with hy | hy
  · obtain ⟨j, m, hj, ho, rfl⟩ := mem_hm hx
    obtain ⟨j', m', hj', ho', rfl⟩ := mem_hm hy
    rintro ⟨he, _⟩
    have e := nat_of he
    subst e
    rw [hj] at hj'; cases hj'
    omega
  · obtain ⟨j, m, hj, ho, rfl⟩ := mem_hm hx
    obtain ⟨j', l, _, hy⟩ := mem_hl hy
    rintro ⟨_, hk⟩
    rcases hy with ⟨_, rfl⟩ | ⟨_, rfl⟩ <;> simp at hk
  · obtain ⟨j, m, hj, ho, rfl⟩ := mem_hm hy
    obtain ⟨j', l, _, hx⟩ := mem_hl hx
    rintro ⟨_, hk⟩
    rcases hx with ⟨_, rfl⟩ | ⟨_, rfl⟩ <;> simp at hk
  · exact hl_pair h ht hu hx hy (.inl hne)
theorem holds_self {s : S8} (h : WF s) {t : Int} (ht : 0 ≤ t) : (holdsF s t).Pairwise Rk := by
  rw [holdsF, if_neg (by omega), List.pairwise_append]
  refine ⟨?_, ?_, fun x hx y hy => ?_⟩
  · rw [hm, List.pairwise_flatMap]
    refine ⟨fun j _ => ?_, List.pairwise_lt_range.imp fun {j k} hjk x hx y hy => ?_⟩
    · unfold hmi
      split
      · split <;> simp
      · simp
    · obtain ⟨_, _, _, rfl⟩ := mem_hmi hx
      obtain ⟨_, _, _, rfl⟩ := mem_hmi hy
      rintro ⟨he, _⟩
      have := nat_of he
      omega
  · rw [hl, List.pairwise_flatMap]
    refine ⟨fun j _ => ?_, List.pairwise_lt_range.imp fun {j k} hjk x hx y hy => ?_⟩
    · unfold hli
      split
      · rename_i l hl
        rw [List.pairwise_append]
        refine ⟨by split <;> simp, by split <;> simp, fun x hx y hy => ?_⟩
        split at hx
        · split at hy
          · rename_i h1 h2
            exact (wr_alone h hl ht h2 h1).elim
          · cases hy
        · cases hx
      · simp
    · obtain ⟨_, _, hx⟩ := mem_hli hx
      obtain ⟨_, _, hy⟩ := mem_hli hy
      rintro ⟨he, _⟩
      rcases hx with ⟨_, rfl⟩ | ⟨_, rfl⟩ <;> rcases hy with ⟨_, rfl⟩ | ⟨_, rfl⟩ <;> (have := nat_of he; omega)
  · obtain ⟨j, m, hj, ho, rfl⟩ := mem_hm hx
    obtain ⟨j', l, _, hy⟩ := mem_hl hy
    rintro ⟨_, hk⟩
    rcases hy with ⟨_, rfl⟩ | ⟨_, rfl⟩ <;> simp at hk
/-- all that is held, of the tasks below k -/
def allH (s : S8) (k : Nat) : List W3 := (List.range k).flatMap fun (t : Nat) => holdsF s (t : Int)
theorem allH_succ (s : S8) (k : Nat) : allH s (k + 1) = allH s k ++ holdsF s (k : Int) := by simp [allH, List.range_succ]
theorem allH_pair {s : S8} (h : WF s) (k : Nat) : (allH s k).Pairwise Rk := by
  rw [allH, List.pairwise_flatMap]
  exact ⟨fun t _ => holds_self h (by omega), List.pairwise_lt_range.imp fun {t u} htu x hx y hy => holds_pair h (by omega) (by omega) (by omega) hx hy⟩
end Full
end Go.Proofs.Ytibpbbjlecohiaa
