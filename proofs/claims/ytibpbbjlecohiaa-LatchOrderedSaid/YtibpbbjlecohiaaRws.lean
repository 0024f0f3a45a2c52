import Derived.Test.YtibpbbjlecohiaaSn
import Derived.Test.YtibpbbjlecohiaaOps
/-! Slices of one's own slices: each in a block of its own. -/
namespace Go.Vc
open Go.RowKit
section
variable {α : Type} {E : En α} {w w' : World} {base : Nat} {e : TypeId} {q : Option Addr} {l c : Nat} {xs : List α}
theorem SE.blk (h : SE E w base e q l c xs) {g : Nat} (hg : qB q = some g) : ∃ cur, Blk w g e cur := by
  rcases h.ex with ⟨rfl, _⟩ | ⟨g', off, cur, rfl, _, hb, _⟩
  · simp [qB] at hg
  · simp [qB] at hg
    subst hg
    exact ⟨cur, hb⟩
theorem SE.ne (h : SE E w base e q l c xs) {k : Nat} {t : TypeId} {cs : Array Value} (B : Blk w k t cs) (ht : t ≠ e) : ∀ g, qB q = some g → g ≠ k := fun g hg hk => by
  obtain ⟨cur, hb⟩ := h.blk hg
  subst hk
  rw [Blk, B] at hb
  cases hb
  exact ht rfl
theorem SE.ne2 {β : Type} {E' : En β} {base' : Nat} {e' : TypeId} {q' : Option Addr} {l' c' : Nat} {ys : List β} (h : SE E w base e q l c xs) (h' : SE E' w base' e' q' l' c' ys) (ht : e' ≠ e) : ∀ g, qB q = some g → some g ≠ qB q' := fun g hg hk => by
  obtain ⟨cur, hb⟩ := h'.blk hk.symm
  exact h.ne hb ht g hg rfl
theorem set_cases {β : Type} {l : List β} {i j : Nat} {y z : β} (h : (l.set i y)[j]? = some z) : (i = j ∧ z = y) ∨ (i ≠ j ∧ l[j]? = some z) := by
  by_cases hij : i = j
  · subst hij
    rw [List.getElem?_set_self'] at h
    left
    refine ⟨rfl, ?_⟩
    cases hl : l[i]? with
    | none => rw [hl] at h; simp at h
    | some u => rw [hl] at h; simp at h; exact h.symm
  · right
    rw [List.getElem?_set_ne hij] at h
    exact ⟨hij, h⟩
structure RowsE (E : En α) (w : World) (base : Nat) (e : TypeId) (hs : List Hd) (xss : List (List α)) : Prop where
  len : hs.length = xss.length
  se : ∀ (i : Nat) (h : Hd) (xs : List α), hs[i]? = some h → xss[i]? = some xs → SE E w base e h.1 h.2.1 h.2.2 xs
  ap : ∀ (i j : Nat) (h h' : Hd) (g : Nat), hs[i]? = some h → hs[j]? = some h' → qB h.1 = some g → qB h'.1 = some g → i = j
variable {hs : List Hd} {xss : List (List α)}
theorem RowsE.ex (r : RowsE E w base e hs xss) {i : Nat} {xs : List α} (hi : xss[i]? = some xs) : ∃ h : Hd, hs[i]? = some h ∧ SE E w base e h.1 h.2.1 h.2.2 xs := by
  obtain ⟨h, hh⟩ := get_ex (l := hs) (i := i) (by rw [r.len]; exact get_lt hi)
  exact ⟨h, hh, r.se i h xs hh hi⟩
theorem RowsE.at' (r : RowsE E w base e hs xss) {i : Nat} {h : Hd} (hi : hs[i]? = some h) : ∃ xs, xss[i]? = some xs ∧ SE E w base e h.1 h.2.1 h.2.2 xs := by
  obtain ⟨xs, hx⟩ := get_ex (l := xss) (i := i) (by rw [← r.len]; exact get_lt hi)
  exact ⟨xs, hx, r.se i h xs hi hx⟩
theorem RowsE.chg (r : RowsE E w base e hs xss) {S : Nat → Prop} (k : Chg S w w') (hS : ∀ h ∈ hs, ∀ g, qB h.1 = some g → ¬ S g) : RowsE E w' base e hs xss :=
  ⟨r.len, fun i h xs hi hx => (r.se i h xs hi hx).chg k (hS h (List.mem_of_getElem? hi)), r.ap⟩
theorem RowsE.chgN (r : RowsE E w base e hs xss) (k : Chg none_ w w') : RowsE E w' base e hs xss := r.chg k fun _ _ _ _ h => h
/-- a step that turns a block of another type -/
theorem RowsE.chgB (r : RowsE E w base e hs xss) {b : Nat} {t : TypeId} {cs : Array Value} (B : Blk w b t cs) (ht : t ≠ e) (k : Chg (fun g => g = b) w w') : RowsE E w' base e hs xss :=
  r.chg k fun h hm g hg hk => by
    obtain ⟨i, hi⟩ := List.getElem?_of_mem hm
    obtain ⟨xs, _, s⟩ := r.at' hi
    exact s.ne B ht g hg hk
theorem RowsE.chgS (r : RowsE E w base e hs xss) {β : Type} {E' : En β} {base' : Nat} {e' : TypeId} {q' : Option Addr} {l' c' : Nat} {ys : List β} (h' : SE E' w base' e' q' l' c' ys) (ht : e' ≠ e) (k : Chg (fun g => some g = qB q') w w') : RowsE E w' base e hs xss :=
  r.chg k fun h hm g hg hk => by
    obtain ⟨i, hi⟩ := List.getElem?_of_mem hm
    obtain ⟨xs, _, s⟩ := r.at' hi
    exact s.ne2 h' ht g hg hk
/-- one of them made anew -/
theorem RowsE.set (r : RowsE E w base e hs xss) {i : Nat} {h0 h1 : Hd} {ys : List α} (hi : hs[i]? = some h0) (k : Chg (fun g => some g = qB h0.1) w w') (n : SE E w' base e h1.1 h1.2.1 h1.2.2 ys) (hq : qB h1.1 = qB h0.1 ∨ qB h1.1 = some w.heap.size ∨ h1.1 = none) :
    RowsE E w' base e (hs.set i h1) (xss.set i ys) := by
  refine ⟨by simp [r.len], fun j h xs hj hx => ?_, fun j j' h h' g hj hj' hg hg' => ?_⟩
  · rcases set_cases hj with ⟨rfl, rfl⟩ | ⟨hne, hj⟩
    · rcases set_cases hx with ⟨_, rfl⟩ | ⟨hne, _⟩
      · exact n
      · exact absurd rfl hne
    · rcases set_cases hx with ⟨rfl, _⟩ | ⟨_, hx⟩
      · exact absurd rfl hne
      · exact (r.se j h xs hj hx).chg k fun g hg hk => hne (r.ap i j h0 h g hi hj hk.symm hg)
  · have old : ∀ {j j' : Nat} {h h' : Hd}, i ≠ j → hs[j]? = some h → h' = h1 → qB h.1 = some g → qB h'.1 = some g → False := fun {j j' h h'} hne hj he hg hg' => by
      rw [he] at hg'
      rcases hq with hq | hq | hq
      · exact hne (r.ap i j h0 h g hi hj (hq ▸ hg') hg)
      · rw [hq] at hg'
        obtain ⟨xs, _, s⟩ := r.at' hj
        have := (s.lt hg).1
        cases hg'; omega
      · rw [hq] at hg'; simp [qB] at hg'
    rcases set_cases hj with ⟨rfl, he⟩ | ⟨hne, hj⟩ <;> rcases set_cases hj' with ⟨h2, he'⟩ | ⟨hne', hj'⟩
    · exact h2
    · exact (old (j' := 0) hne' hj' he hg' hg).elim
    · exact (old (j' := 0) hne hj he' hg hg').elim
    · exact r.ap j j' h h' g hj hj' hg hg'
end
end Go.Vc
