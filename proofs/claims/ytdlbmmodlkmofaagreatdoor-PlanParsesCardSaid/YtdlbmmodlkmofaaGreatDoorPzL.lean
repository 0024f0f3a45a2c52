import Derived.Test.YtdlbmmodlkmofaaGreatDoorPzG
set_option maxRecDepth 20000
namespace Go.Proofs.YtdlbmmodlkmofaaGreatDoor
open Go Go.Vc Go.RowKit
/-! # the reference's Check -/
theorem fOrd_lt (a b : T3) : decide (fOrd a b < 0) = (decide (a.1 < b.1) || (a.1 == b.1 && decide (a.2.1 < b.2.1))) := by
  rw [Bool.eq_iff_iff]
  simp only [decide_eq_true_eq, Bool.or_eq_true, Bool.and_eq_true, beq_iff_eq, fOrd, firstNZ, List.find?_cons, List.find?_nil]
  have c : ∀ x y : Int, (x < y ∧ cmpI x y = -1) ∨ (x = y ∧ cmpI x y = 0) ∨ (x > y ∧ cmpI x y = 1) := fun x y => by
    unfold cmpI
    rcases Int.lt_trichotomy x y with h | h | h
    · exact .inl ⟨h, if_pos h⟩
    · subst h; exact .inr (.inl ⟨rfl, by simp⟩)
    · exact .inr (.inr ⟨h, by rw [if_neg (by omega), if_pos h]⟩)
  rcases c a.1 b.1 with ⟨h, e⟩ | ⟨h, e⟩ | ⟨h, e⟩ <;> rcases c a.2.1 b.2.1 with ⟨h', e'⟩ | ⟨h', e'⟩ | ⟨h', e'⟩ <;> simp [e, e'] <;> omega
theorem cmpI_lt (x y : Int) : cmpI x y < 0 ↔ x < y := by
  unfold cmpI
  rcases Int.lt_trichotomy x y with h | h | h
  · rw [if_pos h]; simp; exact h
  · rw [h]; simp
  · rw [if_neg (by omega), if_pos h]; omega
theorem tOrd_lt (a b : T3) : decide (tOrd a b < 0) = decide (a.1 < b.1) := decide_eq_decide.2 (cmpI_lt a.1 b.1)
/-- so far all is right: each, and each ahead of the next -/
def sofar {α : Type} (p : α → Bool) (R : α → α → Bool) (l : List α) (i : Nat) : Prop :=
  (∀ (j : Nat) (f : α), j < i → l[j]? = some f → p f = true) ∧ ∀ (j : Nat) (a b : α), j + 1 < i → l[j]? = some a → l[j + 1]? = some b → R a b = true
theorem sofar0 {α : Type} {p : α → Bool} {R : α → α → Bool} {l : List α} : sofar p R l 0 := ⟨fun j f h => by omega, fun j a b h => by omega⟩
theorem sofar_next {α : Type} {p : α → Bool} {R : α → α → Bool} {l : List α} {i : Nat} {f : α} (h : sofar p R l i) (hf : l[i]? = some f) (hp : p f = true) (hR : ∀ a, 0 < i → l[i - 1]? = some a → R a f = true) : sofar p R l (i + 1) := by
  refine ⟨fun j g hj hg => ?_, fun j a b hj ha hb => ?_⟩
  · rcases Nat.lt_or_ge j i with h1 | h1
    · exact h.1 j g h1 hg
    · have : j = i := by omega
      subst this
      rw [hf] at hg; cases hg; exact hp
  · rcases Nat.lt_or_ge (j + 1) i with h1 | h1
    · exact h.2 j a b h1 ha hb
    · have : j + 1 = i := by omega
      subst this
      rw [hf] at hb; cases hb
      exact hR a (by omega) (by simpa using ha)
theorem sofar_all {α : Type} {p : α → Bool} {R : α → α → Bool} {l : List α} {i : Nat} (h : sofar p R l i) (hi : l.length ≤ i) : (l.all p && adj R l) = true := by
  rw [Bool.and_eq_true]
  refine ⟨List.all_eq_true.2 fun f hf => ?_, adj_true fun j a b ha hb => h.2 j a b (by have := get_lt hb; omega) ha hb⟩
  obtain ⟨j, hj⟩ := List.getElem?_of_mem hf
  exact h.1 j f (by have := get_lt hj; omega) hj
theorem all_bad {α : Type} {p : α → Bool} {R : α → α → Bool} {l : List α} {i : Nat} {f : α} (hf : l[i]? = some f) (h : p f = false) : (l.all p && adj R l) = false := by
  rw [List.all_eq_false.2 ⟨f, List.mem_of_getElem? hf, by simp [h]⟩, Bool.false_and]
theorem adj_bad {α : Type} {p : α → Bool} {R : α → α → Bool} {l : List α} {i : Nat} {a f : α} (hi : 0 < i) (ha : l[i - 1]? = some a) (hf : l[i]? = some f) (h : R a f = false) : (l.all p && adj R l) = false := by
  rw [adj_false (i := i - 1) ha (by rw [show i - 1 + 1 = i by omega]; exact hf) h, Bool.and_false]
theorem faults47 {w : World} {q : Option Addr} {l c : Nat} {fs : List T3} (h : RE En.t3 w q l fs) (hl : l ≤ 9223372036854775807) :
    Calls Tryz.prog 48 #[.slice q l c] w (Ret fun v w' => v = .bool (fsR fs) ∧ Chg none_ w w') := by
  refine f48.calls _ _ _ ?_
  unfold f48.wp
  have hlen := h.len
  refine bc (fun h => ⟨?_, Chg.refl _ _⟩) (fun h64 => ?_)
  · have h := of_decide_eq_true h
    have : decide (fs.length ≤ 64) = false := by simp; omega
    rw [fsR, this, Bool.false_and, Bool.false_and]
  have h64 : l ≤ 64 := by have := of_decide_eq_false h64; omega
  have hpre : fsR fs = (fs.all fR && adj (fun a b => decide (fOrd a b < 0)) fs) := by
    have : decide (fs.length ≤ 64) = true := by simp; omega
    rw [fsR, this, Bool.true_and]
  rw [hpre]
  refine ⟨fun x w' => ∃ i : Nat, x = i ∧ i ≤ l ∧ Chg none_ w w' ∧ sofar fR (fun a b => decide (fOrd a b < 0)) fs i, fun x _ => l - x.toNat, ⟨0, rfl, Nat.zero_le _, Chg.refl _ _, sofar0⟩, ?_⟩
  rintro x w1 ⟨i, rfl, hi, k1, hin⟩
  refine bc (fun hlt => ?_) (fun hge => ⟨?_, k1⟩)
  · have hi' : i < l := by simpa using hlt
    obtain ⟨a, f, rfl, hf, hr⟩ := (h.chg k1).ex hi'
    rw [wrapS (x := (i : Int) + 1) (by omega) (by omega)]
    refine onPtr_mk ⟨by omega, by omega, _, _, _, hr, boxed rfl rfl fun w3 B3 k3 _ => ?_⟩
    have k03 := k1.trans k3
    have bad : fR f = false → Value.bool false = .bool (fs.all fR && adj (fun a b => decide (fOrd a b < 0)) fs) ∧ Chg none_ w w3 := fun hb => ⟨by rw [all_bad hf hb], k03⟩
    refine ⟨_, (B3.cell 0).trans rfl, bc (fun h => bad ?_) (fun h1 => ⟨_, (B3.cell 0).trans rfl, bc (fun h => bad ?_) (fun h2 => ⟨_, (B3.cell0 1).trans rfl, bc (fun h => bad ?_) (fun h3 => ⟨_, (B3.cell0 1).trans rfl, bc (fun h => bad ?_) (fun h4 => ⟨_, (B3.cell0 2).trans rfl, bc (fun h => bad ?_) (fun h5 => ⟨_, (B3.cell0 2).trans rfl, bc (fun h => bad ?_) (fun h6 => ?_)⟩)⟩)⟩)⟩)⟩)⟩
    any_goals (have h := of_decide_eq_true h; rw [← Bool.not_eq_true]; simp only [fR, Bool.and_eq_true, decide_eq_true_eq, Bool.or_eq_true, beq_iff_eq]; omega)
    have hp : fR f = true := by
      have h1 := of_decide_eq_false h1
      have h2 := of_decide_eq_false h2
      have h3 := of_decide_eq_false h3
      have h4 := of_decide_eq_false h4
      have h5 := of_decide_eq_false h5
      have h6 := of_decide_eq_false h6
      simp only [fR, Bool.and_eq_true, decide_eq_true_eq, Bool.or_eq_true, beq_iff_eq]; omega
    have B3' := B3.drew
    have k03' := k03.drew
    generalize w3.drew = w3' at *
    have next : (∀ g, 0 < i → fs[i - 1]? = some g → decide (fOrd g f < 0) = true) → ∀ {w' : World}, Chg none_ w w' → (∃ i' : Nat, ((i : Int) + 1) = i' ∧ i' ≤ l ∧ Chg none_ w w' ∧ sofar fR (fun a b => decide (fOrd a b < 0)) fs i') ∧ l - ((i : Int) + 1).toNat < l - ((i : Int)).toNat := fun hR w' k => ⟨⟨i + 1, by omega, hi', k, sofar_next hin hf hp hR⟩, meas hi'⟩
    refine bc (fun hpos => ?_) (fun hz => next (fun g hg => by have := of_decide_eq_false hz; omega) k03')
    have hpos : 0 < i := by have := of_decide_eq_true hpos; omega
    have hr' := h.chg k03'
    obtain ⟨b, g, hb, hg, hrg⟩ := hr'.ex (i := i - 1) (by omega)
    cases hb
    have c0 := reads_at hrg (i := 0) rfl
    have c1 := reads_at hrg (i := 1) rfl
    rw [add_zero'] at c0
    have et : ((i : Int) - 1).toNat = i - 1 := by omega
    rw [wrapS (x := (i : Int) - 1) (by omega) (by omega), et]
    have bad2 : decide (fOrd g f < 0) = false → Value.bool false = .bool (fs.all fR && adj (fun a b => decide (fOrd a b < 0)) fs) ∧ Chg none_ w w3' := fun hb => ⟨by rw [adj_bad hpos hg hf hb], k03'⟩
    have good : decide (fOrd g f < 0) = true → (∃ i' : Nat, ((i : Int) + 1) = i' ∧ i' ≤ l ∧ Chg none_ w w3' ∧ sofar fR (fun a b => decide (fOrd a b < 0)) fs i') ∧ l - ((i : Int) + 1).toNat < l - ((i : Int)).toNat := fun hb => next (fun g' _ hg' => by rw [hg] at hg'; cases hg'; exact hb) k03'
    rw [fOrd_lt] at bad2 good
    refine onPtr_mk ⟨by omega, by omega, _, c0, _, (B3'.cell 0).trans rfl, bc (fun h => bad2 ?_) (fun h1' => onPtr_mk ⟨by omega, by omega, _, c0, _, (B3'.cell 0).trans rfl, bc (fun h2' => onPtr_mk ⟨by omega, by omega, _, c1, _, (B3'.cell0 1).trans rfl, bc (fun h => bad2 ?_) (fun h3' => good ?_)⟩) (fun h2' => good ?_)⟩)⟩
    · have h := of_decide_eq_true h
      simp; omega
    · have h := of_decide_eq_true h
      have h2' : g.1 = f.1 := by simpa using h2'
      simp; omega
    · have h := of_decide_eq_false h3'
      have h2' : g.1 = f.1 := by simpa using h2'
      simp; omega
    · have h := of_decide_eq_false h1'
      have h2' : g.1 ≠ f.1 := by simpa using h2'
      simp; omega
  · have hge : ¬ i < l := by simpa using hge
    rw [sofar_all hin (by omega)]
theorem fates82 {w : World} {q : Option Addr} {l c : Nat} {fs : List T3} (g : Gm) (h : RE En.t3 w q l fs) (hl : l ≤ 9223372036854775807) :
    Calls Tryz.prog 70 #[.agg (gv g).toArray, .slice q l c] w (Ret fun v w' => v = .bool (fatesR g.n g.page fs) ∧ Chg none_ w w') := by
  refine f70.calls _ _ _ _ _ _ _ ?_
  unfold f70.wp
  have hlen := h.len
  refine newBox fun w0 B0 k0 _ => ?_
  refine bc (fun h => ⟨?_, k0⟩) (fun h64 => ?_)
  · have h := of_decide_eq_true h
    have : decide (fs.length ≤ 64) = false := by simp; omega
    rw [fatesR, this, Bool.false_and, Bool.false_and]
  have h64 : l ≤ 64 := by have := of_decide_eq_false h64; omega
  have hpre : fatesR g.n g.page fs = (fs.all (tR g.n g.page) && adj (fun a b => decide (tOrd a b < 0)) fs) := by
    have : decide (fs.length ≤ 64) = true := by simp; omega
    rw [fatesR, this, Bool.true_and]
  rw [hpre]
  refine ⟨fun x w' => ∃ i : Nat, x = i ∧ i ≤ l ∧ Chg none_ w0 w' ∧ sofar (tR g.n g.page) (fun a b => decide (tOrd a b < 0)) fs i, fun x _ => l - x.toNat, ⟨0, rfl, Nat.zero_le _, Chg.refl _ _, sofar0⟩, ?_⟩
  rintro x w1 ⟨i, rfl, hi, k1, hin⟩
  refine bc (fun hlt => ?_) (fun hge => ⟨?_, k0.trans k1⟩)
  · have hi' : i < l := by simpa using hlt
    obtain ⟨a, f, rfl, hf, hr⟩ := (h.chg (k0.trans k1)).ex hi'
    rw [wrapS (x := (i : Int) + 1) (by omega) (by omega)]
    refine onPtr_mk ⟨by omega, by omega, _, _, _, hr, boxed rfl rfl fun w3 B3 k3 _ => ?_⟩
    have k13 := (k1.trans k3).drew
    have B3' := B3.drew
    generalize w3.drew = w3' at *
    have G3 := k13.blk B0 (fun x => x)
    have bad : tR g.n g.page f = false → Value.bool false = .bool (fs.all (tR g.n g.page) && adj (fun a b => decide (tOrd a b < 0)) fs) ∧ Chg none_ w w3' := fun hb => ⟨by rw [all_bad hf hb], k0.trans k13⟩
    have next : tR g.n g.page f = true → (∀ u, 0 < i → fs[i - 1]? = some u → decide (tOrd u f < 0) = true) → (∃ i' : Nat, ((i : Int) + 1) = i' ∧ i' ≤ l ∧ Chg none_ w0 w3' ∧ sofar (tR g.n g.page) (fun a b => decide (tOrd a b < 0)) fs i') ∧ l - ((i : Int) + 1).toNat < l - ((i : Int)).toNat := fun hp hR => ⟨⟨i + 1, by omega, hi', k13, sofar_next hin hf hp hR⟩, meas hi'⟩
    let Hd : Prop := 0 ≤ f.1 ∧ f.1 < g.n ∧ 1 ≤ f.2.1 ∧ f.2.1 ≤ 3
    have tRe : tR g.n g.page f = true ↔ (0 ≤ f.1 ∧ f.1 < g.n) ∧ (f.2.1 = 3 ∧ 1 ≤ f.2.2 ∧ f.2.2 < g.page ∨ f.2.1 ≠ 3 ∧ f.2.2 = 0 ∧ (f.2.1 = 1 ∨ f.2.1 = 2)) := by
      unfold tR
      by_cases h3 : f.2.1 = 3
      · simp [h3]
      · simp [h3]
    have bad' : ¬ ((0 ≤ f.1 ∧ f.1 < g.n) ∧ (f.2.1 = 3 ∧ 1 ≤ f.2.2 ∧ f.2.2 < g.page ∨ f.2.1 ≠ 3 ∧ f.2.2 = 0 ∧ (f.2.1 = 1 ∨ f.2.1 = 2))) → Value.bool false = .bool (fs.all (tR g.n g.page) && adj (fun a b => decide (tOrd a b < 0)) fs) ∧ Chg none_ w w3' := fun hb => bad (by
      rw [← Bool.not_eq_true]; exact fun hh => hb (tRe.1 hh))
    refine ⟨fun w' => w3' = w' ∧ Hd ∧ (∀ u, 0 < i → fs[i - 1]? = some u → decide (tOrd u f < 0) = true), ?_, ?_⟩
    · rintro _ ⟨rfl, ⟨a1, a2, a3, a4⟩, hR⟩
      refine ⟨_, (B3'.cell0 1).trans rfl, bc (fun h3 => ⟨_, (B3'.cell0 2).trans rfl, bc (fun h => bad' ?_) (fun h4 => ⟨_, (B3'.cell0 2).trans rfl, _, (G3.cell 0).trans rfl, bc (fun h => bad' ?_) (fun h5 => ⟨_, (B3'.cell0 1).trans rfl, bcF (by have := eq_of_beq h3; simp; exact this) (next (tRe.2 ?_) hR)⟩)⟩)⟩) (fun h3 => ⟨_, (B3'.cell0 1).trans rfl, bcT (by simpa using h3) ⟨_, (B3'.cell0 2).trans rfl, bc (fun h => bad' ?_) (fun h6 => next (tRe.2 ?_) hR)⟩⟩)⟩
      · have := of_decide_eq_true h; have := eq_of_beq h3; omega
      · have := of_decide_eq_true h; have := eq_of_beq h3; omega
      · have := of_decide_eq_false h4; have := of_decide_eq_false h5; have := eq_of_beq h3; omega
      · have h := bne_iff_ne.1 h; have := ne_of_beq_false h3; omega
      · have h := bne_eq_false_iff_eq.1 h6; have := ne_of_beq_false h3; unfold Hd at *; omega
    · refine ⟨_, (B3'.cell 0).trans rfl, bc (fun h => bad' ?_) (fun h1 => ⟨_, (B3'.cell 0).trans rfl, _, (G3.cell0 1).trans rfl, _, (G3.cell0 2).trans rfl, bc (fun h => bad' ?_) (fun h2 => ⟨_, (B3'.cell0 1).trans rfl, bc (fun h => bad' ?_) (fun h3 => ⟨_, (B3'.cell0 1).trans rfl, bc (fun h => bad' ?_) (fun h4 => ?_)⟩)⟩)⟩)⟩
      · have := of_decide_eq_true h; omega
      · have h : f.1 ≥ g.n := of_decide_eq_true h
        omega
      · have := of_decide_eq_true h; omega
      · have := of_decide_eq_true h; omega
      have hd : Hd := by
        have h1 := of_decide_eq_false h1
        have h2 : ¬ f.1 ≥ g.n := of_decide_eq_false h2
        have h3 := of_decide_eq_false h3
        have h4 := of_decide_eq_false h4
        exact ⟨by omega, by omega, by omega, by omega⟩
      refine bc (fun hpos => ?_) (fun hz => ⟨rfl, hd, fun u hu => by have := of_decide_eq_false hz; omega⟩)
      have hpos : 0 < i := by have := of_decide_eq_true hpos; omega
      obtain ⟨b, u, hb, hu, hru⟩ := (h.chg (k0.trans k13)).ex (i := i - 1) (by omega)
      cases hb
      have c0 := reads_at hru (i := 0) rfl
      rw [add_zero'] at c0
      have et : ((i : Int) - 1).toNat = i - 1 := by omega
      rw [wrapS (x := (i : Int) - 1) (by omega) (by omega), et]
      refine onPtr_mk ⟨by omega, by omega, _, c0, _, (B3'.cell 0).trans rfl, bc (fun h => ⟨?_, k0.trans k13⟩) (fun h => ⟨rfl, hd, fun u' _ hu' => ?_⟩)⟩
      · have h := of_decide_eq_true h
        rw [adj_bad hpos hu hf (by rw [tOrd_lt]; simp; omega)]
      · have h := of_decide_eq_false h
        rw [hu] at hu'; cases hu'
        rw [tOrd_lt]; simp; omega
  · have hge : ¬ i < l := by simpa using hge
    rw [sofar_all hin (by omega)]
end Go.Proofs.YtdlbmmodlkmofaaGreatDoor
