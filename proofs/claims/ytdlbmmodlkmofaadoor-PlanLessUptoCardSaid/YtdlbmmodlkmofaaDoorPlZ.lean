import Derived.Test.YtdlbmmodlkmofaaDoorPl9
import Derived.Test.YtdlbmmodlkmofaaDoorPlS
set_option maxRecDepth 20000
namespace Go.Proofs.YtdlbmmodlkmofaaDoor
open Go Go.Vc Go.RowKit
/-! # one thing less of a plan that may be -/
section
variable {α : Type}
theorem er_sub (l : List α) (i : Nat) : (er l i).Sublist l := by
  have h : (l.take i ++ l.drop (i + 1)).Sublist (l.take i ++ l.drop i) := (List.Sublist.refl _).append (List.drop_sublist_drop_left l (Nat.le_succ i))
  rw [List.take_append_drop] at h
  exact h
theorem adj_pw {R : α → α → Bool} (tr : ∀ a b c, R a b = true → R b c = true → R a c = true) : ∀ {l : List α}, adj R l = true → l.Pairwise fun a b => R a b = true
  | [], _ => List.Pairwise.nil
  | a :: l, h => by
    have hl : adj R l = true := adj_true fun i x y hx hy => adj_at h (i := i + 1) (by simpa using hx) (by simpa using hy)
    have ih := adj_pw tr hl
    refine List.pairwise_cons.2 ⟨fun b hb => ?_, ih⟩
    cases l with
    | nil => simp at hb
    | cons c r =>
      have hac : R a c = true := adj_at h (i := 0) rfl rfl
      rcases List.mem_cons.1 hb with rfl | hb
      · exact hac
      · exact tr _ _ _ hac ((List.pairwise_cons.1 ih).1 b hb)
theorem pw_adj {R : α → α → Bool} {l : List α} (h : l.Pairwise fun a b => R a b = true) : adj R l = true := adj_true fun i a b ha hb => by
  have hi := get_lt ha
  have hj := get_lt hb
  have := List.pairwise_iff_getElem.1 h i (i + 1) hi hj (by omega)
  rw [List.getElem?_eq_getElem hi] at ha
  rw [List.getElem?_eq_getElem hj] at hb
  cases ha; cases hb
  exact this
theorem adj_er {R : α → α → Bool} (tr : ∀ a b c, R a b = true → R b c = true → R a c = true) {l : List α} (h : adj R l = true) (i : Nat) : adj R (er l i) = true := pw_adj ((adj_pw tr h).sublist (er_sub l i))
theorem all_er {p : α → Bool} {l : List α} (h : l.all p = true) (i : Nat) : (er l i).all p = true := List.all_eq_true.2 fun x hx => List.all_eq_true.1 h x ((er_sub l i).subset hx)
theorem len_er (l : List α) (i : Nat) : (er l i).length ≤ l.length := (er_sub l i).length_le
theorem sum_sub {xs ys : List Nat} (h : xs.Sublist ys) : xs.sum ≤ ys.sum := by
  induction h with
  | slnil => exact Nat.le_refl _
  | cons a _ ih => simp only [List.sum_cons]; omega
  | cons_cons a _ ih => simp only [List.sum_cons]; omega
theorem sum_set {f : α → Nat} : ∀ {l : List α} {i : Nat} {c c' : α}, l[i]? = some c → ((l.set i c').map f).sum + f c = (l.map f).sum + f c'
  | [], _, _, _, h => by simp at h
  | x :: l, 0, c, c', h => by
    simp at h; subst h
    simp only [List.set_cons_zero, List.map_cons, List.sum_cons]; omega
  | x :: l, i + 1, c, c', h => by
    have := sum_set (f := f) (c' := c') (show l[i]? = some c by simpa using h)
    simp only [List.set_cons_succ, List.map_cons, List.sum_cons]; omega
end
theorem fLt_tr (a b c : T3) (h : fLt a b = true) (k : fLt b c = true) : fLt a c = true := by
  rw [fLt_iff] at *; omega
theorem tLt_tr (a b c : T3) (h : tLt a b = true) (k : tLt b c = true) : tLt a c = true := by
  rw [tLt_iff] at *; omega
theorem step_tr (a b c : Cr) (h : decide (a.step ≤ b.step) = true) (k : decide (b.step ≤ c.step) = true) : decide (a.step ≤ c.step) = true := by
  simp only [decide_eq_true_eq] at *; omega
theorem fsR_iff (fs : List T3) : fsR fs = true ↔ fs.length ≤ 64 ∧ fs.all fR = true ∧ adj fLt fs = true := by
  unfold fsR
  rw [show (fun a b => decide (fOrd a b < 0)) = fLt from rfl]
  simp only [Bool.and_eq_true, decide_eq_true_eq, and_assoc]
theorem fatesR_iff (n page : Int) (fs : List T3) : fatesR n page fs = true ↔ fs.length ≤ 64 ∧ fs.all (tR n page) = true ∧ adj tLt fs = true := by
  unfold fatesR
  rw [show (fun a b => decide (tOrd a b < 0)) = tLt from rfl]
  simp only [Bool.and_eq_true, decide_eq_true_eq, and_assoc]
theorem csR_iff (g : Gm) (cs : List Cr) : csR g cs = true ↔ cs.length ≤ 16 ∧ cs.all (cR g) = true ∧ adj (fun a b : Cr => decide (a.step ≤ b.step)) cs = true := by
  unfold csR
  simp only [Bool.and_eq_true, decide_eq_true_eq, and_assoc]
theorem chk_iff (g : Gm) (p : Pn) : chk g p.faults p.crashes = 0 ↔ gC g = 0 ∧ fsR p.faults = true ∧ csR g p.crashes = true := by
  unfold chk
  by_cases h1 : gC g = 0
  · cases h2 : fsR p.faults <;> cases h3 : csR g p.crashes <;> simp [h1]
  · simp [h1]
theorem fsR_er {fs : List T3} (h : fsR fs = true) (i : Nat) : fsR (er fs i) = true := by
  obtain ⟨h1, h2, h3⟩ := (fsR_iff fs).1 h
  exact (fsR_iff _).2 ⟨Nat.le_trans (len_er fs i) h1, all_er h2 i, adj_er fLt_tr h3 i⟩
theorem fatesR_er {n page : Int} {fs : List T3} (h : fatesR n page fs = true) (i : Nat) : fatesR n page (er fs i) = true := by
  obtain ⟨h1, h2, h3⟩ := (fatesR_iff n page fs).1 h
  exact (fatesR_iff _ _ _).2 ⟨Nat.le_trans (len_er fs i) h1, all_er h2 i, adj_er tLt_tr h3 i⟩
theorem csR_er {g : Gm} {cs : List Cr} (h : csR g cs = true) (i : Nat) : csR g (er cs i) = true := by
  obtain ⟨h1, h2, h3⟩ := (csR_iff g cs).1 h
  exact (csR_iff _ _).2 ⟨Nat.le_trans (len_er cs i) h1, all_er h2 i, adj_er step_tr h3 i⟩
theorem csR_set {g : Gm} {cs : List Cr} {i : Nat} {c c' : Cr} (h : csR g cs = true) (hc : cs[i]? = some c) (hs : c'.step = c.step) (hr : cR g c' = true) : csR g (cs.set i c') = true := by
  obtain ⟨h1, h2, h3⟩ := (csR_iff g cs).1 h
  refine (csR_iff _ _).2 ⟨by rw [List.length_set]; exact h1, List.all_eq_true.2 fun x hx => ?_, adj_true fun j a b ha hb => ?_⟩
  · rcases List.mem_or_eq_of_mem_set hx with hx | hx
    · exact List.all_eq_true.1 h2 x hx
    · rw [hx]; exact hr
  · have st : ∀ {j : Nat} {a : Cr}, (cs.set i c')[j]? = some a → ∃ a0, cs[j]? = some a0 ∧ a.step = a0.step := fun {j a} ha => by
      by_cases e : i = j
      · subst e
        rw [List.getElem?_set_self (get_lt hc)] at ha
        cases ha
        exact ⟨c, hc, hs⟩
      · rw [List.getElem?_set_ne e] at ha
        exact ⟨a, ha, rfl⟩
    obtain ⟨a0, ha0, ea⟩ := st ha
    obtain ⟨b0, hb0, eb⟩ := st hb
    have := adj_at h3 ha0 hb0
    rw [ea, eb]; exact this
theorem cR_er {g : Gm} {c : Cr} (h : cR g c = true) (k : Nat) : cR g (setF c (er c.fates k)) = true := by
  simp only [cR, Bool.and_eq_true] at h ⊢
  exact ⟨h.1, fatesR_er h.2 k⟩
theorem normF_id {fs : List T3} (h : fsR fs = true) : normF fs = fs := norm_str fW (adj_pw fLt_tr ((fsR_iff fs).1 h).2.2)
theorem normC_id {g : Gm} {cs : List Cr} (h : csR g cs = true) : normC cs = cs := by
  obtain ⟨_, h2, h3⟩ := (csR_iff g cs).1 h
  have hs : Srt rLt cs := List.Pairwise.imp (fun {a b} h => by simp only [decide_eq_true_eq] at h; simp [rLt]; omega) (adj_pw step_tr h3)
  unfold normC
  rw [sort_srt rW hs]
  refine (List.map_congr_left (g := id) fun c hc => ?_).trans (List.map_id _)
  have := List.all_eq_true.1 h2 c hc
  simp only [cR, Bool.and_eq_true] at this
  have ht := norm_str tW (adj_pw tLt_tr ((fatesR_iff _ _ _).1 this.2).2.2)
  show normK c = c
  unfold normK normT
  rw [ht]
theorem normP_id {g : Gm} {p : Pn} (h : chk g p.faults p.crashes = 0) : normP p = p := by
  obtain ⟨_, h1, h2⟩ := (chk_iff g p).1 h
  unfold normP
  rw [normF_id h1, normC_id h2]
def thg (p : Pn) : Nat := p.faults.length + p.crashes.length + (p.crashes.map fun c => c.fates.length).sum
theorem sm_cases {p x : Pn} {j : Nat} (h : (smL p)[j]? = some x) : (∃ i, i < p.faults.length ∧ x = ⟨er p.faults i, p.crashes⟩) ∨ (∃ i, i < p.crashes.length ∧ x = ⟨p.faults, er p.crashes i⟩) ∨ ∃ i c k, p.crashes[i]? = some c ∧ k < c.fates.length ∧ x = ⟨p.faults, p.crashes.set i (setF c (er c.fates k))⟩ := by
  have hx : x ∈ smL p := List.mem_of_getElem? h
  unfold smL at hx
  rcases List.mem_append.1 hx with hx | hx
  · simp only [smF, List.mem_map, List.mem_range] at hx
    obtain ⟨i, hi, rfl⟩ := hx
    exact .inl ⟨i, hi, rfl⟩
  rcases List.mem_append.1 hx with hx | hx
  · simp only [smC, List.mem_map, List.mem_range] at hx
    obtain ⟨i, hi, rfl⟩ := hx
    exact .inr (.inl ⟨i, hi, rfl⟩)
  · have go : ∀ n, x ∈ smX p n → ∃ i c k, p.crashes[i]? = some c ∧ k < c.fates.length ∧ x = ⟨p.faults, p.crashes.set i (setF c (er c.fates k))⟩ := fun n => by
      induction n with
      | zero => intro h; simp [smX] at h
      | succ n ih =>
        intro h
        rw [smX] at h
        rcases List.mem_append.1 h with h | h
        · exact ih h
        · cases hc : p.crashes[n]? with
          | none => rw [hc] at h; simp at h
          | some c =>
            rw [hc] at h
            simp only [smK, List.mem_map, List.mem_range] at h
            obtain ⟨k, hk, rfl⟩ := h
            exact ⟨n, c, k, hc, hk, rfl⟩
    exact .inr (.inr (go _ hx))
theorem sm_chk {g : Gm} {p x : Pn} {j : Nat} (h : chk g p.faults p.crashes = 0) (hx : (smL p)[j]? = some x) : chk g x.faults x.crashes = 0 ∧ thg x < thg p := by
  obtain ⟨h0, h1, h2⟩ := (chk_iff g p).1 h
  rcases sm_cases hx with ⟨i, hi, rfl⟩ | ⟨i, hi, rfl⟩ | ⟨i, c, k, hc, hk, rfl⟩
  · refine ⟨(chk_iff g _).2 ⟨h0, fsR_er h1 i, h2⟩, ?_⟩
    have := er_len hi
    simp only [thg]; omega
  · refine ⟨(chk_iff g _).2 ⟨h0, h1, csR_er h2 i⟩, ?_⟩
    have := er_len hi
    have := sum_sub ((er_sub p.crashes i).map fun c => c.fates.length)
    simp only [thg]; omega
  · have hr := List.all_eq_true.1 ((csR_iff g p.crashes).1 h2).2.1 c (List.mem_of_getElem? hc)
    refine ⟨(chk_iff g _).2 ⟨h0, h1, csR_set h2 hc rfl (cR_er hr k)⟩, ?_⟩
    have h3 := sum_set (f := fun c : Cr => c.fates.length) (c' := setF c (er c.fates k)) hc
    have h4 := er_len hk
    simp only [setF] at h3
    simp only [thg, List.length_set, setF]; omega
theorem thg_le {g : Gm} {p : Pn} (h : chk g p.faults p.crashes = 0) : p.faults.length ≤ 64 ∧ p.crashes.length ≤ 16 ∧ (∀ c ∈ p.crashes, c.fates.length ≤ 64) ∧ thg p ≤ 1104 := by
  obtain ⟨_, h1, h2⟩ := (chk_iff g p).1 h
  have a := ((fsR_iff _).1 h1).1
  obtain ⟨b, h3, _⟩ := (csR_iff g _).1 h2
  have hf : ∀ c ∈ p.crashes, c.fates.length ≤ 64 := fun c hc => by
    have := List.all_eq_true.1 h3 c hc
    simp only [cR, Bool.and_eq_true] at this
    exact ((fatesR_iff _ _ _).1 this.2).1
  have hsum : ∀ l : List Cr, (∀ c ∈ l, c.fates.length ≤ 64) → (l.map fun c => c.fates.length).sum ≤ 64 * l.length := fun l => by
    induction l with
    | nil => intro _; simp
    | cons c r ih =>
      intro h
      have := ih fun c hc => h c (by simp [hc])
      have := h c (by simp)
      simp only [List.map_cons, List.sum_cons, List.length_cons]; omega
  have := hsum _ hf
  refine ⟨a, b, hf, ?_⟩
  unfold thg; omega
end Go.Proofs.YtdlbmmodlkmofaaDoor
