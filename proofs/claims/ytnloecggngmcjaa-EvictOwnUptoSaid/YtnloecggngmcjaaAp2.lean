import Derived.Test.YtnloecggngmcjaaAp
namespace Go.Vc
open Go.RowKit
/-- a slice (nil too) whose elements, one cell each, are these -/
def Rd (w : World) (q : Option Addr) (m : Nat) (news : List Value) : Prop := news.length = m ∧ ∀ i u, news[i]? = some u → ∃ a, q = some a ∧ w.cell? (a.add (i * 1)) = some u
section
variable {w w' : World} {base : Nat} {e : TypeId} {q : Option Addr} {l c : Nat} {xs : List Value}
theorem Sl.rd (h : Sl w base e q l c xs) : Rd w q l xs := ⟨h.1, fun _ _ hx => h.cell hx⟩
theorem Rd.take {q : Option Addr} {m : Nat} {news : List Value} (h : Rd w q m news) {k : Nat} (hk : k ≤ m) : Rd w q k (news.take k) :=
  ⟨by rw [List.length_take, h.1]; omega, fun i u hu => h.2 i u (by
    rw [List.getElem?_take] at hu
    split at hu
    · exact hu
    · cases hu)⟩
theorem Rd.mono {q : Option Addr} {m : Nat} {news : List Value} (h : Rd w q m news) (hw : ∀ a u, q = some a → ∀ i, i < m → w.cell? (a.add (i * 1)) = some u → w'.cell? (a.add (i * 1)) = some u) : Rd w' q m news :=
  ⟨h.1, fun i u hu => by
    obtain ⟨a, ha, hc⟩ := h.2 i u hu
    refine ⟨a, ha, hw a u ha i ?_ hc⟩
    rw [← h.1]
    rcases Nat.lt_or_ge i news.length with h1 | h1
    · exact h1
    · rw [List.getElem?_eq_none h1] at hu; cases hu⟩
theorem run_append_zero {P : Program} (w : World) (t ty e : TypeId) (i : TypeInfo) (ht : P.underlying t = some (.slice e)) (hi : P.info? e = some i) (q : Option Addr) (l c : Nat) (hle : l ≤ c) (q' : Option Addr) (c' : Nat) :
    (Builtin.append_ #[t, t] ty #[.slice q l c, .slice q' 0 c']).run P w = .ok (.slice q l c) w := by
  cases q <;> cases q' <;> simp [Builtin.append_, run_underlying ht, sizeOf, typeInfo, hi, Builtin.lenOf, hle, Builtin.firstCells, loadCells, loadCellsFrom, storeCells]
theorem Sl.append_full {P : Program} {t ty : TypeId} {z : Value} {bytes m c2 : Nat} {q2 : Option Addr} {news : List Value} (h : Sl w base e q l c xs) (ht : P.underlying t = some (.slice e)) (hi : (P.info? e).map (fun j => (j.size, j.zero, j.bytes)) = some (1, some z, bytes)) (hz : z.cells.size = 1)
    (hb : Rd w q2 m news) (hone : ∀ u ∈ news, u.oneCell' = true) (h63 : l + m ≤ maxLen) (hby : (l + m) * bytes ≤ 140737488355328) (hbase : base ≤ w.heap.size) :
    ∃ q' c' w', (Builtin.append_ #[t, t] ty #[.slice q l c, .slice q2 m c2]).run P w = .ok (.slice q' (l + m) c') w' ∧ Sl w' base e q' (l + m) c' (xs ++ news) ∧
      Chg (fun k => some k = qBlock q) w w' ∧ (qBlock q' = qBlock q ∨ qBlock q' = some w.heap.size) ∧ Sl w' base e q l c xs := by
  cases hj : P.info? e with
  | none => rw [hj] at hi; simp at hi
  | some j =>
    rw [hj] at hi
    simp at hi
    obtain ⟨hs, hzero, hbt⟩ := hi
    by_cases hm : m = 0
    · subst hm
      have hn : news = [] := List.eq_nil_of_length_eq_zero hb.1
      subst hn
      have hle : l ≤ c := by
        rcases h.2 with ⟨_, rfl, rfl⟩ | ⟨_, _, _, _, _, _, h1, _⟩
        · exact Nat.le_refl _
        · exact h1
      exact ⟨q, c, w, run_append_zero w t ty e j ht hj q l c hle q2 c2, by simpa using h, Chg.refl _ _, .inl rfl, h⟩
    have hnl := hb.1
    obtain ⟨a, rfl⟩ : ∃ a, q2 = some a := by
      obtain ⟨a, ha, _⟩ := hb.2 0 (news[0]'(by omega)) (List.getElem?_eq_getElem _)
      exact ⟨a, ha⟩
    have hnews : ∀ i u, news[i]? = some u → w.cell? (a.add i) = some u := fun i u hu => by
      obtain ⟨a', ha, hc⟩ := hb.2 i u hu
      cases ha
      simpa using hc
    have hlen : (xs ++ news).length = l + m := by simp [h.1, hnl]
    have fresh : ∀ old, old < l + m → ∀ S, Sl (w.drew.alloc (.cells (xs.toArray ++ news.toArray ++ Builtin.zeroCells z.cells (grownCap w (l + m) old e - (l + m))) e)) base e (some ⟨w.heap.size, 0, none⟩) (l + m) (grownCap w (l + m) old e) (xs ++ news) ∧
        Chg S w (w.drew.alloc (.cells (xs.toArray ++ news.toArray ++ Builtin.zeroCells z.cells (grownCap w (l + m) old e - (l + m))) e)) := fun old ho S => by
      have hge := grownCap_ge w (l + m) old e
      have hcm : grownCap w (l + m) old e ≤ maxLen := grownCap_le_maxLen w (l + m) old e h63
      refine ⟨⟨hlen, .inr ⟨w.heap.size, 0, _, rfl, hbase, Blk.new w.drew _ _, hge, hcm, ?_, fun i u hu => ?_⟩⟩, (Chg.refl S w).drew.alloc _⟩
      · simp only [Array.size_append, List.size_toArray, size_zeroCells, hz, h.1, hnl]; omega
      · rw [Nat.zero_add]
        have : i < (xs ++ news).length := by
          rcases Nat.lt_or_ge i (xs ++ news).length with h1 | h1
          · exact h1
          · rw [List.getElem?_eq_none h1] at hu; cases hu
        rw [Array.getElem?_append_left (by simp [h.1, hnl]; omega), ← hu]
        simp
    rcases h.2 with ⟨rfl, rfl, rfl⟩ | ⟨g, off, cur, rfl, hbg, hg, h1, h2, h3, hr⟩
    · have hx0 : xs = [] := List.eq_nil_of_length_eq_zero h.1
      subst hx0
      have hrun := run_append_nil (P := P) w t ty e j z ht hj hzero a m c2 news (by rw [hs]; omega) hnews (by omega) (by simp only [maxLen] at h63; omega) (by rw [hbt]; simp only [Nat.zero_add] at hby; omega)
      obtain ⟨f1, f2⟩ := fresh 0 (by omega) (fun k => some k = qBlock none)
      simp only [Nat.zero_add, List.nil_append, Array.empty_append] at f1 f2 hrun ⊢
      exact ⟨_, _, _, hrun, f1, f2, .inr rfl, ⟨rfl, .inl ⟨rfl, rfl, rfl⟩⟩⟩
    · by_cases hroom : l + m ≤ c
      · have hrun := run_append_off (P := P) w t ty e j ht hj g off l c cur hg a m c2 news (by rw [hs]; omega) hnews hone hroom (by rw [hs]; omega)
        suffices hh : Sl _ base e (some ⟨g, off, none⟩) (l + m) c (xs ++ news) from ⟨_, _, _, hrun, hh, ⟨rfl, rfl, rfl, by simp [World.setRow], fun k _ hk => setRow_other w g k _ (fun e => hk (by simp [qBlock, e]))⟩, .inl rfl, h.1, .inr (by
          rcases hh.2 with ⟨h0, _⟩ | ⟨g', off', cur', hq', k1, k2, k3, k4, k5, k6⟩
          · cases h0
          · exact ⟨g', off', cur', hq', k1, k2, by omega, k4, k5, fun i u hu => k6 i u (by
              have : i < xs.length := by
                rcases Nat.lt_or_ge i xs.length with h9 | h9
                · exact h9
                · rw [List.getElem?_eq_none h9] at hu; cases hu
              rw [List.getElem?_append_left this]; exact hu)⟩)⟩
        refine ⟨hlen, .inr ⟨g, off, _, rfl, hbg, setRow_heap w g cur _ e _ hg, hroom, h2, ?_, fun i u hu => ?_⟩⟩
        · rw [hs]
          simp only [List.size_toArray, List.length_append, List.length_take, List.length_drop, Array.length_toList]
          omega
        · rw [hs, Nat.mul_one]
          simp only [List.getElem?_toArray, List.append_assoc]
          have h5 := h.1
          rcases Nat.lt_or_ge i xs.length with h4 | h4
          · rw [List.getElem?_append_left h4] at hu
            rw [List.getElem?_append_left (by simp; omega), List.getElem?_take, if_pos (by omega), ← hr i u hu]
            simp
          · rw [List.getElem?_append_right h4] at hu
            have hin : i - xs.length < news.length := by
              rcases Nat.lt_or_ge (i - xs.length) news.length with h6 | h6
              · exact h6
              · rw [List.getElem?_eq_none h6] at hu; cases hu
            rw [List.getElem?_append_right (by simp; omega), List.length_take,
              show off + i - min (off + l) cur.toList.length = i - xs.length by rw [Array.length_toList]; omega, List.getElem?_append_left hin]
            exact hu
      · have holds : ∀ i u, xs[i]? = some u → w.cell? ((⟨g, off, none⟩ : Addr).add i) = some u := fun i u hu => by rw [add_mk, hg.cell, hr i u hu]
        have hrun := run_append_grow (P := P) w t ty e j z ht hj hzero ⟨g, off, none⟩ l c xs (by rw [hs, h.1]; omega) holds a m c2 news (by rw [hs]; omega) hnews (by omega) (by simp only [maxLen] at h63; omega) (growslice_fits (by omega) (by rw [hbt]; exact hby))
        obtain ⟨f1, f2⟩ := fresh c (by omega) (fun k => some k = qBlock (some ⟨g, off, none⟩))
        exact ⟨_, _, _, hrun, f1, f2, .inr rfl, h.chg ((Chg.refl none_ w).drew.alloc _) (fun _ _ hf => hf)⟩
theorem Sl.append {P : Program} {t ty : TypeId} {z : Value} {bytes m c2 : Nat} {q2 : Option Addr} {news : List Value} (h : Sl w base e q l c xs) (ht : P.underlying t = some (.slice e)) (hi : (P.info? e).map (fun j => (j.size, j.zero, j.bytes)) = some (1, some z, bytes)) (hz : z.cells.size = 1)
    (hb : Rd w q2 m news) (hone : ∀ u ∈ news, u.oneCell' = true) (h63 : l + m ≤ maxLen) (hby : (l + m) * bytes ≤ 140737488355328) (hbase : base ≤ w.heap.size) :
    ∃ q' c' w', (Builtin.append_ #[t, t] ty #[.slice q l c, .slice q2 m c2]).run P w = .ok (.slice q' (l + m) c') w' ∧ Sl w' base e q' (l + m) c' (xs ++ news) ∧
      Chg (fun k => some k = qBlock q) w w' ∧ (qBlock q' = qBlock q ∨ qBlock q' = some w.heap.size) := by
  obtain ⟨q', c', w', h1, h2, h3, h4, _⟩ := h.append_full (t := t) (ty := ty) ht hi hz hb hone h63 hby hbase (c2 := c2)
  exact ⟨q', c', w', h1, h2, h3, h4⟩
end
end Go.Vc
