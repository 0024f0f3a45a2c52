import Derived.Test.YtibpbbjlecohiaaFr
import Derived.Test.YtibpbbjlecohiaaSn
import Derived.Deep.DeepHandedRow
/-! What came in: read, and no longer than the form's reach. -/
namespace Go.Vc
open Go.RowKit Go.ChangeShapes Go.WideShapes Go.ChangeAt
section
variable {H : Type} {enc : TypeId × Value → H} {P : Program} {w : World}
abbrev fits (P : Program) (t : TypeId) (d : DataW H) : Prop := (d.weights P t).all (· ≤ reachBytes) = true
/-- these cells read as a datum of the type, each part no longer than the reach -/
def Rdg (enc : TypeId × Value → H) (P : Program) (w : World) (t : TypeId) (vs : List Value) : Prop :=
  ∃ (base : Nat) (spare : Nat → Bool) (held : Bool) (n : Nat) (y : DataW H × List MemPlace), DataW.trod enc P w base spare held n t vs = some y ∧ fits P t y.1
theorem weights_at {t : TypeId} {d : DataW H} : ∀ {ts us : List TypeId} {ds gs : List (DataW H)} {i : Nat}, (DataW.weightsEach P (ts ++ us) (ds ++ gs)).all (· ≤ reachBytes) = true → ts[i]? = some t → ds[i]? = some d → fits P t d
  | [], _, _, _, i, _, h, _ => by simp at h
  | _ :: _, _, [], _, i, _, _, h => by simp at h
  | t' :: ts, us, d' :: ds, gs, 0, h, h1, h2 => by
    simp at h1 h2
    subst h1; subst h2
    simp only [List.cons_append, DataW.weightsEach, List.all_append, Bool.and_eq_true] at h
    exact h.1
  | t' :: ts, us, d' :: ds, gs, i + 1, h, h1, h2 => by
    simp only [List.cons_append, DataW.weightsEach, List.all_append, Bool.and_eq_true] at h
    exact weights_at (ts := ts) (ds := ds) (i := i) h.2 (by simpa using h1) (by simpa using h2)
theorem weightsEach_at {t : TypeId} {d : DataW H} {ts : List TypeId} {ds : List (DataW H)} {i : Nat} (h : (DataW.weightsEach P ts ds).all (· ≤ reachBytes) = true) (h1 : ts[i]? = some t) (h2 : ds[i]? = some d) : fits P t d :=
  weights_at (us := []) (gs := []) (by simpa using h) h1 h2
theorem weightsAll_at {e : TypeId} {d : DataW H} : ∀ {ds : List (DataW H)}, (DataW.weightsAll P e ds).all (· ≤ reachBytes) = true → d ∈ ds → fits P e d
  | [], _, h => by cases h
  | d' :: ds, h, hd => by
    simp only [DataW.weightsAll, List.all_append, Bool.and_eq_true] at h
    rcases List.mem_cons.1 hd with rfl | hd
    · exact h.1
    · exact weightsAll_at h.2 hd
theorem Rdg.of {base : Nat} {spare : Nat → Bool} {held : Bool} {t : TypeId} {v : Value} {d : DataW H} {p : List MemPlace} (h : DataW.Trod enc P w base spare held t v d p) (hf : fits P t d) : Rdg enc P w t v.cells.toList := by
  obtain ⟨n, hn⟩ := h
  exact ⟨base, spare, held, n, (d, p), hn, hf⟩
theorem Rdg.kinds {t : TypeId} {vs : List Value} (h : Rdg enc P w t vs) (m : Nat) {ks : List Kd} (hk : flatK P m t = some ks) : areK ks vs := by
  obtain ⟨base, spare, held, n, y, hy, _⟩ := h
  exact flatK_ok m t ks vs hk ⟨n, y, hy⟩
theorem Rdg.field {t : TypeId} {vs : List Value} {fs : Array Field} (h : Rdg enc P w t vs) (hs : P.underlying t = some (.struct fs)) {i : Nat} {f : Field} (hf : fs[i]? = some f) : Rdg enc P w f.type ((vs.drop f.offset).take (P.cellsOf f.type)) := by
  obtain ⟨base, spare, held, n, y, hy, hfit⟩ := h
  obtain ⟨xs, n', rfl, rfl, _, hlen, hx⟩ := DataW.trod_struct hs hy
  have h3 := hx i f hf
  have hi : i < xs.length := by
    rw [hlen]
    rcases Nat.lt_or_ge i fs.size with h1 | h1
    · exact h1
    · rw [Array.getElem?_eq_none h1] at hf; cases hf
  rw [List.getElem?_eq_getElem hi] at h3
  refine ⟨base, spare, held, n', _, h3, ?_⟩
  simp only [fits, DataW.weights, hs] at hfit
  exact weightsEach_at (i := i) hfit (by simp [hf]) (by simp [List.getElem?_eq_getElem hi])
theorem Rdg.slice {t e : TypeId} {q : Option Addr} {l c : Nat} (h : Rdg enc P w t [.slice q l c]) (ht : P.underlying t = some (.slice e)) :
    l ≤ c ∧ c ≤ maxLen ∧ l * P.bytesOf e ≤ 140737488351232 ∧ ∀ i, i < l → ∃ a us, q = some a ∧ us.length = P.cellsOf e ∧ reads w (a.add (i * P.cellsOf e)) us ∧ Rdg enc P w e us := by
  obtain ⟨base, spare, held, n, y, hy, hfit⟩ := h
  rcases DataW.trod_slice ht hy with ⟨h1, _⟩ | ⟨a, len, cap, elems, rest, n', _, h1, rfl, _, hlc, hcm, hel, hx, _, _⟩
  · simp at h1
    obtain ⟨rfl, rfl, rfl⟩ := h1
    exact ⟨Nat.le_refl _, Nat.zero_le _, by simp, fun i hi => absurd hi (Nat.not_lt_zero i)⟩
  · simp at h1
    obtain ⟨rfl, rfl, rfl⟩ := h1
    simp only [fits, DataW.weights, ht, List.all_cons, Bool.and_eq_true, List.all_append, decide_eq_true_eq, List.length_map] at hfit
    refine ⟨hlc, hcm, ?_, fun i hi => ?_⟩
    · have h2 := hfit.1
      rw [hel, Nat.add_mul] at h2
      simp only [reachBytes] at h2
      omega
    · have h3 := hx i hi
      rw [List.getElem?_eq_getElem (by omega)] at h3
      obtain ⟨vs, hv, hy⟩ := Option.bind_eq_some_iff.1 h3
      have hcs := World.cells?_some hv
      refine ⟨a, vs, rfl, hcs.2.1, fun j v hj => (hcs.2.2 j (by rw [← hcs.2.1]; exact get_lt hj)).trans hj, base, spare, held, n', _, hy, ?_⟩
      exact weightsAll_at hfit.2.1 (List.mem_map.2 ⟨_, List.getElem_mem _, rfl⟩)
theorem Rdg.str {t : TypeId} {s : ByteArray} (h : Rdg enc P w t [.string s]) (ht : P.underlying t = some .string) : s.size ≤ 140737488351232 := by
  obtain ⟨base, spare, held, n, y, hy, hfit⟩ := h
  obtain ⟨s', h1, h2, _⟩ := DataW.trod_string ht hy
  simp at h1
  subst h1
  rw [h2] at hfit
  simp [fits, DataW.weights, reachBytes] at hfit
  exact of_decide_eq_true hfit
end
/-- lists out of places -/
theorem list_of {α : Type} {R : Nat → α → Prop} : ∀ {l : Nat}, (∀ i, i < l → ∃ x, R i x) → ∃ xs : List α, xs.length = l ∧ ∀ i x, xs[i]? = some x → R i x
  | 0, _ => ⟨[], rfl, fun i x h => by simp at h⟩
  | l + 1, h => by
    obtain ⟨xs, hl, hx⟩ := list_of (l := l) fun i hi => h i (by omega)
    obtain ⟨x, hr⟩ := h l (by omega)
    refine ⟨xs ++ [x], by simp [hl], fun i y hy => ?_⟩
    rcases Nat.lt_or_ge i xs.length with h1 | h1
    · rw [List.getElem?_append_left h1] at hy; exact hx i y hy
    · have h2 := get_lt hy
      simp at h2
      have : i = xs.length := by omega
      subst this
      simp at hy
      subst hy
      rw [hl]; exact hr
/-- what a slice that came in holds, each element read by 'f' -/
theorem RE.of {α : Type} {E : En α} {w : World} {q : Option Addr} {l : Nat} {Pr : α → Prop} (h : ∀ i, i < l → ∃ a x, q = some a ∧ reads w (a.add (i * E.k)) (E.enc x) ∧ Pr x) : ∃ xs : List α, RE E w q l xs ∧ ∀ x ∈ xs, Pr x := by
  obtain ⟨xs, hl, hx⟩ := list_of (R := fun i x => ∃ a, q = some a ∧ reads w (a.add (i * E.k)) (E.enc x) ∧ Pr x) (fun i hi => by
    obtain ⟨a, x, h1, h2, h3⟩ := h i hi
    exact ⟨x, a, h1, h2, h3⟩)
  refine ⟨xs, ⟨hl, fun i x hi => ?_⟩, fun x hm => ?_⟩
  · obtain ⟨a, h1, h2, _⟩ := hx i x hi
    exact ⟨a, h1, h2⟩
  · obtain ⟨i, hi⟩ := List.getElem?_of_mem hm
    obtain ⟨a, _, _, h3⟩ := hx i x hi
    exact h3
theorem RE.of' {α : Type} {E : En α} {w : World} {q : Option Addr} {l : Nat} (h : ∀ i, i < l → ∃ a x, q = some a ∧ reads w (a.add (i * E.k)) (E.enc x)) : ∃ xs : List α, RE E w q l xs := by
  obtain ⟨xs, h, _⟩ := RE.of (Pr := fun _ => True) fun i hi => by
    obtain ⟨a, x, h1, h2⟩ := h i hi
    exact ⟨a, x, h1, h2, trivial⟩
  exact ⟨xs, h⟩
theorem areK_int {k : IntKind} {us : List Value} (h : areK [.int k] us) : ∃ n : Int, us = [.int k n] ∧ (Lit.int k n).wf = true := by
  cases us with
  | nil => exact h.elim
  | cons v r =>
    cases r with
    | nil =>
      obtain ⟨⟨n, rfl, hw⟩, _⟩ := h
      exact ⟨n, rfl, hw⟩
    | cons u r => exact h.2.elim
/-- a slice of ints that came in -/
theorem Rdg.ints {H : Type} {enc : TypeId × Value → H} {P : Program} {w : World} {t e : TypeId} {q : Option Addr} {l c : Nat} (h : Rdg enc P w t [.slice q l c]) (ht : P.underlying t = some (.slice e)) (he : flatK P 1 e = some [.int .i64]) (hc : P.cellsOf e = 1) (hb : P.bytesOf e = 8) :
    l ≤ c ∧ c ≤ maxLen ∧ l ≤ 17592186043904 ∧ ∃ xs : List Int, RE En.int w q l xs ∧ ∀ x ∈ xs, (Lit.int .i64 x).wf = true := by
  obtain ⟨h1, h2, h3, h4⟩ := h.slice ht
  refine ⟨h1, h2, by rw [hb] at h3; omega, RE.of fun i hi => ?_⟩
  obtain ⟨a, us, ha, hl, hr, hg⟩ := h4 i hi
  have hk := hg.kinds 1 he
  obtain ⟨n, rfl, hw⟩ := areK_int hk
  rw [hc] at hr
  exact ⟨a, n, ha, hr, hw⟩
theorem wf64 {x : Int} (h : (Lit.int .i64 x).wf = true) : -9223372036854775808 ≤ x ∧ x ≤ 9223372036854775807 := by
  simp [Lit.wf, IntKind.min, IntKind.max, IntKind.signed, IntKind.bits] at h
  omega
end Go.Vc
