/- The readings of a plan, with the bound. -/
import Derived.Test.YtdlbmmodlkmofaaDoorRow
import Derived.Test.YtdlbmmodlkmofaaDoorPlS
import Derived.SevenTiedAt
import Derived.LaidMore
set_option maxRecDepth 20000
namespace Go.Proofs.YtdlbmmodlkmofaaDoor
open Go Go.Vc Go.RowKit Go.ChangeShapes Go.WideShapes Go.ChangeAt

section
variable {H : Type} {enc : TypeId × Value → H} {P : Program} {w : World}
theorem bulk_pos (d : DataW H) : 1 ≤ Rows.uptoBulk d := by
  cases d with
  | lit l => cases l <;> simp [Rows.uptoBulk]
  | nil => simp [Rows.uptoBulk]
  | ptr d => simp [Rows.uptoBulk]
  | slice elems spare => simp [Rows.uptoBulk]
  | agg parts => simp [Rows.uptoBulk]
  | iface t d => simp [Rows.uptoBulk]
  | map entries => simp [Rows.uptoBulk]
  | held h => simp [Rows.uptoBulk]
theorem bulk_sum : ∀ l : List (DataW H), Rows.uptoBulkAll l = (l.map Rows.uptoBulk).sum
  | [] => rfl
  | x :: r => by rw [Rows.uptoBulkAll, bulk_sum r]; rfl
theorem bulk_len : ∀ l : List (DataW H), l.length ≤ Rows.uptoBulkAll l
  | [] => Nat.zero_le _
  | x :: r => by
    have h1 := bulk_pos x
    have h2 := bulk_len r
    simp only [Rows.uptoBulkAll, List.length_cons]; omega
theorem bulk_part : ∀ {l : List (DataW H)} {d : DataW H}, d ∈ l → Rows.uptoBulk d ≤ Rows.uptoBulkAll l
  | x :: r, d, h => by
    simp only [Rows.uptoBulkAll]
    rcases List.mem_cons.1 h with rfl | h
    · omega
    · have := bulk_part h; omega
/-- these cells read as a datum of the type, of bulk at most B -/
def Rb (enc : TypeId × Value → H) (P : Program) (w : World) (t : TypeId) (vs : List Value) (B : Nat) : Prop :=
  ∃ (base : Nat) (spare : Nat → Bool) (held : Bool) (n : Nat) (y : DataW H × List MemPlace), DataW.trod enc P w base spare held n t vs = some y ∧ Rows.uptoBulk y.1 ≤ B
theorem Rb.of {base : Nat} {spare : Nat → Bool} {held : Bool} {t : TypeId} {v : Value} {d : DataW H} {p : List MemPlace} {B : Nat} (h : DataW.Trod enc P w base spare held t v d p) (hf : Rows.uptoBulk d ≤ B) : Rb enc P w t v.cells.toList B := by
  obtain ⟨n, hn⟩ := h
  exact ⟨base, spare, held, n, (d, p), hn, hf⟩
theorem Rb.kinds {t : TypeId} {vs : List Value} {B : Nat} (h : Rb enc P w t vs B) (m : Nat) {ks : List Kd} (hk : flatK P m t = some ks) : areK ks vs := by
  obtain ⟨base, spare, held, n, y, hy, _⟩ := h
  exact flatK_ok m t ks vs hk ⟨n, y, hy⟩
theorem Rb.field {t : TypeId} {vs : List Value} {fs : Array Field} {B : Nat} (h : Rb enc P w t vs B) (hs : P.underlying t = some (.struct fs)) {i : Nat} {f : Field} (hf : fs[i]? = some f) : Rb enc P w f.type ((vs.drop f.offset).take (P.cellsOf f.type)) B := by
  obtain ⟨base, spare, held, n, y, hy, hfit⟩ := h
  obtain ⟨xs, n', rfl, rfl, _, hlen, hx⟩ := DataW.trod_struct hs hy
  have h3 := hx i f hf
  have hi : i < xs.length := by
    rw [hlen]
    rcases Nat.lt_or_ge i fs.size with h1 | h1
    · exact h1
    · rw [Array.getElem?_eq_none h1] at hf; cases hf
  rw [List.getElem?_eq_getElem hi] at h3
  refine ⟨base, spare, held, n', _, h3, ?_⟩
  have h4 := bulk_part (List.mem_map.2 ⟨xs[i], List.getElem_mem hi, rfl⟩ : (xs[i]).1 ∈ xs.map (·.1))
  simp only [Rows.uptoBulk] at hfit
  omega
theorem Rb.slice {t e : TypeId} {q : Option Addr} {l c B : Nat} (h : Rb enc P w t [.slice q l c] B) (ht : P.underlying t = some (.slice e)) :
    l ≤ B ∧ ∃ bs : List Nat, bs.length = l ∧ bs.sum ≤ B ∧ ∀ i b, bs[i]? = some b → ∃ a us, q = some a ∧ us.length = P.cellsOf e ∧ reads w (a.add (i * P.cellsOf e)) us ∧ Rb enc P w e us b := by
  obtain ⟨base, spare, held, n, y, hy, hfit⟩ := h
  rcases DataW.trod_slice ht hy with ⟨h1, _⟩ | ⟨a, len, cap, elems, rest, n', _, h1, rfl, _, hlc, hcm, hel, hx, _, _⟩
  · simp at h1
    obtain ⟨rfl, rfl, rfl⟩ := h1
    exact ⟨Nat.zero_le _, [], rfl, Nat.zero_le _, fun i b hi => by simp at hi⟩
  · simp at h1
    obtain ⟨rfl, rfl, rfl⟩ := h1
    simp only [Rows.uptoBulk] at hfit
    have h5 := bulk_len (elems.map (·.1))
    have h6 := bulk_sum (elems.map (·.1))
    rw [List.length_map] at h5
    refine ⟨by omega, (elems.map (·.1)).map Rows.uptoBulk, by simpa using hel, by omega, fun i b hi => ?_⟩
    have hlt := get_lt hi
    simp only [List.length_map] at hlt
    have h3 := hx i (by omega)
    rw [List.getElem?_eq_getElem (by omega)] at h3
    obtain ⟨vs, hv, hy⟩ := Option.bind_eq_some_iff.1 h3
    have hcs := World.cells?_some hv
    refine ⟨a, vs, rfl, hcs.2.1, fun j v hj => (hcs.2.2 j (by rw [← hcs.2.1]; exact get_lt hj)).trans hj, base, spare, held, n', _, hy, ?_⟩
    simp only [List.getElem?_map, List.getElem?_eq_getElem hlt, Option.map_some, Option.some.injEq] at hi
    omega
/-- a slice of plain data -/
theorem Rb.flat {α : Type} {E : En α} {t e : TypeId} {q : Option Addr} {l c B : Nat} (h : Rb enc P w t [.slice q l c] B) (ht : P.underlying t = some (.slice e)) (hc : P.cellsOf e = E.k) (hel : ∀ us b, Rb enc P w e us b → ∃ x : α, us = E.enc x) : l ≤ B ∧ ∃ xs, RE E w q l xs := by
  obtain ⟨h1, bs, hb, _, hx⟩ := h.slice ht
  refine ⟨h1, RE.of' fun i hi => ?_⟩
  obtain ⟨b, hbi⟩ := get_ex (l := bs) (i := i) (by omega)
  obtain ⟨a, us, ha, _, hr, hg⟩ := hx i b hbi
  obtain ⟨x, rfl⟩ := hel us b hg
  rw [hc] at hr
  exact ⟨a, x, ha, hr⟩
theorem sum_le : ∀ {a b : List Nat}, a.length = b.length → (∀ (i x y : Nat), a[i]? = some x → b[i]? = some y → x ≤ y) → a.sum ≤ b.sum
  | [], [], _, _ => Nat.le_refl _
  | x :: a, y :: b, hl, h => by
    have h1 := h 0 x y rfl rfl
    have h2 := sum_le (a := a) (b := b) (by simpa using hl) (fun i u v hu hv => h (i + 1) u v (by simpa using hu) (by simpa using hv))
    simp only [List.sum_cons]; omega
  | [], _ :: _, hl, _ => by simp at hl
  | _ :: _, [], hl, _ => by simp at hl
end
theorem sum_at : ∀ {l : List Nat} {i x : Nat}, l[i]? = some x → x ≤ l.sum
  | [], i, x, h => by simp at h
  | y :: l, 0, x, h => by simp at h; subst h; simp
  | y :: l, i + 1, x, h => by
    have := sum_at (l := l) (i := i) (by simpa using h)
    simp only [List.sum_cons]; omega

theorem reads_eq {w : World} {p : Addr} {us vs : List Value} (h1 : reads w p us) (h2 : reads w p vs) (hl : us.length = vs.length) : us = vs := by
  apply List.ext_getElem?
  intro j
  rcases Nat.lt_or_ge j us.length with h | h
  · obtain ⟨u, hu⟩ := get_ex (l := us) h
    obtain ⟨v, hv⟩ := get_ex (l := vs) (i := j) (by omega)
    have e1 := h1 j u hu
    have e2 := h2 j v hv
    rw [e1] at e2
    cases e2
    rw [hu, hv]
  · rw [List.getElem?_eq_none h, List.getElem?_eq_none (by omega)]
section
variable {H : Type} {enc : TypeId × Value → H} {w : World}
theorem crashes_bulk {q : Option Addr} {l c B : Nat} {cs : List Cr} (h : CrsR w q l cs) (g : Rb enc Tryd.prog w 26 [.slice q l c] B) : l ≤ B ∧ (cs.map fun c => c.fates.length).sum ≤ B := by
  obtain ⟨hs, T, hl, hH⟩ := h.ex
  have hTl := T.len
  obtain ⟨h1, bs, hb, hsum, hx⟩ := g.slice Tryd.underlying26
  have hc : Tryd.prog.cellsOf 42 = 3 := by kernel_rfl
  have hc1 : Tryd.prog.cellsOf 40 = 1 := by kernel_rfl
  refine ⟨h1, Nat.le_trans (sum_le (by simp; omega) fun i x y hxi hy => ?_) hsum⟩
  simp only [List.getElem?_map, Option.map_eq_some_iff] at hxi
  obtain ⟨f, hf, rfl⟩ := hxi
  obtain ⟨a, us, ha, hul, hr, hg⟩ := hx i y hy
  obtain ⟨hd, hhd⟩ := get_ex (l := hs) (i := i) (by have := get_lt hf; omega)
  obtain ⟨a', ha', hr'⟩ := T.get i hd hhd
  rw [ha] at ha'; cases ha'
  rw [hc] at hr hul
  have e := reads_eq hr hr' (by rw [hul]; rfl)
  subst e
  have hf1 : Rb enc Tryd.prog w 40 ((([.int .i64 hd.step, .int .i64 hd.rest, .slice hd.q hd.l hd.c] : List Value).drop 2).take (Tryd.prog.cellsOf 40)) y := Rb.field (vs := [.int .i64 hd.step, .int .i64 hd.rest, .slice hd.q hd.l hd.c]) hg Tryd.underlying42 (i := 2) rfl
  rw [hc1] at hf1
  obtain ⟨h5, _⟩ := Rb.slice (show Rb enc Tryd.prog w 40 [.slice hd.q hd.l hd.c] y from hf1) Tryd.underlying40
  have := (hH i hd f hhd hf).2.2.1.len
  omega
theorem plan_bulk {q1 q2 : Option Addr} {l1 c1 l2 c2 B : Nat} {fs : List T3} {cs : List Cr} (h1 : RE En.t3 w q1 l1 fs) (h2 : CrsR w q2 l2 cs) (g : Rb enc Tryd.prog w 28 [.slice q1 l1 c1, .slice q2 l2 c2] B) : (smL ⟨fs, cs⟩).length ≤ 3 * B := by
  have hc1 : Tryd.prog.cellsOf 25 = 1 := by kernel_rfl
  have hc2 : Tryd.prog.cellsOf 26 = 1 := by kernel_rfl
  have f1 : Rb enc Tryd.prog w 25 ((([.slice q1 l1 c1, .slice q2 l2 c2] : List Value).drop 0).take (Tryd.prog.cellsOf 25)) B := Rb.field (vs := [.slice q1 l1 c1, .slice q2 l2 c2]) g Tryd.underlying28 (i := 0) rfl
  have f2 : Rb enc Tryd.prog w 26 ((([.slice q1 l1 c1, .slice q2 l2 c2] : List Value).drop 1).take (Tryd.prog.cellsOf 26)) B := Rb.field (vs := [.slice q1 l1 c1, .slice q2 l2 c2]) g Tryd.underlying28 (i := 1) rfl
  rw [hc1] at f1
  rw [hc2] at f2
  obtain ⟨u1, _⟩ := Rb.slice (show Rb enc Tryd.prog w 25 [.slice q1 l1 c1] B from f1) Tryd.underlying25
  obtain ⟨u2, u3⟩ := crashes_bulk h2 (show Rb enc Tryd.prog w 26 [.slice q2 l2 c2] B from f2)
  rw [sm_sum]
  have := h1.len
  have := h2.len
  show fs.length + cs.length + (cs.map fun c => c.fates.length).sum ≤ 3 * B
  omega
end
end Go.Proofs.YtdlbmmodlkmofaaDoor
