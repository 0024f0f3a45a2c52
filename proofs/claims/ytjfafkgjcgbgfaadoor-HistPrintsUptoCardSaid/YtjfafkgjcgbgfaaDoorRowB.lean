/- The readings of a run, with the bound. -/
import Derived.Test.YtjfafkgjcgbgfaaDoorRow
import Derived.Test.YtjfafkgjcgbgfaaDoorHjQ
import Derived.SevenTiedAt
import Derived.LaidMore
import Derived.Lay
set_option maxRecDepth 20000
namespace Go.Proofs.YtjfafkgjcgbgfaaDoor
open Go Go.Vc Go.RowKit Go.ChangeShapes Go.WideShapes Go.ChangeAt

section
variable {H : Type} {enc : TypeId × Value → H} {P : Program} {w : World}
theorem bulk_pos (d : DataW H) : 1 ≤ Rows.uptoBulk d := by
  cases d with
  | lit l => cases l <;> simp [Rows.uptoBulk]
  | nil => simp [Rows.uptoBulk]
  | ptr d => simp [Rows.uptoBulk]
  | slice elems spare => simp [Rows.uptoBulk]
  | agg parts => simp [Rows.uptoBulk]
  | iface t d => simp [Rows.uptoBulk]
  | map entries => simp [Rows.uptoBulk]
  | held h => simp [Rows.uptoBulk]
theorem bulk_sum : ∀ l : List (DataW H), Rows.uptoBulkAll l = (l.map Rows.uptoBulk).sum
  | [] => rfl
  | x :: r => by rw [Rows.uptoBulkAll, bulk_sum r]; rfl
theorem bulk_len : ∀ l : List (DataW H), l.length ≤ Rows.uptoBulkAll l
  | [] => Nat.zero_le _
  | x :: r => by
    have h1 := bulk_pos x
    have h2 := bulk_len r
    simp only [Rows.uptoBulkAll, List.length_cons]; omega
theorem bulk_part : ∀ {l : List (DataW H)} {d : DataW H}, d ∈ l → Rows.uptoBulk d ≤ Rows.uptoBulkAll l
  | x :: r, d, h => by
    simp only [Rows.uptoBulkAll]
    rcases List.mem_cons.1 h with rfl | h
    · omega
    · have := bulk_part h; omega
/-- these cells read as a datum of the type, of bulk at most B -/
def Rb (enc : TypeId × Value → H) (P : Program) (w : World) (t : TypeId) (vs : List Value) (B : Nat) : Prop :=
  ∃ (base : Nat) (spare : Nat → Bool) (held : Bool) (n : Nat) (y : DataW H × List MemPlace), DataW.trod enc P w base spare held n t vs = some y ∧ Rows.uptoBulk y.1 ≤ B
theorem Rb.of {base : Nat} {spare : Nat → Bool} {held : Bool} {t : TypeId} {v : Value} {d : DataW H} {p : List MemPlace} {B : Nat} (h : DataW.Trod enc P w base spare held t v d p) (hf : Rows.uptoBulk d ≤ B) : Rb enc P w t v.cells.toList B := by
  obtain ⟨n, hn⟩ := h
  exact ⟨base, spare, held, n, (d, p), hn, hf⟩
theorem Rb.kinds {t : TypeId} {vs : List Value} {B : Nat} (h : Rb enc P w t vs B) (m : Nat) {ks : List Kd} (hk : flatK P m t = some ks) : areK ks vs := by
  obtain ⟨base, spare, held, n, y, hy, _⟩ := h
  exact flatK_ok m t ks vs hk ⟨n, y, hy⟩
theorem Rb.field {t : TypeId} {vs : List Value} {fs : Array Field} {B : Nat} (h : Rb enc P w t vs B) (hs : P.underlying t = some (.struct fs)) {i : Nat} {f : Field} (hf : fs[i]? = some f) : Rb enc P w f.type ((vs.drop f.offset).take (P.cellsOf f.type)) B := by
  obtain ⟨base, spare, held, n, y, hy, hfit⟩ := h
  obtain ⟨xs, n', rfl, rfl, _, hlen, hx⟩ := DataW.trod_struct hs hy
  have h3 := hx i f hf
  have hi : i < xs.length := by
    rw [hlen]
    rcases Nat.lt_or_ge i fs.size with h1 | h1
    · exact h1
    · rw [Array.getElem?_eq_none h1] at hf; cases hf
  rw [List.getElem?_eq_getElem hi] at h3
  refine ⟨base, spare, held, n', _, h3, ?_⟩
  have h4 := bulk_part (List.mem_map.2 ⟨xs[i], List.getElem_mem hi, rfl⟩ : (xs[i]).1 ∈ xs.map (·.1))
  simp only [Rows.uptoBulk] at hfit
  omega
theorem Rb.slice {t e : TypeId} {q : Option Addr} {l c B : Nat} (h : Rb enc P w t [.slice q l c] B) (ht : P.underlying t = some (.slice e)) :
    l ≤ B ∧ ∃ bs : List Nat, bs.length = l ∧ bs.sum ≤ B ∧ ∀ i b, bs[i]? = some b → ∃ a us, q = some a ∧ us.length = P.cellsOf e ∧ reads w (a.add (i * P.cellsOf e)) us ∧ Rb enc P w e us b := by
  obtain ⟨base, spare, held, n, y, hy, hfit⟩ := h
  rcases DataW.trod_slice ht hy with ⟨h1, _⟩ | ⟨a, len, cap, elems, rest, n', _, h1, rfl, _, hlc, hcm, hel, hx, _, _⟩
  · simp at h1
    obtain ⟨rfl, rfl, rfl⟩ := h1
    exact ⟨Nat.zero_le _, [], rfl, Nat.zero_le _, fun i b hi => by simp at hi⟩
  · simp at h1
    obtain ⟨rfl, rfl, rfl⟩ := h1
    simp only [Rows.uptoBulk] at hfit
    have h5 := bulk_len (elems.map (·.1))
    have h6 := bulk_sum (elems.map (·.1))
    rw [List.length_map] at h5
    refine ⟨by omega, (elems.map (·.1)).map Rows.uptoBulk, by simpa using hel, by omega, fun i b hi => ?_⟩
    have hlt := get_lt hi
    simp only [List.length_map] at hlt
    have h3 := hx i (by omega)
    rw [List.getElem?_eq_getElem (by omega)] at h3
    obtain ⟨vs, hv, hy⟩ := Option.bind_eq_some_iff.1 h3
    have hcs := World.cells?_some hv
    refine ⟨a, vs, rfl, hcs.2.1, fun j v hj => (hcs.2.2 j (by rw [← hcs.2.1]; exact get_lt hj)).trans hj, base, spare, held, n', _, hy, ?_⟩
    simp only [List.getElem?_map, List.getElem?_eq_getElem hlt, Option.map_some, Option.some.injEq] at hi
    omega
/-- a slice of plain data -/
theorem Rb.flat {α : Type} {E : En α} {t e : TypeId} {q : Option Addr} {l c B : Nat} (h : Rb enc P w t [.slice q l c] B) (ht : P.underlying t = some (.slice e)) (hc : P.cellsOf e = E.k) (hel : ∀ us b, Rb enc P w e us b → ∃ x : α, us = E.enc x) : l ≤ B ∧ ∃ xs, RE E w q l xs := by
  obtain ⟨h1, bs, hb, _, hx⟩ := h.slice ht
  refine ⟨h1, RE.of' fun i hi => ?_⟩
  obtain ⟨b, hbi⟩ := get_ex (l := bs) (i := i) (by omega)
  obtain ⟨a, us, ha, _, hr, hg⟩ := hx i b hbi
  obtain ⟨x, rfl⟩ := hel us b hg
  rw [hc] at hr
  exact ⟨a, x, ha, hr⟩
/-- a slice of slices of plain data -/
theorem Rb.nest {α : Type} {E : En α} {t t' e : TypeId} {q : Option Addr} {l c B : Nat} (h : Rb enc P w t [.slice q l c] B) (ht : P.underlying t = some (.slice t')) (ht' : P.underlying t' = some (.slice e)) (hc' : P.cellsOf t' = 1) (hk' : flatK P 1 t' = some [.sl]) (hc : P.cellsOf e = E.k) (hel : ∀ us b, Rb enc P w e us b → ∃ x : α, us = E.enc x) : l ≤ B ∧ ∃ xss, RRs E w q l xss := by
  obtain ⟨h1, bs, hb, _, hx⟩ := h.slice ht
  obtain ⟨ps, hl, hp⟩ := list_of (R := fun i (x : Hd × List α) => (∃ a, q = some a ∧ reads w (a.add (i * 1)) (En.hd.enc x.1)) ∧ RE E w x.1.1 x.1.2.1 x.2) (l := l) (fun i hi => by
    obtain ⟨b, hbi⟩ := get_ex (l := bs) (i := i) (by omega)
    obtain ⟨a, us, ha, _, hr, hg⟩ := hx i b hbi
    rw [hc'] at hr
    have : exKs [.sl] fun vs => us = vs := areK_ex (hg.kinds 1 hk') rfl
    obtain ⟨q', l', c', rfl⟩ := this
    obtain ⟨_, xs, hxs⟩ := hg.flat ht' hc hel
    exact ⟨((q', l', c'), xs), ⟨a, ha, hr⟩, hxs⟩)
  refine ⟨h1, ps.map (·.2), ps.map (·.1), ⟨by simpa using hl, fun i x hi => ?_⟩, by simp, fun i x xs hi hxs => ?_⟩
  · simp only [List.getElem?_map, Option.map_eq_some_iff] at hi
    obtain ⟨y, hy, rfl⟩ := hi
    exact (hp i y hy).1
  · simp only [List.getElem?_map, Option.map_eq_some_iff] at hi hxs
    obtain ⟨y, hy, rfl⟩ := hi
    obtain ⟨y', hy', rfl⟩ := hxs
    rw [hy] at hy'; cases hy'
    exact (hp i y hy).2
theorem sum_le : ∀ {a b : List Nat}, a.length = b.length → (∀ (i x y : Nat), a[i]? = some x → b[i]? = some y → x ≤ y) → a.sum ≤ b.sum
  | [], [], _, _ => Nat.le_refl _
  | x :: a, y :: b, hl, h => by
    have h1 := h 0 x y rfl rfl
    have h2 := sum_le (a := a) (b := b) (by simpa using hl) (fun i u v hu hv => h (i + 1) u v (by simpa using hu) (by simpa using hv))
    simp only [List.sum_cons]; omega
  | [], _ :: _, hl, _ => by simp at hl
  | _ :: _, [], hl, _ => by simp at hl
end
theorem sum_at : ∀ {l : List Nat} {i x : Nat}, l[i]? = some x → x ≤ l.sum
  | [], i, x, h => by simp at h
  | y :: l, 0, x, h => by simp at h; subst h; simp
  | y :: l, i + 1, x, h => by
    have := sum_at (l := l) (i := i) (by simpa using h)
    simp only [List.sum_cons]; omega

section
variable {H : Type} {enc : TypeId × Value → H} {w : World}
theorem call_el {us : List Value} {b : Nat} (h : Rb enc Tryd.prog w 120 us b) : ∃ x : Cl, us = En.cl.enc x := by
  have : exKs [.int .i64, .str, .str] fun vs => us = vs := areK_ex (h.kinds 3 (by kernel_rfl)) rfl
  obtain ⟨x, y, z, rfl⟩ := this
  exact ⟨⟨x, y, z⟩, rfl⟩
theorem event_el {us : List Value} {b : Nat} (h : Rb enc Tryd.prog w 63 us b) : ∃ x : Ev, us = En.ev.enc x := by
  have : exKs [.int .i64, .int .i64, .int .i64, .bool] fun vs => us = vs := areK_ex (h.kinds 3 (by kernel_rfl)) rfl
  obtain ⟨x, y, z, u, rfl⟩ := this
  exact ⟨⟨x, y, z, u⟩, rfl⟩
theorem answer_el {us : List Value} {b : Nat} (h : Rb enc Tryd.prog w 117 us b) : ∃ x : An, us = En.an.enc x := by
  have : exKs [.int .i64, .bool, .str] fun vs => us = vs := areK_ex (h.kinds 3 (by kernel_rfl)) rfl
  obtain ⟨x, y, z, rfl⟩ := this
  exact ⟨⟨x, y, z⟩, rfl⟩
theorem lives_open {q : Option Addr} {l c : Nat} (g : Rb enc Tryd.prog w 41 [.slice q l c] 1048576) : l ≤ 1048576 ∧ ∃ css, SL w q l css := by
  obtain ⟨h1, bs, hb, hs, hx⟩ := g.slice Tryd.underlying41
  have hc : Tryd.prog.cellsOf 87 = 6 := by kernel_rfl
  have hc0 : Tryd.prog.cellsOf 81 = 1 := by kernel_rfl
  obtain ⟨css, hl, hp⟩ := list_of (R := fun i (cs : List (List Cl)) => ∃ a qc lc cc qx lx cx qy ly cy p1 p2 qz lz cz, q = some a ∧ reads w (a.add (i * 6)) [.slice qc lc cc, .slice qx lx cx, .slice qy ly cy, .int .i64 p1, .int .i64 p2, .slice qz lz cz] ∧ RRs En.cl w qc lc cs ∧ lc ≤ 1048576) (l := l) (fun i hi => by
    obtain ⟨b, hbi⟩ := get_ex (l := bs) (i := i) (by omega)
    obtain ⟨a, us, ha, _, hr, hg⟩ := hx i b hbi
    rw [hc] at hr
    have : exKs [.sl, .sl, .sl, .int .i64, .int .i64, .sl] fun vs => us = vs := areK_ex (hg.kinds 4 (by kernel_rfl)) rfl
    obtain ⟨q1, l1, c1, q2, l2, c2, q3, l3, c3, z1, z2, q4, l4, c4, rfl⟩ := this
    have hf : Rb enc Tryd.prog w 81 ((([.slice q1 l1 c1, .slice q2 l2 c2, .slice q3 l3 c3, .int .i64 z1, .int .i64 z2, .slice q4 l4 c4] : List Value).drop 0).take (Tryd.prog.cellsOf 81)) b := hg.field Tryd.underlying87 (i := 0) rfl
    rw [hc0] at hf
    obtain ⟨h2, xss, h3⟩ := Rb.nest (E := En.cl) (show Rb enc Tryd.prog w 81 [.slice q1 l1 c1] b from hf) Tryd.underlying81 Tryd.underlying113 (by kernel_rfl) (by kernel_rfl) (by kernel_rfl) fun us b h => call_el h
    have hbs : b ≤ bs.sum := sum_at hbi
    exact ⟨xss, a, q1, l1, c1, q2, l2, c2, q3, l3, c3, z1, z2, q4, l4, c4, ha, hr, h3, by omega⟩)
  exact ⟨h1, css, hl, hp⟩
theorem told_open {q : Option Addr} {l c : Nat} (g : Rb enc Tryd.prog w 44 [.slice q l c] 1048576) : l ≤ 1048576 ∧ ∃ ts, TL w q l ts ∧ tot ts ≤ 1048576 := by
  obtain ⟨h1, bs, hb, hs, hx⟩ := g.slice Tryd.underlying44
  have hc : Tryd.prog.cellsOf 61 = 18 := by kernel_rfl
  have hc0 : Tryd.prog.cellsOf 52 = 1 := by kernel_rfl
  have hc1 : Tryd.prog.cellsOf 53 = 1 := by kernel_rfl
  obtain ⟨ts, hl, hp⟩ := list_of (R := fun i (t : Tl) => (∃ a qe le ce qa la ca b1 j1 j2 j3 j4 j5 j6 j7 b2 j8 j9 j10 j11 j12 qu lu cu, q = some a ∧ reads w (a.add (i * 18)) [.slice qe le ce, .slice qa la ca, .int .i64 t.steps, .bool b1, .int .u64 j1, .int .u64 j2, .int .u64 j3, .int .i64 j4, .int .i64 j5, .int .i64 j6, .int .i64 j7, .bool b2, .int .i64 j8, .int .i64 j9, .int .i64 j10, .int .i64 j11, .int .i64 j12, .slice qu lu cu] ∧ RE En.ev w qe le t.es ∧ RRs En.an w qa la t.an ∧ le ≤ 1048576) ∧ ∀ b, bs[i]? = some b → t.es.length ≤ b) (l := l) (fun i hi => by
    obtain ⟨b, hbi⟩ := get_ex (l := bs) (i := i) (by omega)
    obtain ⟨a, us, ha, _, hr, hg⟩ := hx i b hbi
    rw [hc] at hr
    have : exKs [.sl, .sl, .int .i64, .bool, .int .u64, .int .u64, .int .u64, .int .i64, .int .i64, .int .i64, .int .i64, .bool, .int .i64, .int .i64, .int .i64, .int .i64, .int .i64, .sl] fun vs => us = vs := areK_ex (hg.kinds 4 (by kernel_rfl)) rfl
    obtain ⟨q1, l1, c1, q2, l2, c2, st, b1, j1, j2, j3, j4, j5, j6, j7, b2, j8, j9, j10, j11, j12, q4, l4, c4, rfl⟩ := this
    have hf : Rb enc Tryd.prog w 52 ((([.slice q1 l1 c1, .slice q2 l2 c2, .int .i64 st, .bool b1, .int .u64 j1, .int .u64 j2, .int .u64 j3, .int .i64 j4, .int .i64 j5, .int .i64 j6, .int .i64 j7, .bool b2, .int .i64 j8, .int .i64 j9, .int .i64 j10, .int .i64 j11, .int .i64 j12, .slice q4 l4 c4] : List Value).drop 0).take (Tryd.prog.cellsOf 52)) b := hg.field Tryd.underlying61 (i := 0) rfl
    have hf1 : Rb enc Tryd.prog w 53 ((([.slice q1 l1 c1, .slice q2 l2 c2, .int .i64 st, .bool b1, .int .u64 j1, .int .u64 j2, .int .u64 j3, .int .i64 j4, .int .i64 j5, .int .i64 j6, .int .i64 j7, .bool b2, .int .i64 j8, .int .i64 j9, .int .i64 j10, .int .i64 j11, .int .i64 j12, .slice q4 l4 c4] : List Value).drop 1).take (Tryd.prog.cellsOf 53)) b := hg.field Tryd.underlying61 (i := 1) rfl
    rw [hc0] at hf
    rw [hc1] at hf1
    obtain ⟨h2, es, h3⟩ := Rb.flat (E := En.ev) (show Rb enc Tryd.prog w 52 [.slice q1 l1 c1] b from hf) Tryd.underlying52 (by kernel_rfl) fun us b h => event_el h
    obtain ⟨_, xss, h5⟩ := Rb.nest (E := En.an) (show Rb enc Tryd.prog w 53 [.slice q2 l2 c2] b from hf1) Tryd.underlying53 Tryd.underlying115 (by kernel_rfl) (by kernel_rfl) (by kernel_rfl) fun us b h => answer_el h
    have hbs : b ≤ bs.sum := sum_at hbi
    exact ⟨⟨es, xss, st⟩, ⟨a, q1, l1, c1, q2, l2, c2, b1, j1, j2, j3, j4, j5, j6, j7, b2, j8, j9, j10, j11, j12, q4, l4, c4, ha, hr, h3, h5, by omega⟩, fun b' hb' => by rw [hbi] at hb'; cases hb'; show es.length ≤ b; have := h3.len; omega⟩)
  refine ⟨h1, ts, ⟨hl, fun i t hi => (hp i t hi).1⟩, Nat.le_trans ?_ hs⟩
  unfold tot
  refine sum_le (by simp; omega) fun i x y hx hy => ?_
  simp only [List.getElem?_map, Option.map_eq_some_iff] at hx
  obtain ⟨t, ht, rfl⟩ := hx
  exact (hp i t ht).2 y hy
end
end Go.Proofs.YtjfafkgjcgbgfaaDoor
