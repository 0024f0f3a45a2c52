import Derived.Test.YtibpbbjlecohiaaHp
import Derived.Maps.AppendAt
/-! Slices of elements of several cells, read as lists of plain data. -/
namespace Go.Vc
open Go.RowKit
/-! # small things -/
theorem wrapS {x : Int} (h0 : -9223372036854775808 ≤ x) (h : x ≤ 9223372036854775807) : IntKind.wrap .i64 x = x := by
  simp [IntKind.wrap, IntKind.bits, IntKind.signed]; omega
theorem cell_some {w : World} {p : Addr} {v : Value} (h : w.cell? p = some v) : p.block < w.heap.size := by
  rcases Nat.lt_or_ge p.block w.heap.size with h1 | h1
  · exact h1
  · simp [World.cell?, Array.getElem?_eq_none h1] at h
theorem get_lt {α : Type} {l : List α} {i : Nat} {x : α} (h : l[i]? = some x) : i < l.length := by
  rcases Nat.lt_or_ge i l.length with h1 | h1
  · exact h1
  · rw [List.getElem?_eq_none h1] at h; cases h
theorem get_ex {α : Type} {l : List α} {i : Nat} (h : i < l.length) : ∃ x, l[i]? = some x := ⟨l[i], List.getElem?_eq_getElem h⟩
theorem Chg.cellS {S : Nat → Prop} {w w' : World} (c : Chg S w w') {p : Addr} {v : Value} (h : w.cell? p = some v) (hn : ¬ S p.block) : w'.cell? p = some v := (c.cell (cell_some h) hn).trans h
theorem Chg.readsS {S : Nat → Prop} {w w' : World} (c : Chg S w w') {p : Addr} {vs : List Value} (h : reads w p vs) (hn : ¬ S p.block) : reads w' p vs :=
  fun j v hj => c.cellS (h j v hj) (by rw [add_block]; exact hn)
theorem Chg.readsN {w w' : World} (c : Chg none_ w w') {p : Addr} {vs : List Value} (h : reads w p vs) : reads w' p vs := c.readsS h (fun x => x)
theorem Chg.of_none {w w' : World} (c : Chg none_ w w') (S : Nat → Prop) : Chg S w w' := c.mono fun _ _ h => h.elim
/-- what is turned lies above the first world -/
theorem Chg.up {S : Nat → Prop} {a w w' : World} (h : Chg none_ a w) (c : Chg S w w') (hS : ∀ k, S k → a.heap.size ≤ k) : Chg none_ a w' := h.trans' c fun k hk => .inr (hS k hk)
theorem reads_one' {w : World} {p : Addr} {v : Value} (h : reads w p [v]) : w.cell? p = some v := by
  have := h 0 v rfl
  rwa [add_zero'] at this
theorem reads_at {w : World} {p : Addr} {vs : List Value} (h : reads w p vs) {i : Nat} {v : Value} (hv : vs[i]? = some v) : w.cell? (p.add i) = some v := h i v hv
theorem reads_sub {w : World} {p : Addr} {fl vs : List Value} (h : reads w p fl) (o : Nat) (hv : ∀ j v, vs[j]? = some v → fl[o + j]? = some v) : reads w (p.add o) vs := fun j v hj => by
  rw [Addr.add_add]; exact h _ _ (hv j v hj)
/-! # plain data as cells -/
structure En (α : Type) where
  k : Nat
  enc : α → List Value
  len : ∀ x, (enc x).length = k
  one : ∀ x, ∀ v ∈ enc x, v.oneCell' = true
  pos : 0 < k
def En.flat {α : Type} (E : En α) (xs : List α) : List Value := xs.flatMap E.enc
section
variable {α : Type} {E : En α}
theorem En.flat_len (E : En α) : ∀ xs : List α, (E.flat xs).length = xs.length * E.k
  | [] => by simp [En.flat]
  | x :: xs => by
    have := En.flat_len E xs
    simp only [En.flat] at this ⊢
    rw [List.flatMap_cons, List.length_append, this, E.len, List.length_cons, Nat.succ_mul, Nat.add_comm]
theorem En.flat_app (E : En α) (a b : List α) : E.flat (a ++ b) = E.flat a ++ E.flat b := by simp [En.flat]
theorem En.flat_one (E : En α) (x : α) : E.flat [x] = E.enc x := by simp [En.flat]
theorem En.flat_one' (E : En α) (xs : List α) : ∀ v ∈ E.flat xs, v.oneCell' = true := fun v hv => by
  obtain ⟨x, _, h⟩ := List.mem_flatMap.1 hv
  exact E.one x v h
theorem En.flat_get (E : En α) : ∀ {xs : List α} {i : Nat} {x : α} {j : Nat} {v : Value}, xs[i]? = some x → (E.enc x)[j]? = some v → (E.flat xs)[i * E.k + j]? = some v
  | [], i, x, j, v, h, _ => by simp at h
  | y :: ys, 0, x, j, v, h, hv => by
    simp at h
    subst h
    have := get_lt hv
    simp only [En.flat, List.flatMap_cons, Nat.zero_mul, Nat.zero_add]
    rw [List.getElem?_append_left this]; exact hv
  | y :: ys, i + 1, x, j, v, h, hv => by
    have ih := En.flat_get E (xs := ys) (i := i) (by simpa using h) hv
    simp only [En.flat] at ih ⊢
    rw [List.flatMap_cons, List.getElem?_append_right (by rw [E.len, Nat.succ_mul]; omega), E.len, show (i + 1) * E.k + j - E.k = i * E.k + j by rw [Nat.succ_mul]; omega]
    exact ih
/-- each cell of it is one of an element -/
theorem En.flat_ex (E : En α) {xs : List α} {n : Nat} {v : Value} (h : (E.flat xs)[n]? = some v) : ∃ i j x, n = i * E.k + j ∧ j < E.k ∧ xs[i]? = some x ∧ (E.enc x)[j]? = some v := by
  have hn := get_lt h
  rw [E.flat_len] at hn
  have hk := E.pos
  have h1 : n / E.k < xs.length := (Nat.div_lt_iff_lt_mul hk).2 hn
  obtain ⟨x, hx⟩ := get_ex h1
  have h2 : n % E.k < E.k := Nat.mod_lt _ hk
  have h3 : n / E.k * E.k + n % E.k = n := Nat.div_add_mod' n E.k
  obtain ⟨u, hu⟩ := get_ex (l := E.enc x) (i := n % E.k) (by rw [E.len]; exact h2)
  have := E.flat_get hx hu
  rw [h3, h] at this
  cases this
  exact ⟨_, _, x, h3.symm, h2, hx, hu⟩
theorem En.flat_take (E : En α) : ∀ (xs : List α) (n : Nat), E.flat (xs.take n) = (E.flat xs).take (n * E.k)
  | [], n => by simp [En.flat]
  | x :: xs, 0 => by simp [En.flat]
  | x :: xs, n + 1 => by
    have ih := En.flat_take E xs n
    simp only [En.flat] at ih ⊢
    rw [List.take_succ_cons, List.flatMap_cons, List.flatMap_cons, ih, Nat.succ_mul, Nat.add_comm, ← E.len x, List.take_length_add_append]
theorem En.flat_drop (E : En α) : ∀ (xs : List α) (n : Nat), E.flat (xs.drop n) = (E.flat xs).drop (n * E.k)
  | [], n => by simp [En.flat]
  | x :: xs, 0 => by simp [En.flat]
  | x :: xs, n + 1 => by
    have ih := En.flat_drop E xs n
    simp only [En.flat] at ih ⊢
    rw [List.drop_succ_cons, List.flatMap_cons, ih, Nat.succ_mul, Nat.add_comm, ← E.len x, List.drop_length_add_append]
end
def En.int : En Int := ⟨1, fun x => [.int .i64 x], fun _ => rfl, fun _ v hv => by simp at hv; subst hv; rfl, by decide⟩
def En.str : En ByteArray := ⟨1, fun x => [.string x], fun _ => rfl, fun _ v hv => by simp at hv; subst hv; rfl, by decide⟩
abbrev Hd := Option Addr × Nat × Nat
def En.hd : En Hd := ⟨1, fun x => [.slice x.1 x.2.1 x.2.2], fun _ => rfl, fun _ v hv => by simp at hv; subst hv; rfl, by decide⟩
/-! # slices that may be read -/
structure RE {α : Type} (E : En α) (w : World) (q : Option Addr) (l : Nat) (xs : List α) : Prop where
  len : xs.length = l
  get : ∀ i x, xs[i]? = some x → ∃ a, q = some a ∧ reads w (a.add (i * E.k)) (E.enc x)
section
variable {α : Type} {E : En α} {w w' : World} {q : Option Addr} {l : Nat} {xs : List α}
theorem RE.nil (E : En α) (w : World) (q : Option Addr) : RE E w q 0 [] := ⟨rfl, fun i x h => by simp at h⟩
theorem RE.ex (h : RE E w q l xs) {i : Nat} (hi : i < l) : ∃ a x, q = some a ∧ xs[i]? = some x ∧ reads w (a.add (i * E.k)) (E.enc x) := by
  obtain ⟨x, hx⟩ := get_ex (l := xs) (i := i) (by rw [h.len]; exact hi)
  obtain ⟨a, ha, hr⟩ := h.get i x hx
  exact ⟨a, x, ha, hx, hr⟩
theorem RE.chgS (h : RE E w q l xs) {S : Nat → Prop} (c : Chg S w w') (hS : ∀ a, q = some a → ¬ S a.block) : RE E w' q l xs :=
  ⟨h.len, fun i x hx => by
    obtain ⟨a, ha, hr⟩ := h.get i x hx
    exact ⟨a, ha, c.readsS hr (by rw [add_block]; exact hS a ha)⟩⟩
theorem RE.chg (h : RE E w q l xs) (c : Chg none_ w w') : RE E w' q l xs := h.chgS c fun _ _ x => x
theorem RE.drew (h : RE E w q l xs) : RE E w.drew q l xs := h.chg (Chg.refl none_ w).drew
/-- the whole as cells -/
theorem RE.flat (h : RE E w q l xs) (hl : l ≠ 0) : ∃ a, q = some a ∧ reads w a (E.flat xs) := by
  obtain ⟨a, x, ha, _, _⟩ := h.ex (i := 0) (by omega)
  refine ⟨a, ha, fun n v hv => ?_⟩
  obtain ⟨i, j, y, rfl, hj, hy, hyv⟩ := E.flat_ex hv
  obtain ⟨a', ha', hr⟩ := h.get i y hy
  rw [ha] at ha'
  cases ha'
  have := hr j v hyv
  rwa [Addr.add_add] at this
theorem RE.of_flat {a : Addr} (hl : xs.length = l) (hr : reads w a (E.flat xs)) : RE E w (some a) l xs :=
  ⟨hl, fun _ _ hx => ⟨a, rfl, reads_sub hr _ fun _ _ hj => E.flat_get hx hj⟩⟩
theorem RE.take (h : RE E w q l xs) {n : Nat} (hn : n ≤ l) : RE E w q n (xs.take n) :=
  ⟨by rw [List.length_take, h.len]; omega, fun i x hx => by
    rw [List.getElem?_take] at hx
    split at hx
    · exact h.get i x hx
    · cases hx⟩
theorem RE.cut (h : RE E w q l xs) {n c : Nat} (hn : n ≤ l) (hc : l ≤ c) : RE E w (cutP q c n E.k) (l - n) (xs.drop n) := by
  refine ⟨by rw [List.length_drop, h.len], fun i x hx => ?_⟩
  rw [List.getElem?_drop] at hx
  have hlt := get_lt hx
  rw [h.len] at hlt
  obtain ⟨a, rfl, hr⟩ := h.get _ x hx
  unfold cutP
  rw [if_neg (by omega)]
  refine ⟨_, rfl, ?_⟩
  rw [Addr.add_add, ← Nat.add_mul]; exact hr
end
/-! # slices of the call's own -/
def qB : Option Addr → Option Nat := fun q => q.map (·.block)
structure SE {α : Type} (E : En α) (w : World) (base : Nat) (e : TypeId) (q : Option Addr) (l c : Nat) (xs : List α) : Prop where
  len : xs.length = l
  ex : (q = none ∧ l = 0 ∧ c = 0) ∨ ∃ g off cur, q = some ⟨g, off, none⟩ ∧ base ≤ g ∧ Blk w g e cur ∧ l ≤ c ∧ c ≤ maxLen ∧ off + c * E.k ≤ cur.size ∧ ∀ n v, (E.flat xs)[n]? = some v → cur[off + n]? = some v
section
variable {α : Type} {E : En α} {w w' : World} {base : Nat} {e : TypeId} {q : Option Addr} {l c : Nat} {xs : List α}
theorem SE.nil (E : En α) (w : World) (base : Nat) (e : TypeId) : SE E w base e none 0 0 [] := ⟨rfl, .inl ⟨rfl, rfl, rfl⟩⟩
theorem SE.le (h : SE E w base e q l c xs) : l ≤ c := by
  rcases h.ex with ⟨_, rfl, rfl⟩ | ⟨_, _, _, _, _, _, h1, _⟩
  · exact Nat.le_refl _
  · exact h1
theorem SE.lt (h : SE E w base e q l c xs) {g : Nat} (hg : qB q = some g) : g < w.heap.size ∧ base ≤ g := by
  rcases h.ex with ⟨rfl, _⟩ | ⟨g', off, cur, rfl, hb, hc, _⟩
  · simp [qB] at hg
  · simp [qB] at hg
    subst hg
    exact ⟨hc.lt, hb⟩
theorem SE.chg (h : SE E w base e q l c xs) {S : Nat → Prop} (k : Chg S w w') (hS : ∀ g, qB q = some g → ¬ S g) : SE E w' base e q l c xs :=
  ⟨h.len, h.ex.imp id fun ⟨g, off, cur, hq, hb, hc, r⟩ => ⟨g, off, cur, hq, hb, k.blk hc (hS g (by rw [hq]; rfl)), r⟩⟩
theorem SE.chgN (h : SE E w base e q l c xs) (k : Chg none_ w w') : SE E w' base e q l c xs := h.chg k fun _ _ x => x
theorem SE.drew (h : SE E w base e q l c xs) : SE E w.drew base e q l c xs := h.chgN (Chg.refl none_ w).drew
theorem SE.lower (h : SE E w base e q l c xs) {b : Nat} (hb : b ≤ base) : SE E w b e q l c xs :=
  ⟨h.len, h.ex.imp id fun ⟨g, off, cur, hq, h1, r⟩ => ⟨g, off, cur, hq, Nat.le_trans hb h1, r⟩⟩
theorem SE.re (h : SE E w base e q l c xs) : RE E w q l xs := by
  refine ⟨h.len, fun i x hx => ?_⟩
  rcases h.ex with ⟨_, h0, _⟩ | ⟨g, off, cur, rfl, _, hc, _, _, _, hr⟩
  · have := get_lt hx; have := h.len; omega
  · refine ⟨_, rfl, fun j v hj => ?_⟩
    rw [Addr.add_add, add_mk, hc.cell]
    exact hr _ v (E.flat_get hx hj)
theorem SE.take (h : SE E w base e q l c xs) {n : Nat} (hn : n ≤ l) : SE E w base e q n c (xs.take n) := by
  refine ⟨by rw [List.length_take, h.len]; omega, ?_⟩
  rcases h.ex with ⟨rfl, rfl, rfl⟩ | ⟨g, off, cur, rfl, hb, hc, h1, h2, h3, hr⟩
  · exact .inl ⟨rfl, by omega, rfl⟩
  · refine .inr ⟨g, off, cur, rfl, hb, hc, by omega, h2, h3, fun i v hv => hr i v ?_⟩
    rw [E.flat_take, List.getElem?_take] at hv
    split at hv
    · exact hv
    · cases hv
theorem SE.cut (h : SE E w base e q l c xs) {n : Nat} (hn : n ≤ l) : SE E w base e (cutP q c n E.k) (l - n) (c - n) (xs.drop n) := by
  refine ⟨by rw [List.length_drop, h.len], ?_⟩
  rcases h.ex with ⟨rfl, rfl, rfl⟩ | ⟨g, off, cur, rfl, hb, hc, h1, h2, h3, hr⟩
  · exact .inl ⟨by simp [cutP], by omega, by omega⟩
  · refine .inr ?_
    unfold cutP
    split
    · refine ⟨g, off, cur, rfl, hb, hc, by omega, by omega, ?_, fun i v hv => ?_⟩
      · have : (c - n) * E.k ≤ c * E.k := Nat.mul_le_mul_right _ (by omega)
        omega
      · have : xs.drop n = [] := List.eq_nil_of_length_eq_zero (by rw [List.length_drop, h.len]; omega)
        rw [this] at hv; simp [En.flat] at hv
    · have hm : n * E.k + (c - n) * E.k = c * E.k := by rw [← Nat.add_mul]; congr 1; omega
      refine ⟨g, off + n * E.k, cur, by simp [add_mk], hb, hc, by omega, by omega, by omega, fun i v hv => ?_⟩
      rw [E.flat_drop, List.getElem?_drop] at hv
      rw [Nat.add_assoc]
      exact hr _ v hv
/-- an element may be written -/
theorem SE.can (h : SE E w base e q l c xs) {i : Nat} (hi : i < l) : ∃ a, q = some a ∧ ∀ o n, o + n ≤ E.k → canStore w ((a.add (i * E.k)).add o) n := by
  rcases h.ex with ⟨_, h0, _⟩ | ⟨g, off, cur, rfl, _, hc, h1, _, h3, _⟩
  · omega
  · refine ⟨_, rfl, fun o n hn => ?_⟩
    rw [Addr.add_add, add_mk]
    refine hc.canStore ?_
    have : (i + 1) * E.k ≤ c * E.k := Nat.mul_le_mul_right _ (by omega)
    rw [Nat.succ_mul] at this
    omega
theorem putC_flat {xs : List α} {cur : Array Value} {off i o : Nat} {x x' : α} {vs : List Value} (hx : xs[i]? = some x) (hv : ∀ j, (E.enc x')[j]? = if o ≤ j ∧ j < o + vs.length then vs[j - o]? else (E.enc x)[j]?) (ho : o + vs.length ≤ E.k)
    (hr : ∀ n v, (E.flat xs)[n]? = some v → cur[off + n]? = some v) (hs : off + xs.length * E.k ≤ cur.size) : ∀ n v, (E.flat (xs.set i x'))[n]? = some v → (putC cur (off + (i * E.k + o)) vs)[off + n]? = some v := by
  intro n v hn
  obtain ⟨i', j, y, rfl, hj, hy, hyv⟩ := E.flat_ex hn
  have hlt := get_lt hx
  have hsz : (i + 1) * E.k ≤ xs.length * E.k := Nat.mul_le_mul_right _ hlt
  rw [Nat.succ_mul] at hsz
  rw [putC_get _ _ _ _ (by omega)]
  by_cases hii : i' = i
  · subst hii
    rw [List.getElem?_set_self hlt] at hy
    cases hy
    rw [hv] at hyv
    by_cases hc : o ≤ j ∧ j < o + vs.length
    · rw [if_pos hc] at hyv
      rw [if_pos (by omega), show off + (i' * E.k + j) - (off + (i' * E.k + o)) = j - o by omega]
      exact hyv
    · rw [if_neg hc] at hyv
      rw [if_neg (by omega)]
      exact hr _ v (E.flat_get hx hyv)
  · rw [List.getElem?_set_ne (Ne.symm hii)] at hy
    have hne : ¬ (off + (i * E.k + o) ≤ off + (i' * E.k + j) ∧ off + (i' * E.k + j) < off + (i * E.k + o) + vs.length) := by
      rcases Nat.lt_or_gt_of_ne hii with h1 | h1
      · have : (i' + 1) * E.k ≤ i * E.k := Nat.mul_le_mul_right _ h1
        rw [Nat.succ_mul] at this; omega
      · have : (i + 1) * E.k ≤ i' * E.k := Nat.mul_le_mul_right _ h1
        rw [Nat.succ_mul] at this; omega
    rw [if_neg hne]
    exact hr _ v (E.flat_get hy hyv)
/-- some cells of an element, written over -/
theorem SE.setAt (h : SE E w base e q l c xs) {a : Addr} (ha : q = some a) {i o : Nat} {x x' : α} {vs : List Value} (hx : xs[i]? = some x) (ho : o + vs.length ≤ E.k) (hv : ∀ j, (E.enc x')[j]? = if o ≤ j ∧ j < o + vs.length then vs[j - o]? else (E.enc x)[j]?)
    (e1 : w' = setCells ((a.add (i * E.k)).add o) 0 vs w) : SE E w' base e q l c (xs.set i x') ∧ Chg (fun k => some k = qB q) w w' := by
  subst ha
  rcases h.ex with ⟨h0, _⟩ | ⟨g, off, cur, hq, hb, hc, h1, h2, h3, hr⟩
  · cases h0
  · cases hq
    rw [Addr.add_add, add_mk] at e1
    refine ⟨⟨by simp [h.len], .inr ⟨g, off, _, rfl, hb, hc.sets' e1, h1, h2, by rw [putC_size]; exact h3, ?_⟩⟩, (Chg.refl _ w).sets' e1 (.inl rfl)⟩
    rw [Nat.add_zero]
    have : l * E.k ≤ c * E.k := Nat.mul_le_mul_right _ h1
    exact putC_flat hx hv ho hr (by rw [h.len]; omega)
/-- an element, written over -/
theorem SE.set (h : SE E w base e q l c xs) {a : Addr} (ha : q = some a) {i : Nat} {x' : α} (hi : i < l) (e1 : w' = setCells (a.add (i * E.k)) 0 (E.enc x') w) : SE E w' base e q l c (xs.set i x') ∧ Chg (fun k => some k = qB q) w w' := by
  obtain ⟨x, hx⟩ := get_ex (l := xs) (i := i) (by rw [h.len]; exact hi)
  refine h.setAt ha hx (o := 0) (vs := E.enc x') (by rw [E.len]; omega) (fun j => ?_) (by rw [add_zero']; exact e1)
  by_cases hj : j < (E.enc x').length
  · rw [if_pos (by omega)]; rfl
  · rw [if_neg (by omega), List.getElem?_eq_none (by omega), List.getElem?_eq_none (by rw [E.len] at hj ⊢; omega)]
/-- a new block -/
theorem SE.lit {b : Nat} {cs : Array Value} (hb : Blk w b e cs) (hbase : base ≤ b) (hcs : ∀ (n : Nat) (v : Value), (E.flat xs)[n]? = some v → cs[n]? = some v) (hl : xs.length = l) (hlc : l ≤ c) (hm : c ≤ maxLen) (hs : c * E.k ≤ cs.size) : SE E w base e (some ⟨b, 0, none⟩) l c xs :=
  ⟨hl, .inr ⟨b, 0, cs, rfl, hbase, hb, hlc, hm, by omega, fun n v hv => by rw [Nat.zero_add]; exact hcs n v hv⟩⟩
theorem madeCells_get (z : Array Value) (hz : 0 < z.size) (n i : Nat) (hi : i < n * z.size) : (madeCells z (n * z.size))[i]? = z[i % z.size]? := by
  have hm : i % z.size < z.size := Nat.mod_lt _ hz
  simp [madeCells, hi, hm]
theorem SE.made {b : Nat} {z : Array Value} {x : α} {n : Nat} (hb : Blk w b e (madeCells z (n * E.k))) (hz : E.enc x = z.toList) (hbase : base ≤ b) (hm : n ≤ maxLen) : SE E w base e (some ⟨b, 0, none⟩) n n (List.replicate n x) := by
  have hk : z.size = E.k := by rw [← E.len x, hz]; simp
  have hp := E.pos
  refine SE.lit hb hbase (fun m v hv => ?_) (by simp) (Nat.le_refl _) hm (by simp [madeCells])
  obtain ⟨i, j, y, rfl, hj, hy, hyv⟩ := E.flat_ex hv
  have hi := get_lt hy
  rw [List.getElem?_replicate] at hy
  split at hy
  · cases hy
    rw [← hk]
    have h1 : i * z.size + j < n * z.size := by
      rw [List.length_replicate] at hi
      have : (i + 1) * z.size ≤ n * z.size := Nat.mul_le_mul_right _ hi
      rw [Nat.succ_mul] at this; omega
    rw [madeCells_get z (by omega) n _ h1, Nat.add_comm, Nat.add_mul_mod_self_right, Nat.mod_eq_of_lt (by omega)]
    rw [hz] at hyv
    simpa using hyv
  · cases hy
/-! # append -/
theorem run_append_off {P : Program} (w : World) (t ty e : TypeId) (i : TypeInfo) (ht : P.underlying t = some (.slice e)) (hi : P.info? e = some i)
    (g off sLen sCap : Nat) (cur : Array Value) (hg : w.heap[g]? = some (.cells cur e (0, 0)))
    (a : Addr) (m c : Nat) (news : List Value) (hl : news.length = m * i.size) (hnews : ∀ j u, news[j]? = some u → w.cell? (a.add j) = some u) (h1 : ∀ u ∈ news, u.oneCell' = true)
    (hroom : sLen + m ≤ sCap) (hfit : off + sLen * i.size + news.length ≤ cur.size) :
    (Builtin.append_ #[t, t] ty #[.slice (some ⟨g, off, none⟩) sLen sCap, .slice (some a) m c]).run P w =
      .ok (.slice (some ⟨g, off, none⟩) (sLen + m) sCap) (w.setRow g (cur.toList.take (off + sLen * i.size) ++ news ++ cur.toList.drop (off + sLen * i.size + news.length)).toArray) := by
  have hf := run_firstCells_some (P := P) w i.size m a m c news hl hnews
  have hst := run_storeCells_at P g (off + sLen * i.size) e news 0 cur w hg (by simpa using hfit) h1
  simp only [Nat.add_zero] at hst
  simp [Builtin.append_, run_underlying ht, sizeOf, typeInfo, hi, Builtin.lenOf, hroom, hf, add_mk, hst]
theorem run_append_zero {P : Program} (w : World) (t ty e : TypeId) (i : TypeInfo) (ht : P.underlying t = some (.slice e)) (hi : P.info? e = some i) (q : Option Addr) (l c : Nat) (hle : l ≤ c) (q' : Option Addr) (c' : Nat) :
    (Builtin.append_ #[t, t] ty #[.slice q l c, .slice q' 0 c']).run P w = .ok (.slice q l c) w := by
  cases q <;> cases q' <;> simp [Builtin.append_, run_underlying ht, sizeOf, typeInfo, hi, Builtin.lenOf, hle, Builtin.firstCells, loadCells, loadCellsFrom, storeCells]
/-- what the type table says of an element type -/
def ElemOk (P : Program) (t e : TypeId) (k bytes : Nat) : Prop := P.underlying t = some (.slice e) ∧ ∃ z, (P.info? e).map (fun j => (j.size, j.zero, j.bytes)) = some (k, some z, bytes) ∧ z.cells.size = k
theorem SE.append {P : Program} {t ty : TypeId} {bytes m c2 : Nat} {q2 : Option Addr} {news : List α} (h : SE E w base e q l c xs) (ht : ElemOk P t e E.k bytes)
    (hb : RE E w q2 m news) (h63 : l + m ≤ maxLen) (hby : (l + m) * bytes ≤ 140737488355328) (hbase : base ≤ w.heap.size) :
    ∃ q' c' w', (Builtin.append_ #[t, t] ty #[.slice q l c, .slice q2 m c2]).run P w = .ok (.slice q' (l + m) c') w' ∧ SE E w' base e q' (l + m) c' (xs ++ news) ∧
      Chg (fun k => some k = qB q) w w' ∧ (qB q' = qB q ∨ qB q' = some w.heap.size) ∧ SE E w' base e q l c xs ∧ (q ≠ none → q' ≠ none) ∧ (m ≠ 0 → q' ≠ none) := by
  obtain ⟨ht, z, hi, hz⟩ := ht
  have hp := E.pos
  cases hj : P.info? e with
  | none => rw [hj] at hi; simp at hi
  | some j =>
    rw [hj] at hi
    simp at hi
    obtain ⟨hs, hzero, hbt⟩ := hi
    by_cases hm : m = 0
    · subst hm
      have hn : news = [] := List.eq_nil_of_length_eq_zero hb.len
      subst hn
      exact ⟨q, c, w, run_append_zero w t ty e j ht hj q l c h.le q2 c2, by simpa using h, Chg.refl _ _, .inl rfl, h, fun hx => hx, fun hx => absurd rfl hx⟩
    obtain ⟨a, rfl, hnews⟩ := hb.flat hm
    have hnl : (E.flat news).length = m * E.k := by rw [E.flat_len, hb.len]
    have hxl : (E.flat xs).length = l * E.k := by rw [E.flat_len, h.len]
    have hlen : (xs ++ news).length = l + m := by simp [h.len, hb.len]
    have hflat : E.flat (xs ++ news) = E.flat xs ++ E.flat news := E.flat_app xs news
    have hnews' : ∀ i u, (E.flat news)[i]? = some u → w.cell? (a.add i) = some u := hnews
    have fresh : ∀ old, old < l + m → ∀ S, SE E (w.drew.alloc (.cells ((E.flat xs).toArray ++ (E.flat news).toArray ++ Builtin.zeroCells z.cells (grownCap w (l + m) old e - (l + m))) e)) base e (some ⟨w.heap.size, 0, none⟩) (l + m) (grownCap w (l + m) old e) (xs ++ news) ∧
        Chg S w (w.drew.alloc (.cells ((E.flat xs).toArray ++ (E.flat news).toArray ++ Builtin.zeroCells z.cells (grownCap w (l + m) old e - (l + m))) e)) := fun old ho S => by
      have hge := grownCap_ge w (l + m) old e
      have hcm : grownCap w (l + m) old e ≤ maxLen := grownCap_le_maxLen w (l + m) old e h63
      refine ⟨⟨hlen, .inr ⟨w.heap.size, 0, _, rfl, hbase, Blk.new w.drew _ _, hge, hcm, ?_, fun i u hu => ?_⟩⟩, (Chg.refl S w).drew.alloc _⟩
      · simp only [Array.size_append, List.size_toArray, size_zeroCells, hz, hxl, hnl]
        rw [← Nat.add_mul, ← Nat.add_mul]
        have : l + m + (grownCap w (l + m) old e - (l + m)) = grownCap w (l + m) old e := by omega
        rw [this]; omega
      · rw [Nat.zero_add]
        have : i < (E.flat (xs ++ news)).length := get_lt hu
        rw [hflat, List.length_append] at this
        rw [Array.getElem?_append_left (by simpa using this), ← hu, hflat]
        simp
    rcases h.ex with ⟨rfl, rfl, rfl⟩ | ⟨g, off, cur, rfl, hbg, hg, h1, h2, h3, hr⟩
    · have hx0 : xs = [] := List.eq_nil_of_length_eq_zero h.len
      subst hx0
      have hrun := run_append_nil (P := P) w t ty e j z ht hj hzero a m c2 (E.flat news) (by rw [hs]; omega) hnews' (by omega) (by simp only [maxLen] at h63; omega) (by rw [hbt]; simp only [Nat.zero_add] at hby; omega)
      obtain ⟨f1, f2⟩ := fresh 0 (by omega) (fun k => some k = qB none)
      have e0 : E.flat ([] : List α) = [] := rfl
      simp only [Nat.zero_add, List.nil_append, e0, Array.empty_append] at f1 f2 hrun ⊢
      exact ⟨_, _, _, hrun, f1, f2, .inr rfl, SE.nil E _ _ _, fun hx => absurd rfl hx, fun _ => by simp⟩
    · by_cases hroom : l + m ≤ c
      · have hmul : (l + m) * E.k ≤ c * E.k := Nat.mul_le_mul_right _ hroom
        rw [Nat.add_mul] at hmul
        have hrun := run_append_off (P := P) w t ty e j ht hj g off l c cur hg a m c2 (E.flat news) (by rw [hs]; omega) hnews' (E.flat_one' news) hroom (by rw [hs]; omega)
        suffices hh : SE E _ base e (some ⟨g, off, none⟩) (l + m) c (xs ++ news) from ⟨_, _, _, hrun, hh, ⟨rfl, rfl, rfl, by simp [World.setRow], fun k _ hk => setRow_other w g k _ (fun e => hk (by simp [qB, e]))⟩, .inl rfl, by
          have := hh.take (n := l) (by omega)
          rwa [← h.len, List.take_left, h.len] at this, fun _ => by simp, fun _ => by simp⟩
        refine ⟨hlen, .inr ⟨g, off, _, rfl, hbg, setRow_heap w g cur _ e _ hg, hroom, h2, ?_, fun i u hu => ?_⟩⟩
        · rw [hs]
          simp only [List.size_toArray, List.length_append, List.length_take, List.length_drop, Array.length_toList]
          omega
        · rw [hs]
          rw [hflat] at hu
          simp only [List.getElem?_toArray, List.append_assoc]
          rcases Nat.lt_or_ge i (E.flat xs).length with h4 | h4
          · rw [List.getElem?_append_left h4] at hu
            rw [List.getElem?_append_left (by simp; omega), List.getElem?_take, if_pos (by omega), ← hr i u hu]
            simp
          · rw [List.getElem?_append_right h4] at hu
            have hin := get_lt hu
            rw [List.getElem?_append_right (by simp; omega), List.length_take,
              show off + i - min (off + l * E.k) cur.toList.length = i - (E.flat xs).length by rw [Array.length_toList]; omega, List.getElem?_append_left hin]
            exact hu
      · have holds : ∀ i u, (E.flat xs)[i]? = some u → w.cell? ((⟨g, off, none⟩ : Addr).add i) = some u := fun i u hu => by rw [add_mk, hg.cell, hr i u hu]
        have hrun := run_append_grow (P := P) w t ty e j z ht hj hzero ⟨g, off, none⟩ l c (E.flat xs) (by rw [hs]; omega) holds a m c2 (E.flat news) (by rw [hs]; omega) hnews' (by omega) (by simp only [maxLen] at h63; omega) (growslice_fits (by omega) (by rw [hbt]; exact hby))
        obtain ⟨f1, f2⟩ := fresh c (by omega) (fun k => some k = qB (some ⟨g, off, none⟩))
        exact ⟨_, _, _, hrun, f1, f2, .inr rfl, h.chg ((Chg.refl none_ w).drew.alloc _) (fun _ _ hf => hf), fun _ => by simp, fun _ => by simp⟩
/-- one element, laid in a block of its own, behind them -/
theorem SE.append1 {P : Program} {t ty : TypeId} {bytes b : Nat} {x : α} (h : SE E w base e q l c xs) (ht : ElemOk P t e E.k bytes) (hb : Blk w b e (E.enc x).toArray)
    (h63 : l + 1 ≤ maxLen) (hby : (l + 1) * bytes ≤ 140737488355328) (hbase : base ≤ w.heap.size) :
    ∃ q' c' w', (Builtin.append_ #[t, t] ty #[.slice q l c, .slice (some ⟨b, 0, none⟩) 1 1]).run P w = .ok (.slice q' (l + 1) c') w' ∧ SE E w' base e q' (l + 1) c' (xs ++ [x]) ∧
      Chg (fun k => some k = qB q) w w' ∧ (qB q' = qB q ∨ qB q' = some w.heap.size) ∧ q' ≠ none := by
  obtain ⟨q', c', w', h1, h2, h3, h4, _, _, h5⟩ := h.append (t := t) (ty := ty) (q2 := some ⟨b, 0, none⟩) (m := 1) (news := [x]) (c2 := 1) ht (RE.of_flat rfl (by rw [E.flat_one]; exact hb.reads0)) h63 hby hbase
  exact ⟨q', c', w', h1, h2, h3, h4, h5 (by decide)⟩
end
end Go.Vc
