import Derived.Test.YtnloecggngmcjaaHp
/-! Links in a ring, on blocks known whole. -/
namespace Go.Vc.Ring
open Go.Vc Go.RowKit
abbrev ad (b : Nat) : Addr := ⟨b, 0, none⟩
def upd {α : Type} (f : Nat → α) (a : Nat) (b : α) : Nat → α := fun x => if x = a then b else f x
theorem upd_same {α : Type} (f : Nat → α) (a : Nat) (b : α) : upd f a b a = b := by simp [upd]
theorem upd_ne {α : Type} (f : Nat → α) {a x : Nat} (b : α) (h : x ≠ a) : upd f a b x = f x := by simp [upd, h]
structure G where
  pv : Nat → Nat
  nx : Nat → Nat
  rg : Nat → Int
  mr : Nat → Bool
abbrev ndA (p n : Nat) (r : Int) (m : Bool) : Array Value := #[.pointer (some (ad p)), .pointer (some (ad n)), .int .i64 r, .bool m]
def G.nd (g : G) (x : Nat) : Array Value := ndA (g.pv x) (g.nx x) (g.rg x) (g.mr x)
def Nodes (t : TypeId) (w : World) (S : Nat → Prop) (g : G) : Prop := ∀ x, S x → Blk w x t (g.nd x)
section
variable {t : TypeId} {w w1 : World} {S : Nat → Prop} {g : G}
theorem Nodes.blk (h : Nodes t w S g) {x : Nat} (hx : S x) : Blk w x t (ndA (g.pv x) (g.nx x) (g.rg x) (g.mr x)) := h x hx
theorem Nodes.mono (h : Nodes t w S g) {S' : Nat → Prop} (hs : ∀ x, S' x → S x) : Nodes t w S' g := fun x hx => h x (hs x hx)
theorem Nodes.chg {S' : Nat → Prop} (h : Nodes t w S g) (c : Chg S' w w1) (hs : ∀ x, S x → ¬ S' x) : Nodes t w1 S g := fun x hx => c.blk (h x hx) (hs x hx)
theorem Nodes.drew (h : Nodes t w S g) : Nodes t w.drew S g := h
theorem Nodes.new' (h : Nodes t w S g) {t' : TypeId} {cs : Array Value} (e : w1 = w.alloc (.cells cs t')) : Nodes t w1 S g := fun x hx => (h x hx).new' e
theorem Nodes.sets (h : Nodes t w S g) {a o : Nat} {v : Value} {g' : G} (e : w1 = setCells (⟨a, o, none⟩ : Addr) 0 [v] w) (ho : g'.nd a = (g.nd a).setIfInBounds o v) (hne : ∀ x, x ≠ a → g'.nd x = g.nd x) : Nodes t w1 S g' := fun x hx => by
  by_cases hxa : x = a
  · subst hxa
    have := (h x hx).sets' (o := o) e
    rw [Nat.add_zero, putC, putC] at this
    rw [ho]; exact this
  · rw [hne x hxa]; exact (h x hx).far' e hxa
theorem Nodes.setPv (h : Nodes t w S g) {a b : Nat} (e : w1 = setCells (ad a) 0 [.pointer (some (ad b))] w) : Nodes t w1 S { g with pv := upd g.pv a b } :=
  h.sets e (by simp [G.nd, ndA, upd]) (fun x hx => by simp [G.nd, ndA, upd, hx])
theorem Nodes.setNx (h : Nodes t w S g) {a b : Nat} (e : w1 = setCells ((ad a).add 1) 0 [.pointer (some (ad b))] w) : Nodes t w1 S { g with nx := upd g.nx a b } :=
  h.sets (by rw [add_mk, Nat.zero_add] at e; exact e) (by simp [G.nd, ndA, upd]) (fun x hx => by simp [G.nd, ndA, upd, hx])
theorem Nodes.setMk (h : Nodes t w S g) {a : Nat} {b : Bool} (e : w1 = setCells ((ad a).add 3) 0 [.bool b] w) : Nodes t w1 S { g with mr := upd g.mr a b } :=
  h.sets (by rw [add_mk, Nat.zero_add] at e; exact e) (by simp [G.nd, ndA, upd]) (fun x hx => by simp [G.nd, ndA, upd, hx])
end
section
variable {t : TypeId} {w w1 a : World} {S : Nat → Prop} {g : G} {x : Nat}
theorem Nodes.pv (h : Nodes t w S g) (hx : S x) : w.cell? (ad x) = some (.pointer (some (ad (g.pv x)))) := ((h x hx).cell 0).trans rfl
theorem Nodes.nx (h : Nodes t w S g) (hx : S x) : w.cell? ((ad x).add 1) = some (.pointer (some (ad (g.nx x)))) := ((h x hx).cell0 1).trans rfl
theorem Nodes.rg (h : Nodes t w S g) (hx : S x) : w.cell? ((ad x).add 2) = some (.int .i64 (g.rg x)) := ((h x hx).cell0 2).trans rfl
theorem Nodes.mr (h : Nodes t w S g) (hx : S x) : w.cell? ((ad x).add 3) = some (.bool (g.mr x)) := ((h x hx).cell0 3).trans rfl
theorem Nodes.st0 (h : Nodes t w S g) (hx : S x) : canStore w (ad x) 1 := (h x hx).canStore (by simp [G.nd, ndA])
theorem Nodes.st (h : Nodes t w S g) (hx : S x) {i : Nat} (hi : i < 4) : canStore w ((ad x).add i) 1 := (h x hx).canStore0 (by simp [G.nd, ndA]; omega)
theorem Chg.node0 {S' : Nat → Prop} (h : Chg S' a w) {vs : List Value} (e : w1 = setCells (ad x) 0 vs w) (hx : S' x ∨ a.heap.size ≤ x) : Chg S' a w1 := h.sets' e hx
theorem Chg.node {S' : Nat → Prop} (h : Chg S' a w) {i : Nat} {vs : List Value} (e : w1 = setCells ((ad x).add i) 0 vs w) (hx : S' x ∨ a.heap.size ≤ x) : Chg S' a w1 := h.sets' e (by rwa [add_block])
end
/-! # the ring, as lists -/
def Lk (nx pv : Nat → Nat) : List Nat → Prop
  | a :: b :: l => nx a = b ∧ pv b = a ∧ Lk nx pv (b :: l)
  | _ => True
theorem Lk_app {nx pv : Nat → Nat} : ∀ {l1 : List Nat} {c : Nat} {l2 : List Nat}, Lk nx pv (l1 ++ c :: l2) ↔ Lk nx pv (l1 ++ [c]) ∧ Lk nx pv (c :: l2)
  | [], c, l2 => by simp [Lk]
  | [a], c, l2 => by simp [Lk, and_assoc]
  | a :: b :: l, c, l2 => by
    have := Lk_app (nx := nx) (pv := pv) (l1 := b :: l) (c := c) (l2 := l2)
    simp only [List.cons_append] at this ⊢
    simp only [Lk, this, and_assoc]
theorem Lk_nx {nx pv : Nat → Nat} {a b : Nat} : ∀ {l : List Nat}, Lk nx pv l → a ∉ l.dropLast → Lk (upd nx a b) pv l
  | [], _, _ => trivial
  | [_], _, _ => trivial
  | x :: y :: l, h, ha => by
    simp only [List.dropLast_cons_cons, List.mem_cons, not_or] at ha
    exact ⟨by rw [upd_ne _ _ (Ne.symm ha.1)]; exact h.1, h.2.1, Lk_nx h.2.2 ha.2⟩
theorem Lk_pv {nx pv : Nat → Nat} {a b : Nat} : ∀ {l : List Nat}, Lk nx pv l → a ∉ l.tail → Lk nx (upd pv a b) l
  | [], _, _ => trivial
  | [_], _, _ => trivial
  | x :: y :: l, h, ha => by
    simp only [List.tail_cons, List.mem_cons, not_or] at ha
    exact ⟨h.1, by rw [upd_ne _ _ (Ne.symm ha.1)]; exact h.2.1, Lk_pv h.2.2 (by simpa using ha.2)⟩
structure Ring (g : G) (r : Nat) (bs : List Nat) : Prop where
  nodup : (r :: bs).Nodup
  lk : Lk g.nx g.pv (r :: bs ++ [r])
def G.out (g : G) (x : Nat) : G := { g with nx := upd g.nx (g.pv x) (g.nx x), pv := upd g.pv (g.nx x) (g.pv x) }
def G.last (g : G) (r x : Nat) : G := { g with nx := upd (upd g.nx x r) (g.pv r) x, pv := upd (upd g.pv x (g.pv r)) r x }
theorem split_last : ∀ (r : Nat) (l : List Nat), ∃ l' p, r :: l = l' ++ [p] := fun r l => ⟨(r :: l).dropLast, (r :: l).getLast (by simp), by rw [List.dropLast_concat_getLast]⟩
theorem split_first (l : List Nat) (r : Nat) : ∃ q l', l ++ [r] = q :: l' := by cases l <;> simp
/-- the neighbours of one in the ring -/
theorem Ring.parts {g : G} {r x : Nat} {l1 l2 : List Nat} (h : Ring g r (l1 ++ x :: l2)) : ∃ l1' l2', r :: l1 = l1' ++ [g.pv x] ∧ l2 ++ [r] = g.nx x :: l2' := by
  obtain ⟨l1', p, e1⟩ := split_last r l1
  obtain ⟨q, l2', e2⟩ := split_first l2 r
  have hl := h.lk
  rw [show r :: (l1 ++ x :: l2) ++ [r] = (r :: l1) ++ x :: (l2 ++ [r]) by simp, e1, e2] at hl
  rw [show l1' ++ [p] ++ x :: q :: l2' = l1' ++ p :: x :: q :: l2' by simp, Lk_app] at hl
  obtain ⟨_, h1, h2, h3, h4, _⟩ := hl
  rw [h2, h3]; exact ⟨l1', l2', e1, e2⟩
theorem Ring.out {g : G} {r x : Nat} {l1 l2 : List Nat} (h : Ring g r (l1 ++ x :: l2)) : Ring (g.out x) r (l1 ++ l2) := by
  obtain ⟨l1', l2', e1, e2⟩ := h.parts
  have hn := h.nodup
  have hl := h.lk
  rw [show r :: (l1 ++ x :: l2) ++ [r] = (r :: l1) ++ x :: (l2 ++ [r]) by simp, e1, e2] at hl
  rw [show l1' ++ [g.pv x] ++ x :: g.nx x :: l2' = l1' ++ g.pv x :: x :: g.nx x :: l2' by simp, Lk_app] at hl
  obtain ⟨a1, _, _, _, _, a2⟩ := hl
  have hn1 : (r :: l1 ++ l2).Nodup := (show List.Sublist (r :: l1 ++ l2) (r :: (l1 ++ x :: l2)) by simp).nodup hn
  have np : ∀ y, y ∈ r :: l1 → y ∉ l2 := fun y h1 h2 => (List.nodup_append.1 hn1).2.2 y h1 y h2 rfl
  refine ⟨by simpa using hn1, ?_⟩
  rw [show r :: (l1 ++ l2) ++ [r] = (r :: l1) ++ (l2 ++ [r]) by simp, e1, e2, show l1' ++ [g.pv x] ++ g.nx x :: l2' = l1' ++ g.pv x :: g.nx x :: l2' by simp, Lk_app]
  have hp : g.pv x ∈ r :: l1 := by rw [e1]; simp
  have hq : g.nx x ∈ l2 ++ [r] := by rw [e2]; simp
  have hr : r ∉ l1 := fun hc => by
    have := (List.nodup_cons.1 hn).1; simp at this; exact this.1 hc
  refine ⟨Lk_pv (Lk_nx a1 ?_) ?_, ?_, ?_, Lk_pv (Lk_nx a2 ?_) ?_⟩
  · have h1 : (l1' ++ [g.pv x]).Nodup := by rw [← e1]; exact (List.nodup_append.1 hn1).1
    simp only [List.dropLast_concat]
    exact fun hc => (List.nodup_append.1 h1).2.2 _ hc _ (by simp) rfl
  · rw [← e1]
    simp only [List.tail_cons]
    intro hc
    simp only [List.mem_append, List.mem_singleton] at hq
    rcases hq with hq | hq
    · exact np _ (List.mem_cons_of_mem _ hc) hq
    · rw [hq] at hc; exact hr hc
  · exact upd_same _ _ _
  · exact upd_same _ _ _
  · rw [← e2, List.dropLast_concat]; exact np _ hp
  · have h2 : (l2 ++ [r]).Nodup := by
      rw [List.nodup_append]
      refine ⟨(List.nodup_append.1 hn1).2.1, by simp, fun a ha b hb => ?_⟩
      simp only [List.mem_singleton] at hb
      subst hb
      exact fun hc => by subst hc; exact np a (by simp) ha
    rw [e2] at h2
    simpa using (List.nodup_cons.1 h2).1
theorem Ring.last {g : G} {r x : Nat} {bs : List Nat} (h : Ring g r bs) (hx : x ∉ r :: bs) : Ring (g.last r x) r (bs ++ [x]) := by
  obtain ⟨c, l, e⟩ := split_last r bs
  have hl := h.lk
  have hn := h.nodup
  rw [e, show c ++ [l] ++ [r] = c ++ l :: [r] by simp, Lk_app] at hl
  obtain ⟨a1, h1, h2, _⟩ := hl
  have hxl : x ≠ l := fun hc => hx (by rw [e, hc]; simp)
  have hxr : x ≠ r := fun hc => hx (by simp [hc])
  refine ⟨by
    rw [show r :: (bs ++ [x]) = (r :: bs) ++ [x] by simp, List.nodup_append]
    exact ⟨hn, by simp, fun a ha b hb => by simp only [List.mem_singleton] at hb; subst hb; exact fun hc => hx (hc ▸ ha)⟩, ?_⟩
  rw [show r :: (bs ++ [x]) ++ [r] = (r :: bs) ++ [x, r] by simp, e, show c ++ [l] ++ [x, r] = c ++ l :: [x, r] by simp, Lk_app]
  unfold G.last
  simp only [h2]
  refine ⟨Lk_pv (Lk_pv (Lk_nx (Lk_nx a1 ?_) ?_) ?_) ?_, upd_same _ _ _, ?_, ?_, upd_same _ _ _, trivial⟩
  · rw [List.dropLast_concat]; exact fun hc => hx (by rw [e]; simp [hc])
  · rw [List.dropLast_concat]
    rw [e] at hn
    exact fun hc => (List.nodup_append.1 hn).2.2 _ hc _ (by simp) rfl
  · rw [← e]; exact fun hc => hx (List.mem_cons_of_mem _ hc)
  · rw [← e]; exact (List.nodup_cons.1 hn).1
  · rw [upd_ne _ _ hxr, upd_same]
  · rw [upd_ne _ _ hxl, upd_same]
theorem Ring.pvr {g : G} {r : Nat} {bs : List Nat} (h : Ring g r bs) : g.pv r ∈ r :: bs := by
  obtain ⟨c, l, e⟩ := split_last r bs
  have hl := h.lk
  rw [e, show c ++ [l] ++ [r] = c ++ l :: [r] by simp, Lk_app] at hl
  rw [hl.2.2.1, e]; simp
theorem Ring.nxr {g : G} {r : Nat} {bs : List Nat} (h : Ring g r bs) : g.nx r = bs.headD r := by
  have hl := h.lk
  cases bs with
  | nil => exact hl.1
  | cons b bs => exact hl.1
end Go.Vc.Ring
