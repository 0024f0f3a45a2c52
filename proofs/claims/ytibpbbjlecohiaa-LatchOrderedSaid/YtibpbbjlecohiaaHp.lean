import Derived.Test.YtibpbbjlecohiaaVc7
namespace Go.Vc
open Go.RowKit

/-! # Blocks that are known whole -/
def Blk (w : World) (b : Nat) (t : TypeId) (cs : Array Value) : Prop := w.heap[b]? = some (.cells cs t (0, 0))
theorem add_mk (b o n : Nat) : (⟨b, o, none⟩ : Addr).add n = ⟨b, o + n, none⟩ := by
  unfold Addr.add
  split
  · rename_i h; subst h; rfl
  · rfl
section
variable {w w' : World} {b : Nat} {t : TypeId} {cs : Array Value}
theorem Blk.lt (h : Blk w b t cs) : b < w.heap.size := by
  rcases Nat.lt_or_ge b w.heap.size with hlt | hge
  · exact hlt
  · unfold Blk at h; rw [Array.getElem?_eq_none hge] at h; cases h
theorem Blk.cell (h : Blk w b t cs) (i : Nat) : w.cell? ⟨b, i, none⟩ = cs[i]? := by
  unfold Blk at h
  simp [World.cell?, h]
theorem Blk.cell0 (h : Blk w b t cs) (i : Nat) : w.cell? ((⟨b, 0, none⟩ : Addr).add i) = cs[i]? := by
  rw [add_mk, Nat.zero_add]; exact h.cell i
theorem Blk.frozen (h : Blk w b t cs) (i : Nat) : w.frozen? ⟨b, i, none⟩ = false := by
  unfold Blk at h
  simp [World.frozen?, h]
theorem Blk.new (w : World) (t : TypeId) (cs : Array Value) : Blk (w.alloc (.cells cs t)) w.heap.size t cs := by
  show (w.heap.push _)[w.heap.size]? = _
  simp
theorem Blk.alloc (h : Blk w b t cs) (o : Obj) : Blk (w.alloc o) b t cs := (Below.heap_alloc w o b h.lt).trans h
theorem Blk.drew (h : Blk w b t cs) : Blk w.drew b t cs := h
theorem Blk.of (h : Blk w b t cs) (hb : w'.heap[b]? = w.heap[b]?) : Blk w' b t cs := hb.trans h
theorem Blk.below {B : Nat} (h : Blk w b t cs) (hb : Below B w w') (hB : b < B) : Blk w' b t cs := (hb.block b hB).trans h
theorem Blk.canStore (h : Blk w b t cs) {o n : Nat} (hn : o + n ≤ cs.size) : canStore w ⟨b, o, none⟩ n := fun i hi => by
  rw [add_mk]
  refine ⟨⟨cs[o + i], ?_⟩, h.frozen _⟩
  rw [h.cell]
  exact Array.getElem?_eq_getElem (by omega)
theorem Blk.canStore0 (h : Blk w b t cs) {o n : Nat} (hn : o + n ≤ cs.size) : Vc.canStore w ((⟨b, 0, none⟩ : Addr).add o) n := by
  rw [add_mk, Nat.zero_add]; exact h.canStore hn
end
/-- the cells from 'o' on, written over -/
def putC (cs : Array Value) : Nat → List Value → Array Value
  | _, [] => cs
  | o, v :: vs => putC (cs.setIfInBounds o v) (o + 1) vs
theorem Blk.set1 {w : World} {b : Nat} {t : TypeId} {cs : Array Value} (h : Blk w b t cs) (i : Nat) (u : Value) : Blk (w.setCell ⟨b, i, none⟩ u) b t (cs.setIfInBounds i u) := by
  unfold Blk at h ⊢
  simp [World.setCell, Array.getElem?_modify, h]
theorem setCells_far (p : Addr) : ∀ (vs : List Value) (i : Nat) (w : World) (k : Nat), k ≠ p.block → (setCells p i vs w).heap[k]? = w.heap[k]?
  | [], _, _, _, _ => rfl
  | v :: vs, i, w, k, hk => by
    have hb : (p.add i).block = p.block := by unfold Addr.add; split <;> rfl
    rw [setCells, setCells_far p vs (i + 1) _ k hk, Below.heap_setCell _ _ _ _ (by rw [hb]; exact hk)]
theorem setCells_size (p : Addr) : ∀ (vs : List Value) (i : Nat) (w : World), (setCells p i vs w).heap.size = w.heap.size
  | [], _, _ => rfl
  | v :: vs, i, w => by rw [setCells, setCells_size p vs (i + 1) _]; simp [World.setCell]
theorem setCells_rest (p : Addr) : ∀ (vs : List Value) (i : Nat) (w : World), (setCells p i vs w).os = w.os ∧ (setCells p i vs w).tape = w.tape ∧ (setCells p i vs w).output = w.output
  | [], _, _ => ⟨rfl, rfl, rfl⟩
  | v :: vs, i, w => by rw [setCells]; exact setCells_rest p vs (i + 1) _
theorem Blk.sets {b : Nat} {t : TypeId} {o : Nat} : ∀ (vs : List Value) (i : Nat) {w : World} {cs : Array Value}, Blk w b t cs → Blk (setCells ⟨b, o, none⟩ i vs w) b t (putC cs (o + i) vs)
  | [], _, _, _, h => h
  | v :: vs, i, w, cs, h => by
    rw [setCells, add_mk, putC]
    exact Blk.sets vs (i + 1) (h.set1 (o + i) v)
theorem Blk.far {w : World} {b : Nat} {t : TypeId} {cs : Array Value} (h : Blk w b t cs) {p : Addr} (hp : b ≠ p.block) (i : Nat) (vs : List Value) : Blk (setCells p i vs w) b t cs :=
  (setCells_far p vs i w b hp).trans h

/-! # What has turned: the blocks in S alone, and new ones -/
structure Chg (S : Nat → Prop) (w w' : World) : Prop where
  os : w'.os = w.os
  tape : w'.tape = w.tape
  output : w'.output = w.output
  size : w.heap.size ≤ w'.heap.size
  block : ∀ k, k < w.heap.size → ¬ S k → w'.heap[k]? = w.heap[k]?
def none_ : Nat → Prop := fun _ => False
theorem Chg.refl (S : Nat → Prop) (w : World) : Chg S w w := ⟨rfl, rfl, rfl, Nat.le_refl _, fun _ _ _ => rfl⟩
theorem Chg.mono {S S' : Nat → Prop} {w w' : World} (h : Chg S w w') (hS : ∀ k, k < w.heap.size → S k → S' k) : Chg S' w w' :=
  ⟨h.os, h.tape, h.output, h.size, fun k hk hn => h.block k hk (fun hs => hn (hS k hk hs))⟩
theorem Chg.trans {S : Nat → Prop} {a b c : World} (h : Chg S a b) (k : Chg S b c) : Chg S a c :=
  ⟨k.os.trans h.os, k.tape.trans h.tape, k.output.trans h.output, Nat.le_trans h.size k.size, fun i hi hn => (k.block i (Nat.lt_of_lt_of_le hi h.size) hn).trans (h.block i hi hn)⟩
/-- what the second step turns beyond S is new -/
theorem Chg.trans' {S S' : Nat → Prop} {a b c : World} (h : Chg S a b) (k : Chg S' b c) (hS : ∀ i, S' i → S i ∨ a.heap.size ≤ i) : Chg S a c :=
  ⟨k.os.trans h.os, k.tape.trans h.tape, k.output.trans h.output, Nat.le_trans h.size k.size, fun i hi hn => (k.block i (Nat.lt_of_lt_of_le hi h.size) (fun hs => by
    rcases hS i hs with h1 | h1
    · exact hn h1
    · omega)).trans (h.block i hi hn)⟩
theorem Chg.drew {S : Nat → Prop} {a w : World} (h : Chg S a w) : Chg S a w.drew := ⟨h.os, h.tape, h.output, h.size, h.block⟩
theorem Chg.of_drew {S : Nat → Prop} {a w : World} (h : Chg S a.drew w) : Chg S a w := ⟨h.os, h.tape, h.output, h.size, h.block⟩
theorem Chg.alloc {S : Nat → Prop} {a w : World} (h : Chg S a w) (o : Obj) : Chg S a (w.alloc o) :=
  ⟨h.os, h.tape, h.output, Nat.le_trans h.size (by simp), fun k hk hn => (Below.heap_alloc w o k (Nat.lt_of_lt_of_le hk h.size)).trans (h.block k hk hn)⟩
theorem Chg.sets {S : Nat → Prop} {a w : World} (h : Chg S a w) {p : Addr} (hp : S p.block ∨ a.heap.size ≤ p.block) (i : Nat) (vs : List Value) : Chg S a (setCells p i vs w) := by
  obtain ⟨r1, r2, r3⟩ := setCells_rest p vs i w
  refine ⟨r1.trans h.os, r2.trans h.tape, r3.trans h.output, by rw [setCells_size]; exact h.size, fun k hk hn => ?_⟩
  rw [setCells_far p vs i w k (fun e => by
    subst e
    rcases hp with hp | hp
    · exact hn hp
    · omega)]
  exact h.block k hk hn
theorem Chg.blk {S : Nat → Prop} {w w' : World} (h : Chg S w w') {b : Nat} {t : TypeId} {cs : Array Value} (hb : Blk w b t cs) (hn : ¬ S b) : Blk w' b t cs := (h.block b hb.lt hn).trans hb
theorem Chg.below {w w' : World} (h : Chg none_ w w') : Below w.heap.size w w' := ⟨h.os, h.tape, h.output, h.size, fun k hk => h.block k hk (fun h => h)⟩
theorem Chg.of_below {w w' : World} (h : Below w.heap.size w w') (S : Nat → Prop) : Chg S w w' := ⟨h.os, h.tape, h.output, h.size, fun k hk _ => h.block k hk⟩
theorem Chg.cell {S : Nat → Prop} {w w' : World} (h : Chg S w w') {p : Addr} (hp : p.block < w.heap.size) (hn : ¬ S p.block) : w'.cell? p = w.cell? p := World.cell?_of_block (w := w) (h.block p.block hp hn)

/-! # the parts of a weakest precondition -/
theorem bcase_true (X Y : Prop) : bcase true X Y = X := rfl
theorem bcase_false (X Y : Prop) : bcase false X Y = Y := rfl
theorem bcase_iff (b : Bool) (X Y : Prop) : bcase b X Y ↔ (b = true → X) ∧ (b = false → Y) := by cases b <;> simp [bcase]
theorem onPtr_some (a : Addr) (C : Addr → Prop) : onPtr (some a) C = C a := rfl
theorem ptrOk_none (w : World) (p : Option Addr) : ptrOk w p none := fun _ _ _ h => by cases h
theorem ptrOk_blk {w : World} {a b : Nat} {o o' : Nat} {ta tb : TypeId} {ca cb : Array Value} (ha : Blk w a ta ca) (hb : Blk w b tb cb) (sa : ca.size ≠ 0) (sb : cb.size ≠ 0) : ptrOk w (some ⟨a, o, none⟩) (some ⟨b, o', none⟩) :=
  fun x y hx hy _ => by cases hx; cases hy; exact ⟨⟨ca, ta, ha, sa⟩, ⟨cb, tb, hb, sb⟩⟩
theorem Calls.use {P : Program} {f : Nat} {args : Array Value} {w : World} {R : Value → World → Prop} {R' : Ending → World → Prop} (h : Calls P f args w (Ret R)) (hr : ∀ v w', R v w' → R' (.returned v) w') : Calls P f args w R' :=
  h.mono fun e w' ⟨v, he, hR⟩ => by subst he; exact hr v w' hR

section
variable {w w1 : World} {t : TypeId} {cs : Array Value}
theorem new_blk (h : w1 = w.alloc (.cells cs t)) : Blk w1 w.heap.size t cs := by rw [h]; exact Blk.new _ _ _
theorem new_size (h : w1 = w.alloc (.cells cs t)) : w1.heap.size = w.heap.size + 1 := by rw [h]; simp
theorem Blk.new' {b : Nat} {t' : TypeId} {cs' : Array Value} (hb : Blk w b t' cs') (h : w1 = w.alloc (.cells cs t)) : Blk w1 b t' cs' := by rw [h]; exact hb.alloc _
theorem Chg.new' {S : Nat → Prop} {a : World} (hb : Chg S a w) (h : w1 = w.alloc (.cells cs t)) : Chg S a w1 := by rw [h]; exact hb.alloc _
theorem Chg.sets' {S : Nat → Prop} {a : World} (hb : Chg S a w) {p : Addr} {i : Nat} {vs : List Value} (h : w1 = setCells p i vs w) (hp : S p.block ∨ a.heap.size ≤ p.block) : Chg S a w1 := by rw [h]; exact hb.sets hp i vs
theorem Blk.far' {b : Nat} {t' : TypeId} {cs' : Array Value} (hb : Blk w b t' cs') {p : Addr} {i : Nat} {vs : List Value} (h : w1 = setCells p i vs w) (hp : b ≠ p.block) : Blk w1 b t' cs' := by rw [h]; exact hb.far hp i vs
theorem Blk.sets' {b o : Nat} {t' : TypeId} {cs' : Array Value} (hb : Blk w b t' cs') {i : Nat} {vs : List Value} (h : w1 = setCells (⟨b, o, none⟩ : Addr) i vs w) : Blk w1 b t' (putC cs' (o + i) vs) := by rw [h]; exact hb.sets vs i
end

/-! # several cells at once -/
theorem Blk.reads {w : World} {b : Nat} {t : TypeId} {cs : Array Value} (h : Blk w b t cs) {o : Nat} {vs : List Value} (hv : ∀ j v, vs[j]? = some v → cs[o + j]? = some v) : Vc.reads w ⟨b, o, none⟩ vs := fun j v hj => by
  rw [add_mk, h.cell]; exact hv j v hj
/-- a block read whole -/
theorem Blk.reads0 {w : World} {b : Nat} {t : TypeId} {vs : List Value} (h : Blk w b t vs.toArray) : Vc.reads w ⟨b, 0, none⟩ vs := h.reads fun j v hj => by simpa using hj
theorem reads_all {w : World} {b : Nat} {t : TypeId} {cs : Array Value} (h : Blk w b t cs) {vs : List Value} (hl : vs.length = cs.size) : Vc.reads w ⟨b, 0, none⟩ vs ↔ vs = cs.toList := by
  constructor
  · intro hr
    apply List.ext_getElem?
    intro j
    rcases Nat.lt_or_ge j vs.length with hj | hj
    · have := hr j vs[j] (List.getElem?_eq_getElem hj)
      rw [add_mk, h.cell, Nat.zero_add] at this
      rw [List.getElem?_eq_getElem hj, ← this]; simp
    · rw [List.getElem?_eq_none hj, List.getElem?_eq_none (by simp; omega)]
  · rintro rfl
    exact h.reads fun j v hj => by simpa using hj
theorem putC_size : ∀ (vs : List Value) (cs : Array Value) (o : Nat), (putC cs o vs).size = cs.size
  | [], _, _ => rfl
  | v :: vs, cs, o => by rw [putC, putC_size vs]; simp
theorem putC_get : ∀ (vs : List Value) (cs : Array Value) (o i : Nat), o + vs.length ≤ cs.size → (putC cs o vs)[i]? = if o ≤ i ∧ i < o + vs.length then vs[i - o]? else cs[i]?
  | [], cs, o, i, _ => by simp [putC]; intro h1 h2; omega
  | v :: vs, cs, o, i, h => by
    simp only [List.length_cons] at h
    rw [putC, putC_get vs _ _ _ (by simp; omega)]
    rcases Nat.lt_trichotomy i o with hi | hi | hi
    · rw [if_neg (by omega), if_neg (by simp; omega)]; simp [show o ≠ i by omega]
    · subst hi; rw [if_neg (by omega), if_pos (by simp)]; simp [show i < cs.size by omega]
    · have e : i - o = i - (o + 1) + 1 := by omega
      by_cases hj : i < o + 1 + vs.length
      · rw [if_pos (by omega), if_pos (by simp; omega), e]; simp
      · rw [if_neg (by omega), if_neg (by simp; omega)]; simp [show o ≠ i by omega]
theorem putC_all {vs : List Value} {cs : Array Value} (h : vs.length = cs.size) : putC cs 0 vs = vs.toArray := by
  apply Array.ext_getElem?
  intro i
  rw [putC_get vs cs 0 i (by omega)]
  by_cases hi : i < vs.length
  · simp [hi]
  · rw [if_neg (by omega), Array.getElem?_eq_none (by omega), Array.getElem?_eq_none (by simp; omega)]
theorem Blk.over {w w1 : World} {b : Nat} {t : TypeId} {cs : Array Value} {vs : List Value} (h : Blk w b t cs) (e : w1 = setCells (⟨b, 0, none⟩ : Addr) 0 vs w) (hl : vs.length = cs.size) : Blk w1 b t vs.toArray := by
  have := h.sets' (o := 0) e
  rwa [Nat.zero_add, putC_all hl] at this
theorem Chg.keeps {w w' : World} (h : Chg none_ w w') : Keeps (fun p => p.block < w.heap.size) w w' := fun _ hq => h.cell hq (fun x => x)
theorem Keeps.reads {K : Addr → Prop} {w w' : World} (h : Keeps K w w') {p : Addr} {vs : List Value} (hp : ∀ j, j < vs.length → K (p.add j)) (r : Vc.reads w' p vs) : Vc.reads w p vs := fun j v hj => by
  rw [← h _ (hp j (by rcases Nat.lt_or_ge j vs.length with h' | h'; exact h'; rw [List.getElem?_eq_none h'] at hj; cases hj))]; exact r j v hj
theorem add_block (p : Addr) (n : Nat) : (p.add n).block = p.block := by unfold Addr.add; split <;> rfl
theorem Blk.keepsAll {w : World} {b : Nat} {t : TypeId} {cs : Array Value} (h : Blk w b t cs) {w' : World} (hs : w'.heap.size = w.heap.size) (o n : Nat) : ∀ j : Nat, j < n → (fun p : Addr => p.block < w'.heap.size) ((⟨b, o, none⟩ : Addr).add j) := fun j _ => by
  show (Addr.add _ _).block < _
  rw [add_block, hs]; exact h.lt
theorem onPtr_mk {a : Addr} {C : Addr → Prop} (h : C a) : onPtr (some a) C := h
theorem bc {b : Bool} {X Y : Prop} (h1 : b = true → X) (h2 : b = false → Y) : bcase b X Y := (bcase_iff b X Y).2 ⟨h1, h2⟩
theorem bcT {b : Bool} {X Y : Prop} (hb : b = true) (h : X) : bcase b X Y := by subst hb; exact h
theorem bcF {b : Bool} {X Y : Prop} (hb : b = false) (h : Y) : bcase b X Y := by subst hb; exact h
theorem Blk.type {w : World} {b : Nat} {t t' : TypeId} {cs cs' : Array Value} (h : Blk w b t cs) (h' : Blk w b t' cs') : t = t' ∧ cs = cs' := by
  have := h.symm.trans h'
  simp at this
  exact ⟨this.2, this.1⟩
end Go.Vc
