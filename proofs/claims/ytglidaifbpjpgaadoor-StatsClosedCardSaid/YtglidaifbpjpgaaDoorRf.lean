import Derived.Test.YtglidaifbpjpgaaDoorVc9
import Derived.Test.YtglidaifbpjpgaaDoorHp
namespace Go.Vc
open Go.RowKit
/-! # the blocks of ranges over functions -/
section
variable {S : Nat → Prop} {a w w1 : World}
theorem Chg.put (h : Chg S a w) {l : Nat} (hp : S l ∨ a.heap.size ≤ l) (o : Obj) : Chg S a (w.putObj l o) :=
  ⟨h.os, h.tape, h.output, by rw [World.putObj_size]; exact h.size, fun k hk hn => by
    rw [World.putObj_heap_other (show k ≠ l from fun e => by subst e; rcases hp with hp | hp; exact hn hp; omega)]
    exact h.block k hk hn⟩
theorem Blk.putO {b : Nat} {t : TypeId} {cs : Array Value} (h : Blk w b t cs) {l : Nat} (hn : b ≠ l) (o : Obj) : Blk (w.putObj l o) b t cs := (World.putObj_heap_other hn).trans h
theorem put_same {l : Nat} {o o' : Obj} (h : w.heap[l]? = some o') : (w.putObj l o).heap[l]? = some o := World.putObj_heap_same (by
  rcases Nat.lt_or_ge l w.heap.size with h1 | h1
  · exact h1
  · rw [Array.getElem?_eq_none h1] at h; cases h)
theorem takeAll_chg : ∀ (ms : List Nat) {w : World}, Chg S a w → (∀ r ∈ ms, a.heap.size ≤ r) → Chg S a (takeAll ms w)
  | [], _, h, _ => h
  | r :: rs, _, h, hm => takeAll_chg rs (h.put (.inr (hm r (by simp))) _) fun r hr => hm r (by simp [hr])
theorem takeAll_heap {b : Nat} : ∀ (ms : List Nat) (w : World), b ∉ ms → (takeAll ms w).heap[b]? = w.heap[b]?
  | [], _, _ => rfl
  | r :: rs, w, hm => by
    rw [takeAll, takeAll_heap rs _ (fun h => hm (by simp [h])), World.putObj_heap_other (fun e => hm (by simp [e]))]
theorem Blk.take {b : Nat} {t : TypeId} {cs : Array Value} (h : Blk w b t cs) {ms : List Nat} (hm : b ∉ ms) : Blk (takeAll ms w) b t cs := (takeAll_heap ms w hm).trans h
theorem Chg.entered (h : Chg S a w) {rc : Loop} (e : w1 = (w.alloc (.deferred (some []))).alloc (.loop rc)) : Chg S a w1 := by rw [e]; exact (h.alloc _).alloc _
theorem entered {rc : Loop} (e : w1 = (w.alloc (.deferred (some []))).alloc (.loop rc)) : w1.heap.size = w.heap.size + 2 ∧ w1.heap[w.heap.size]? = some (.deferred (some [])) ∧ w1.heap[w.heap.size + 1]? = some (.loop rc) := by
  subst e
  refine ⟨by simp, ?_, ?_⟩
  · exact (Below.heap_alloc _ _ _ (by simp)).trans (World.alloc_heap_new w _)
  · have := World.alloc_heap_new (w.alloc (.deferred (some []))) (.loop rc)
    rwa [World.size_alloc] at this
/-- the marks: new blocks, each once, not taken -/
structure Marks (W : World) (ms : List Nat) (w : World) : Prop where
  nodup : ms.Nodup
  open_ : ∀ r ∈ ms, w.heap[r]? = some (.deferred (some []))
  new : ∀ r ∈ ms, W.heap.size ≤ r
variable {W : World} {ms : List Nat}
theorem Marks.nil (W w : World) : Marks W [] w := ⟨List.nodup_nil, fun _ h => by simp at h, fun _ h => by simp at h⟩
theorem Marks.lt (h : Marks W ms w) : ∀ r ∈ ms, r < w.heap.size := fun r hr => by
  rcases Nat.lt_or_ge r w.heap.size with h1 | h1
  · exact h1
  · have := h.open_ r hr; rw [Array.getElem?_eq_none h1] at this; cases this
theorem Marks.chg (h : Marks W ms w) (c : Chg S w w1) (hS : ∀ r ∈ ms, ¬ S r) : Marks W ms w1 :=
  ⟨h.nodup, fun r hr => (c.block r (h.lt r hr) (hS r hr)).trans (h.open_ r hr), h.new⟩
theorem Marks.chgN (h : Marks W ms w) (c : Chg none_ w w1) : Marks W ms w1 := h.chg c fun _ _ x => x
theorem Marks.ok (h : Marks W ms w) : marksOk ms w := ⟨h.nodup, h.open_⟩
/-- one more: laid when w was entered, open still in w1 -/
theorem Marks.cons (h : Marks W ms w) {w2 : World} (h2 : Marks W ms w2) (hW : W.heap.size ≤ w.heap.size) (ho : w2.heap[w.heap.size]? = some (.deferred (some []))) : Marks W (w.heap.size :: ms) w2 :=
  ⟨List.nodup_cons.2 ⟨fun hm => Nat.lt_irrefl _ (h.lt _ hm), h.nodup⟩, fun r hr => by
    rcases List.mem_cons.1 hr with rfl | hr
    · exact ho
    · exact h2.open_ r hr, fun r hr => by
    rcases List.mem_cons.1 hr with rfl | hr
    · exact hW
    · exact h.new r hr⟩
theorem Marks.not (h : Marks W ms w) {b : Nat} {t : TypeId} {cs : Array Value} (hb : Blk w b t cs) : b ∉ ms := fun hm => by
  have := h.open_ b hm
  rw [hb] at this; cases this
theorem Marks.putL (h : Marks W ms w) {l : Nat} {rc : Loop} (hl : w.heap[l]? = some (.loop rc)) (o : Obj) : Marks W ms (w.putObj l o) :=
  ⟨h.nodup, fun r hr => (World.putObj_heap_other (show r ≠ l from fun e => by subst e; have := h.open_ r hr; rw [hl] at this; cases this)).trans (h.open_ r hr), h.new⟩
theorem Blk.putL {b : Nat} {t : TypeId} {cs : Array Value} (h : Blk w b t cs) {l : Nat} {rc : Loop} (hl : w.heap[l]? = some (.loop rc)) (o : Obj) : Blk (w.putObj l o) b t cs :=
  h.putO (fun e => by subst e; unfold Blk at h; rw [hl] at h; cases h) o
theorem Marks.take (h : Marks W ms w) (c : Chg S W w) : Chg S W (takeAll ms w) := takeAll_chg ms c h.new
end
end Go.Vc
