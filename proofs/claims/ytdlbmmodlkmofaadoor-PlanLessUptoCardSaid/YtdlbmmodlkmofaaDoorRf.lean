import Derived.Test.YtdlbmmodlkmofaaDoorVc9
import Derived.Test.YtdlbmmodlkmofaaDoorHp
namespace Go.Vc
open Go.RowKit
/-! # the blocks of ranges over functions -/
section
variable {S : Nat → Prop} {a w w1 : World}
theorem Chg.put (h : Chg S a w) {l : Nat} (hp : S l ∨ a.heap.size ≤ l) (o : Obj) : Chg S a (w.putObj l o) :=
  ⟨h.os, h.tape, h.output, by rw [World.putObj_size]; exact h.size, fun k hk hn => by
    rw [World.putObj_heap_other (show k ≠ l from fun e => by subst e; rcases hp with hp | hp; exact hn hp; omega)]
    exact h.block k hk hn⟩
theorem Blk.putO {b : Nat} {t : TypeId} {cs : Array Value} (h : Blk w b t cs) {l : Nat} (hn : b ≠ l) (o : Obj) : Blk (w.putObj l o) b t cs := (World.putObj_heap_other hn).trans h
theorem put_same {l : Nat} {o o' : Obj} (h : w.heap[l]? = some o') : (w.putObj l o).heap[l]? = some o := World.putObj_heap_same (by
  rcases Nat.lt_or_ge l w.heap.size with h1 | h1
  · exact h1
  · rw [Array.getElem?_eq_none h1] at h; cases h)
theorem takeAll_chg : ∀ (ms : List Nat) {w : World}, Chg S a w → (∀ r ∈ ms, a.heap.size ≤ r) → Chg S a (takeAll ms w)
  | [], _, h, _ => h
  | r :: rs, _, h, hm => takeAll_chg rs (h.put (.inr (hm r (by simp))) _) fun r hr => hm r (by simp [hr])
theorem takeAll_heap {b : Nat} : ∀ (ms : List Nat) (w : World), b ∉ ms → (takeAll ms w).heap[b]? = w.heap[b]?
  | [], _, _ => rfl
  | r :: rs, w, hm => by
    rw [takeAll, takeAll_heap rs _ (fun h => hm (by simp [h])), World.putObj_heap_other (fun e => hm (by simp [e]))]
theorem Blk.take {b : Nat} {t : TypeId} {cs : Array Value} (h : Blk w b t cs) {ms : List Nat} (hm : b ∉ ms) : Blk (takeAll ms w) b t cs := (takeAll_heap ms w hm).trans h
theorem Chg.entered (h : Chg S a w) {rc : Loop} (e : w1 = (w.alloc (.deferred (some []))).alloc (.loop rc)) : Chg S a w1 := by rw [e]; exact (h.alloc _).alloc _
theorem entered {rc : Loop} (e : w1 = (w.alloc (.deferred (some []))).alloc (.loop rc)) : w1.heap.size = w.heap.size + 2 ∧ w1.heap[w.heap.size]? = some (.deferred (some [])) ∧ w1.heap[w.heap.size + 1]? = some (.loop rc) := by
  subst e
  refine ⟨by simp, ?_, ?_⟩
  · exact (Below.heap_alloc _ _ _ (by simp)).trans (World.alloc_heap_new w _)
  · have := World.alloc_heap_new (w.alloc (.deferred (some []))) (.loop rc)
    rwa [World.size_alloc] at this
/-- the marks: new blocks, each once, not taken -/
structure Marks (W : World) (ms : List Nat) (w : World) : Prop where
  nodup : ms.Nodup
  open_ : ∀ r ∈ ms, w.heap[r]? = some (.deferred (some []))
  new : ∀ r ∈ ms, W.heap.size ≤ r
variable {W : World} {ms : List Nat}
theorem Marks.nil (W w : World) : Marks W [] w := ⟨List.nodup_nil, fun _ h => by simp at h, fun _ h => by simp at h⟩
theorem Marks.lt (h : Marks W ms w) : ∀ r ∈ ms, r < w.heap.size := fun r hr => by
  rcases Nat.lt_or_ge r w.heap.size with h1 | h1
  · exact h1
  · have := h.open_ r hr; rw [Array.getElem?_eq_none h1] at this; cases this
theorem Marks.chg (h : Marks W ms w) (c : Chg S w w1) (hS : ∀ r ∈ ms, ¬ S r) : Marks W ms w1 :=
  ⟨h.nodup, fun r hr => (c.block r (h.lt r hr) (hS r hr)).trans (h.open_ r hr), h.new⟩
theorem Marks.chgN (h : Marks W ms w) (c : Chg none_ w w1) : Marks W ms w1 := h.chg c fun _ _ x => x
theorem Marks.ok (h : Marks W ms w) : marksOk ms w := ⟨h.nodup, h.open_⟩
/-- one more: laid when w was entered, open still in w1 -/
theorem Marks.cons (h : Marks W ms w) {w2 : World} (h2 : Marks W ms w2) (hW : W.heap.size ≤ w.heap.size) (ho : w2.heap[w.heap.size]? = some (.deferred (some []))) : Marks W (w.heap.size :: ms) w2 :=
  ⟨List.nodup_cons.2 ⟨fun hm => Nat.lt_irrefl _ (h.lt _ hm), h.nodup⟩, fun r hr => by
    rcases List.mem_cons.1 hr with rfl | hr
    · exact ho
    · exact h2.open_ r hr, fun r hr => by
    rcases List.mem_cons.1 hr with rfl | hr
    · exact hW
    · exact h.new r hr⟩
theorem Marks.not (h : Marks W ms w) {b : Nat} {t : TypeId} {cs : Array Value} (hb : Blk w b t cs) : b ∉ ms := fun hm => by
  have := h.open_ b hm
  rw [hb] at this; cases this
theorem Marks.putL (h : Marks W ms w) {l : Nat} {rc : Loop} (hl : w.heap[l]? = some (.loop rc)) (o : Obj) : Marks W ms (w.putObj l o) :=
  ⟨h.nodup, fun r hr => (World.putObj_heap_other (show r ≠ l from fun e => by subst e; have := h.open_ r hr; rw [hl] at this; cases this)).trans (h.open_ r hr), h.new⟩
theorem Blk.putL {b : Nat} {t : TypeId} {cs : Array Value} (h : Blk w b t cs) {l : Nat} {rc : Loop} (hl : w.heap[l]? = some (.loop rc)) (o : Obj) : Blk (w.putObj l o) b t cs :=
  h.putO (fun e => by subst e; unfold Blk at h; rw [hl] at h; cases h) o
theorem Marks.take (h : Marks W ms w) (c : Chg S W w) : Chg S W (takeAll ms w) := takeAll_chg ms c h.new
end
/-! # the record of a loop -/
def RecOk (w : World) (l : Nat) (rc0 : Loop) (st : LoopState) (pd : Option Code) : Prop :=
  ∃ rc : Loop, w.heap[l]? = some (.loop rc) ∧ rc.state = st ∧ rc.pending = pd ∧ rc.params = rc0.params ∧ rc.assign = rc0.assign ∧ rc.body = rc0.body ∧ rc.tmps = rc0.tmps
section
variable {w w' : World} {l : Nat} {rc0 : Loop} {st : LoopState} {pd : Option Code}
theorem Chg.at' {S : Nat → Prop} (c : Chg S w w') {b : Nat} {o : Obj} (h : w.heap[b]? = some o) (hn : ¬ S b) : w'.heap[b]? = some o := (c.block b (by
  rcases Nat.lt_or_ge b w.heap.size with h1 | h1
  · exact h1
  · rw [Array.getElem?_eq_none h1] at h; cases h) hn).trans h
theorem RecOk.lt (h : RecOk w l rc0 st pd) : l < w.heap.size := by
  obtain ⟨rc, h, _⟩ := h
  rcases Nat.lt_or_ge l w.heap.size with h1 | h1
  · exact h1
  · rw [Array.getElem?_eq_none h1] at h; cases h
theorem RecOk.chg {S : Nat → Prop} (h : RecOk w l rc0 st pd) (c : Chg S w w') (hn : ¬ S l) : RecOk w' l rc0 st pd := by
  obtain ⟨rc, h, r⟩ := h
  exact ⟨rc, c.at' h hn, r⟩
theorem RecOk.new {n : Nat} {env : Env} {ps : Array Tmp} {a b : Code} (h0 : Laid n env ps a b rc0) (h : w.heap[l]? = some (.loop rc0)) : RecOk w l rc0 .ready none := ⟨rc0, h, h0.state, h0.pending, rfl, rfl, rfl, rfl⟩
theorem put_chg (w : World) (l : Nat) (o : Obj) : Chg (fun k => k = l) w (w.putObj l o) := (Chg.refl (fun k => k = l) w).put (S := fun k => k = l) (.inl rfl) o
theorem RecOk.begin (h : RecOk w l rc0 .ready pd) {C : World → Prop} (hC : ∀ w', RecOk w' l rc0 .busy pd → Chg (fun k => k = l) w w' → C w') : beginQ l C w := by
  obtain ⟨rc, h, h1, h2, r⟩ := h
  exact ⟨rc, h, h1, hC _ ⟨_, put_same h, rfl, h2, r⟩ (put_chg w l _)⟩
theorem RecOk.normal (h : RecOk w l rc0 st pd) {R : Bool → World → Prop} (hR : ∀ w', RecOk w' l rc0 .ready none → Chg (fun k => k = l) w w' → R true w') : endQ l R .normal w := by
  obtain ⟨rc, h, h1, h2, r⟩ := h
  exact ⟨rc, h, hR _ ⟨_, put_same h, rfl, rfl, r⟩ (put_chg w l _)⟩
theorem RecOk.ret (h : RecOk w l rc0 st pd) {R : Bool → World → Prop} (hR : ∀ w', RecOk w' l rc0 .done (some .ret) → Chg (fun k => k = l) w w' → R false w') : endQ l R .ret w := by
  obtain ⟨rc, h, h1, h2, r⟩ := h
  exact ⟨rc, h, hR _ ⟨_, put_same h, rfl, rfl, r⟩ (put_chg w l _)⟩
theorem RecOk.exit {id : Nat} (h : RecOk w l rc0 st pd) {R : Bool → World → Prop} (hR : ∀ w', RecOk w' l rc0 .done (some (.exit id)) → Chg (fun k => k = l) w w' → R false w') : endQ l R (.exit id) w := by
  obtain ⟨rc, h, h1, h2, r⟩ := h
  exact ⟨rc, h, hR _ ⟨_, put_same h, rfl, rfl, r⟩ (put_chg w l _)⟩
theorem RecOk.after (h : RecOk w l rc0 st none) (hs : st ≠ .busy) {Qn Qr : World → Prop} {xs : List (Nat × (World → Prop))} (hQ : ∀ w', Chg (fun k => k = l) w w' → Qn w') : afterQ l Qn Qr xs w := by
  obtain ⟨rc, h, h1, h2, _⟩ := h
  exact afterQ_none h (by rw [h1]; exact hs) h2 (hQ _ (put_chg w l _))
theorem RecOk.afterRet (h : RecOk w l rc0 st (some .ret)) (hs : st ≠ .busy) {Qn Qr : World → Prop} {xs : List (Nat × (World → Prop))} (hQ : ∀ w', Chg (fun k => k = l) w w' → Qr w') : afterQ l Qn Qr xs w := by
  obtain ⟨rc, h, h1, h2, _⟩ := h
  exact afterQ_ret h (by rw [h1]; exact hs) h2 (hQ _ (put_chg w l _))
theorem RecOk.afterExit {id : Nat} (h : RecOk w l rc0 st (some (.exit id))) (hs : st ≠ .busy) {Qn Qr C : World → Prop} {xs : List (Nat × (World → Prop))} (hx : lkX xs id = some C) (hQ : ∀ w', Chg (fun k => k = l) w w' → C w') : afterQ l Qn Qr xs w := by
  obtain ⟨rc, h, h1, h2, _⟩ := h
  exact afterQ_exit h (by rw [h1]; exact hs) h2 hx (hQ _ (put_chg w l _))
end
/-- the number in a cell -/
def cellN (p : Option Addr) (w : World) : Nat := match p with
  | some a => match w.cell? a with
    | some (.int _ n) => n.toNat
    | _ => 0
  | none => 0
theorem cellN_eq {w : World} {b : Nat} {t : TypeId} {k : IntKind} {n : Nat} (h : Blk w b t #[.int k (n : Int)]) : cellN (some ⟨b, 0, none⟩) w = n := by
  have : w.cell? ⟨b, 0, none⟩ = some (.int k (n : Int)) := (h.cell 0).trans rfl
  simp [cellN, this]
end Go.Vc
