import Derived.Test.YtibpbbjlecohiaaSn
import Derived.Laws.Cover3
/-! Single operations' equations. -/
namespace Go.Vc
open Go.RowKit
section
variable {P : Program} {w : World} {t e : TypeId} {X Y : Operand}
theorem run_cat {a b : ByteArray} (h : a.size + b.size ≤ 9223372036854775807) : (eqSem .add t X Y (.string a) (.string b)).run P w = .ok (.string (a ++ b)) w := by
  have h' : ¬ (9223372036854775807 < ((a.size : Int) + (b.size : Int))) := by omega
  simp [eqSem, eqGuard, binOp, Op.stringOp, IntKind.max, IntKind.signed, IntKind.bits, h']
theorem run_eqnil (h : P.underlying t = some (.slice e)) (q : Option Addr) (l c : Nat) : (eqSem .eql t X Y (.slice q l c) (.slice none 0 0)).run P w = .ok (.bool q.isNone) w := by
  have := run_equal_slice_nil (P := P) w t e q l c h
  have e1 : binOp .eql t (.slice q l c) (.slice none 0 0) = (do pure (.bool (← Op.equal t (.slice q l c) (.slice none 0 0)))) := rfl
  simp only [eqSem, eqGuard_at_slice, pure_bind, e1, Sem.run_bind, this, Result.andThen_ok, Sem.run_pure]
theorem run_neqnil (h : P.underlying t = some (.slice e)) (q : Option Addr) (l c : Nat) : (eqSem .neq t X Y (.slice q l c) (.slice none 0 0)).run P w = .ok (.bool (!q.isNone)) w := by
  have := run_equal_slice_nil (P := P) w t e q l c h
  have e1 : binOp .neq t (.slice q l c) (.slice none 0 0) = (do pure (.bool (!(← Op.equal t (.slice q l c) (.slice none 0 0))))) := rfl
  simp only [eqSem, eqGuard_at_slice, pure_bind, e1, Sem.run_bind, this, Result.andThen_ok, Sem.run_pure]
end
theorem isNone_ne {α : Type} {q : Option α} (h : q ≠ none) : q.isNone = false := by cases q with
  | none => exact absurd rfl h
  | some a => rfl
theorem Blk.put {w w1 : World} {b : Nat} {t : TypeId} {cs : Array Value} (h : Blk w b t cs) {i : Nat} {v : Value} (e : w1 = setCells ((⟨b, 0, none⟩ : Addr).add i) 0 [v] w) : Blk w1 b t (cs.setIfInBounds i v) ∧ Chg (fun k => k = b) w w1 := by
  rw [add_mk, Nat.zero_add] at e
  exact ⟨h.sets' e, (Chg.refl _ w).sets' e (.inl rfl)⟩
theorem Blk.put0 {w w1 : World} {b : Nat} {t : TypeId} {cs : Array Value} (h : Blk w b t cs) {v : Value} (e : w1 = setCells (⟨b, 0, none⟩ : Addr) 0 [v] w) : Blk w1 b t (cs.setIfInBounds 0 v) ∧ Chg (fun k => k = b) w w1 :=
  ⟨h.sets' e, (Chg.refl _ w).sets' e (.inl rfl)⟩
theorem sum_set : ∀ {l : List Int} {i : Nat} {x y : Int}, l[i]? = some x → (l.set i y).sum = l.sum + (y - x)
  | [], i, x, y, h => by simp at h
  | a :: l, 0, x, y, h => by simp at h; subst h; simp; omega
  | a :: l, i + 1, x, y, h => by
    have := sum_set (l := l) (i := i) (x := x) (y := y) (by simpa using h)
    simp [this]; omega
theorem mem_set {α : Type} {l : List α} {i : Nat} {y z : α} (h : z ∈ l.set i y) : z = y ∨ z ∈ l := by
  rcases List.mem_or_eq_of_mem_set h with h | h
  · exact .inr h
  · exact .inl h
theorem meas {i l : Nat} (h : i < l) : l - ((i : Int) + 1).toNat < l - (i : Int).toNat := by omega
/-- a new block -/
theorem newBox {w : World} {t : TypeId} {cs : Array Value} {C : World → Prop} (h : ∀ w1, Blk w1 w.heap.size t cs → Chg none_ w w1 → w1.heap.size = w.heap.size + 1 → C w1) : ∀ w1, w1 = w.alloc (.cells cs t) → C w1 :=
  fun w1 e => h w1 (new_blk e) ((Chg.refl none_ w).new' e) (new_size e)
/-- a new block, written over at once -/
theorem boxed {w : World} {t : TypeId} {zs : Array Value} {vs : List Value} {n : Nat} {C : World → Prop} (hn : n = zs.size) (hv : vs.length = zs.size) (h : ∀ w3, Blk w3 w.heap.size t vs.toArray → Chg none_ w w3 → w3.heap.size = w.heap.size + 1 → C w3) :
    ∀ w2, w2 = w.alloc (.cells zs t) → canStore w2 (⟨w.heap.size, 0, none⟩ : Addr) n ∧ ∀ w3, w3 = setCells (⟨w.heap.size, 0, none⟩ : Addr) 0 vs w2 → C w3 := fun w2 e2 => by
  have B2 := new_blk e2
  refine ⟨B2.canStore (by omega), fun w3 e3 => h w3 (B2.over e3 hv) (((Chg.refl none_ w).new' e2).sets' e3 (.inr (Nat.le_refl _))) ?_⟩
  rw [e3, setCells_size, new_size e2]
/-- a block, written over as a whole -/
theorem Blk.store {w : World} {b : Nat} {t : TypeId} {cs : Array Value} {vs : List Value} {n : Nat} {C : World → Prop} (B : Blk w b t cs) (hn : n = cs.size) (hv : vs.length = cs.size) (h : ∀ w3, Blk w3 b t vs.toArray → Chg (fun k => k = b) w w3 → w3.heap.size = w.heap.size → C w3) :
    Vc.canStore w (⟨b, 0, none⟩ : Addr) n ∧ ∀ w3, w3 = setCells (⟨b, 0, none⟩ : Addr) 0 vs w → C w3 :=
  ⟨B.canStore (by omega), fun w3 e3 => h w3 (B.over e3 hv) ((Chg.refl _ w).sets' e3 (.inl rfl)) (by rw [e3, setCells_size])⟩
end Go.Vc
