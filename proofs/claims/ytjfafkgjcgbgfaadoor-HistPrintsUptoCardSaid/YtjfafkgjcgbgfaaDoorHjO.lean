import Derived.Test.YtjfafkgjcgbgfaaDoorHjN
import Derived.Test.YtjfafkgjcgbgfaaDoorHjF
set_option maxRecDepth 20000
namespace Go.Proofs.YtjfafkgjcgbgfaaDoor
open Go Go.Vc Go.RowKit
structure Bg where
  call : Int
  move : Int
  back : Bool
def En.bg : En Bg := ⟨3, fun b => [.int .i64 b.call, .int .i64 b.move, .bool b.back], fun _ => rfl, fun _ v hv => by simp at hv; rcases hv with rfl | rfl | rfl <;> rfl, by decide⟩
def BgIs (b : Bg) (x : Nat × Option Nat) : Prop := match x.2 with
  | none => b.call = (x.1 : Int) - 1 ∧ b.back = true
  | some j => b.call = x.1 ∧ b.move = j ∧ b.back = false
def Bgs (bs : List Bg) (ss : List (Nat × Option Nat)) : Prop := bs.length = ss.length ∧ ∀ (t : Nat) (b : Bg) (x : Nat × Option Nat), bs[t]? = some b → ss[t]? = some x → BgIs b x
theorem Bgs.set {bs : List Bg} {ss : List (Nat × Option Nat)} (h : Bgs bs ss) (t : Nat) {b : Bg} {x : Nat × Option Nat} (hb : BgIs b x) : Bgs (bs.set t b) (ss.set t x) := by
  refine ⟨by simp [h.1], fun t' b' x' h1 h2 => ?_⟩
  rw [List.getElem?_set] at h1 h2
  split at h1
  · rename_i e
    rw [if_pos e] at h2
    split at h1
    · split at h2
      · cases h1; cases h2; exact hb
      · cases h2
    · cases h1
  · rename_i e
    rw [if_neg e] at h2
    exact h.2 t' b' x' h1 h2
theorem set_same {α : Type} {l : List α} {i : Nat} {x : α} (h : l[i]? = some x) : l.set i x = l := by
  apply List.ext_getElem?
  intro j
  rw [List.getElem?_set]
  split
  · rename_i e; subst e
    rw [if_pos (get_lt h), h]
  · rfl
theorem reads_block {w : World} {p : Addr} {v : Value} {vs : List Value} (h : reads w p (v :: vs)) (j : Nat) : (p.add j).block < w.heap.size := by
  have := cell_some (h 0 v rfl)
  rw [add_block] at this ⊢; exact this
theorem putO {w w' : World} {base : Nat} {e : TypeId} {q : Option Addr} {l c : Nat} {ys : List Mv} {j o : Nat} {x : Mv} (x' : Mv) {a : Addr} {vs : List Value} (h : SE En.mv w base e q l c (ys.set j x)) (hj : j < ys.length) (ha : q = some a) (ho : o + vs.length ≤ 8)
    (hv : ∀ i, (En.mv.enc x')[i]? = if o ≤ i ∧ i < o + vs.length then vs[i - o]? else (En.mv.enc x)[i]?) (e1 : w' = setCells ((a.add (j * 8)).add o) 0 vs w) : SE En.mv w' base e q l c (ys.set j x') ∧ Chg (fun k => some k = qB q) w w' := by
  have := h.setAt ha (x := x) (x' := x') (i := j) (o := o) (vs := vs) (by simp [hj]) ho hv e1
  rwa [List.set_set] at this
theorem keepsBut {w w' : World} {a : Addr} (h : Chg (fun k => some k = qB (some a)) w w') : Keeps (fun p => p.block < w.heap.size ∧ p.block ≠ a.block) w w' := fun p hp => h.cell hp.1 fun e => hp.2 (by simpa [qB] using e)
/-- what lifeMoves tells -/
def LifeR (p : P) (es : List Ev) (w : World) (v : Value) (w' : World) : Prop := Chg none_ w w' ∧
  ((∃ q l c out, v = .tuple #[.slice q l c, .bool true] ∧ lifeX p es = some out ∧ SE En.mv w' w.heap.size 33 q l c out ∧ out.length ≤ es.length) ∨ (v = .tuple #[.slice none 0 0, .bool false] ∧ lifeX p es = none))
theorem kpP_eq {b : Bool} {k : Int} (h : b = true ↔ k = 1 ∨ k = 2 ∨ k = 3) : kpP k = b := by
  unfold kpP
  by_cases h1 : k = 1
  · subst h1; simp [h.2 (.inl rfl)]
  · by_cases h2 : k = 2
    · subst h2; simp [h.2 (.inr (.inl rfl))]
    · by_cases h3 : k = 3
      · subst h3; simp [h.2 (.inr (.inr rfl))]
      · have : b = false := by cases b with | false => rfl | true => have := h.1 rfl; omega
        simp [h1, h2, h3, this]
end Go.Proofs.YtjfafkgjcgbgfaaDoor
