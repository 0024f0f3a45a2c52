import Derived.Test.YtdlbmmodlkmofaaDoorPlI
set_option maxRecDepth 20000
namespace Go.Proofs.YtdlbmmodlkmofaaDoor
open Go Go.Vc Go.RowKit
theorem find_at {α : Type} {p : α → Bool} : ∀ {l : List α} {i : Nat} {f : α}, l[i]? = some f → p f = true → (∀ (j : Nat) (g : α), j < i → l[j]? = some g → p g = false) → l.find? p = some f
  | [], i, f, h, _, _ => by simp at h
  | x :: l, 0, f, h, hp, _ => by
    simp at h; subst h
    simp [hp]
  | x :: l, i + 1, f, h, hp, hn => by
    have hx : p x = false := hn 0 x (by omega) rfl
    rw [List.find?_cons, hx]
    exact find_at (i := i) (by simpa using h) hp fun j g hj hg => hn (j + 1) g (by omega) (by simpa using hg)
theorem find_no {α : Type} {p : α → Bool} {l : List α} (h : ∀ (j : Nat) (g : α), l[j]? = some g → p g = false) : l.find? p = none := by
  rw [List.find?_eq_none]
  intro x hx
  obtain ⟨j, hj⟩ := List.getElem?_of_mem hx
  rw [h j x hj]; decide
def orNo (o : Option T3) (d : T3) : T3 × Bool := match o with | some f => (f, true) | none => (d, false)
def isF (op nth : Int) : T3 → Bool := fun f => f.1 == op && f.2.1 == nth
def faultOf (fs : List T3) (op nth : Int) : T3 × Bool := orNo (fs.find? (isF op nth)) (0, 0, 0)
def FauR (w : World) (fs : List T3) (op nth : Int) (v : Value) (w' : World) : Prop := v = .tuple #[.agg (En.t3.enc (faultOf fs op nth).1).toArray, .bool (faultOf fs op nth).2] ∧ Chg none_ w w'
theorem over3 {w w1 : World} {b : Nat} {t : TypeId} {cs : Array Value} (B : Blk w b t cs) (hs : cs.size = 3) {x : T3} (e : w1 = setCells (⟨b, 0, none⟩ : Addr) 0 [.int .i64 x.1, .int .i64 x.2.1, .int .i64 x.2.2] w) : Blk w1 b t (En.t3.enc x).toArray := B.over e hs.symm
theorem faulty17 {w : World} {q1 q2 : Option Addr} {l1 c1 l2 c2 : Nat} {fs : List T3} (op nth : Int) (h : RE En.t3 w q1 l1 fs) (hl : l1 ≤ 9223372036854775807) :
    Calls Tryd.prog 17 #[.agg #[.slice q1 l1 c1, .slice q2 l2 c2], .int .i64 op, .int .i64 nth] w (Ret (FauR w fs op nth)) := by
  refine f17.calls _ _ _ _ _ _ _ _ ?_
  unfold f17.wp
  have hlen := h.len
  refine newBox fun w1 B1 k1 _ => newBox fun w2 B2 k2 _ => ⟨_, _, _, ((k2.blk B1 (fun x => x)).cell 0).trans rfl, ?_⟩
  have k02 := k1.trans k2
  have hw1 := k1.size
  have hout : ∀ {w' : World}, Chg none_ w2 w' → Blk w' w1.heap.size 37 #[.int .i64 0, .int .i64 0, .int .i64 0] := fun k => k.blk B2 (fun x => x)
  refine ⟨fun x w' => ∃ i : Nat, x = i ∧ i ≤ l1 ∧ Chg none_ w2 w' ∧ ∀ j g, j < i → fs[j]? = some g → isF op nth g = false, fun x _ => l1 - x.toNat, ⟨0, rfl, Nat.zero_le _, Chg.refl _ _, fun j g hj => by omega⟩, ?_⟩
  rintro x w3 ⟨i, rfl, hi, k3, hin⟩
  refine bc (fun hlt => ?_) (fun hge => ?_)
  · have hi' : i < l1 := by simpa using hlt
    obtain ⟨a, f, rfl, hf, hr⟩ := (h.chg (k02.trans k3)).ex hi'
    rw [wrapS (x := (i : Int) + 1) (by omega) (by omega)]
    refine onPtr_mk ⟨by omega, by omega, _, _, _, hr, boxed rfl rfl fun w5 B5 k5 _ => ?_⟩
    have k35 := k3.trans k5
    have next : isF op nth f = false → (∃ i' : Nat, ((i : Int) + 1) = i' ∧ i' ≤ l1 ∧ Chg none_ w2 w5 ∧ ∀ j g, j < i' → fs[j]? = some g → isF op nth g = false) ∧ l1 - ((i : Int) + 1).toNat < l1 - ((i : Int)).toNat := fun hn => ⟨⟨i + 1, by omega, hi', k35, fun j g hj hg => by
      rcases Nat.lt_or_ge j i with h1 | h1
      · exact hin j g h1 hg
      · have : j = i := by omega
        subst this
        rw [hf] at hg; cases hg
        exact hn⟩, meas hi'⟩
    refine ⟨_, (B5.cell 0).trans rfl, bc (fun h1 => ⟨_, (B5.cell0 1).trans rfl, bc (fun h2 => ?_) (fun h2 => next ?_)⟩) (fun h1 => next ?_)⟩
    · refine ⟨_, _, _, B5.reads0, (hout k35).canStore (by show 0 + 3 ≤ 3; decide), fun w6 e6 => ⟨_, _, _, (over3 (hout k35) rfl e6).reads0, ?_, (k02.trans k35).sets' e6 (.inr hw1)⟩⟩
      rw [faultOf, find_at hf (by simp [isF, h1, h2]) hin]
      rfl
    · simp only [isF, h2, Bool.and_false]
    · simp only [isF, h1, Bool.false_and]
  · have hge : ¬ i < l1 := by simpa using hge
    refine ⟨(hout k3).canStore (by show 0 + 3 ≤ 3; decide), fun w6 e6 => ⟨_, _, _, (over3 (x := (0, 0, 0)) (hout k3) rfl e6).reads0, ?_, ?_⟩⟩
    · rw [faultOf, find_no fun j g hg => hin j g (by have := get_lt hg; omega) hg]
      rfl
    · exact (k02.trans k3).sets' e6 (.inr hw1)
theorem faulty18 {w : World} {q1 q2 : Option Addr} {l1 c1 l2 c2 : Nat} {fs : List T3} (op nth : Int) (h : RE En.t3 w q1 l1 fs) (hl : l1 ≤ 9223372036854775807) :
    Calls Tryd.prog 18 #[.agg #[.slice q1 l1 c1, .slice q2 l2 c2], .int .i64 op, .int .i64 nth] w (Ret (FauR w fs op nth)) := by
  refine f18.calls _ _ _ _ _ _ _ _ ?_
  unfold f18.wp
  have hlen := h.len
  refine newBox fun w1 B1 k1 _ => newBox fun w2 B2 k2 _ => ⟨_, _, _, ((k2.blk B1 (fun x => x)).cell 0).trans rfl, ?_⟩
  have k02 := k1.trans k2
  have hw1 := k1.size
  have hout : ∀ {w' : World}, Chg none_ w2 w' → Blk w' w1.heap.size 37 #[.int .i64 0, .int .i64 0, .int .i64 0] := fun k => k.blk B2 (fun x => x)
  refine ⟨fun x w' => ∃ i : Nat, x = i ∧ i ≤ l1 ∧ Chg none_ w2 w' ∧ ∀ j g, j < i → fs[j]? = some g → isF op nth g = false, fun x _ => l1 - x.toNat, ⟨0, rfl, Nat.zero_le _, Chg.refl _ _, fun j g hj => by omega⟩, ?_⟩
  rintro x w3 ⟨i, rfl, hi, k3, hin⟩
  refine bc (fun hlt => ?_) (fun hge => ?_)
  · have hi' : i < l1 := by simpa using hlt
    obtain ⟨a, f, rfl, hf, hr⟩ := (h.chg (k02.trans k3)).ex hi'
    rw [wrapS (x := (i : Int) + 1) (by omega) (by omega)]
    refine onPtr_mk ⟨by omega, by omega, _, _, _, hr, boxed rfl rfl fun w5 B5 k5 _ => ?_⟩
    have k35 := k3.trans k5
    have next : isF op nth f = false → (∃ i' : Nat, ((i : Int) + 1) = i' ∧ i' ≤ l1 ∧ Chg none_ w2 w5 ∧ ∀ j g, j < i' → fs[j]? = some g → isF op nth g = false) ∧ l1 - ((i : Int) + 1).toNat < l1 - ((i : Int)).toNat := fun hn => ⟨⟨i + 1, by omega, hi', k35, fun j g hj hg => by
      rcases Nat.lt_or_ge j i with h1 | h1
      · exact hin j g h1 hg
      · have : j = i := by omega
        subst this
        rw [hf] at hg; cases hg
        exact hn⟩, meas hi'⟩
    refine ⟨_, (B5.cell 0).trans rfl, bc (fun h1 => ⟨_, (B5.cell0 1).trans rfl, bc (fun h2 => ?_) (fun h2 => next ?_)⟩) (fun h1 => next ?_)⟩
    · refine ⟨_, _, _, B5.reads0, (hout k35).canStore (by show 0 + 3 ≤ 3; decide), fun w6 e6 => ⟨_, _, _, (over3 (hout k35) rfl e6).reads0, ?_, (k02.trans k35).sets' e6 (.inr hw1)⟩⟩
      rw [faultOf, find_at hf (by simp [isF, h1, h2]) hin]
      rfl
    · simp only [isF, h2, Bool.and_false]
    · simp only [isF, h1, Bool.false_and]
  · have hge : ¬ i < l1 := by simpa using hge
    refine ⟨(hout k3).canStore (by show 0 + 3 ≤ 3; decide), fun w6 e6 => ⟨_, _, _, (over3 (x := (0, 0, 0)) (hout k3) rfl e6).reads0, ?_, ?_⟩⟩
    · rw [faultOf, find_no fun j g hg => hin j g (by have := get_lt hg; omega) hg]
      rfl
    · exact (k02.trans k3).sets' e6 (.inr hw1)
end Go.Proofs.YtdlbmmodlkmofaaDoor
