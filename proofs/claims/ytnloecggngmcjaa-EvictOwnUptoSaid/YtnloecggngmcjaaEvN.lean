import Derived.Test.YtnloecggngmcjaaEvM
import Derived.Test.YtnloecggngmcjaaAp2
set_option maxRecDepth 20000
namespace Go.Proofs.Ytnloecggngmcjaa
open Go Go.Vc Go.RowKit Go.Vc.Ring
/-! # the reference's victims -/
structure Rs where
  rb : Nat
  k : Int
  n : Int
  kp : Int
  q1 : Option Addr
  n1 : Nat
  c1 : Nat
  q2 : Option Addr
  n2 : Nat
  c2 : Nat
  line : Ln
def Rs.own (r : Rs) (k : Nat) : Prop := k = r.rb ∨ qBlock r.q1 = some k ∨ qBlock r.q2 = some k
abbrev bv (b : Bool) : Value := .bool b
abbrev refA (r : Rs) : Array Value := #[.int .i64 r.k, .int .i64 r.n, .int .i64 r.kp, .slice r.q1 r.n1 r.c1, .slice r.q2 r.n2 r.c2]
structure RInv (base : Nat) (r : Rs) (w : World) : Prop where
  hb : Blk w r.rb 64 (refA r)
  s1 : Sl w base 3 r.q1 r.n1 r.c1 (r.line.map fun e => iv e.1)
  s2 : Sl w base 4 r.q2 r.n2 r.c2 (r.line.map fun e => bv e.2)
  ge : base ≤ r.rb
  few : r.line.length ≤ 256
  num : 1 ≤ r.n ∧ r.n ≤ 256
structure RStep (base : Nat) (r : Rs) (w : World) (r' : Rs) (w' : World) : Prop where
  inv : RInv base r' w'
  rb : r'.rb = r.rb
  k : r'.k = r.k
  n : r'.n = r.n
  kp : r'.kp = r.kp
  chg : Chg r.own w w'
  own : ∀ k, r'.own k → r.own k ∨ w.heap.size ≤ k
section
variable {base : Nat} {r : Rs} {w : World}
theorem RInv.refl (h : RInv base r w) : RStep base r w r w := ⟨h, rfl, rfl, rfl, rfl, Chg.refl _ _, fun _ h => .inl h⟩
theorem RStep.trans {r' r'' : Rs} {w' w'' : World} (h : RStep base r w r' w') (k : RStep base r' w' r'' w'') : RStep base r w r'' w'' :=
  ⟨k.inv, k.rb.trans h.rb, k.k.trans h.k, k.n.trans h.n, k.kp.trans h.kp, h.chg.trans' k.chg h.own, fun i hi => by
    rcases k.own i hi with h1 | h1
    · exact h.own i h1
    · exact .inr (Nat.le_trans h.chg.size h1)⟩
theorem RInv.lt (h : RInv base r w) {k : Nat} (hk : r.own k) : k < w.heap.size ∧ base ≤ k := by
  rcases hk with rfl | hk | hk
  · exact ⟨h.hb.lt, h.ge⟩
  · exact h.s1.lt hk
  · exact h.s2.lt hk
theorem RInv.chg (h : RInv base r w) {S : Nat → Prop} {w' : World} (c : Chg S w w') (hs : ∀ k, r.own k → ¬ S k) : RInv base r w' :=
  ⟨c.blk h.hb (hs _ (.inl rfl)), h.s1.chg c (fun g hg => hs g (.inr (.inl hg))), h.s2.chg c (fun g hg => hs g (.inr (.inr hg))), h.ge, h.few, h.num⟩
theorem RInv.low (h : RInv base r w) : base ≤ w.heap.size := Nat.le_trans h.ge (Nat.le_of_lt h.hb.lt)
theorem nb1 {w : World} {q : Option Addr} {l c b : Nat} {e t : TypeId} {xs : List Value} {cs : Array Value} (s : Sl w base e q l c xs) (hb : Blk w b t cs) (ht : t ≠ e) : ∀ g, qBlock q = some g → g ≠ b := fun g hg e' => by
  obtain ⟨cs', hc⟩ := Sl.blk s hg
  subst e'
  exact ht (hb.type hc).1
theorem nb2 {w : World} {q q' : Option Addr} {l c l' c' : Nat} {e e' : TypeId} {xs xs' : List Value} (s : Sl w base e q l c xs) (s' : Sl w base e' q' l' c' xs') (ht : e ≠ e') : ∀ g, qBlock q = some g → ¬ qBlock q' = some g := fun g hg hg' => by
  obtain ⟨cs, hc⟩ := Sl.blk s hg
  obtain ⟨cs', hc'⟩ := Sl.blk s' hg'
  exact ht (hc.type hc').1
theorem put37 (h : RInv base r w) (z : Int) (m : Bool) (hf : r.line.length < 256) : Calls Try.prog 37 #[.pointer (some (ad r.rb)), .int .i64 z, .bool m] w (Ret fun u w' => u = .tuple #[] ∧ ∃ r', RStep base r w r' w' ∧ r'.line = r.line ++ [(z, m)]) := by
  have hbase := h.low
  have ln1 := h.s1.1
  have ln2 := h.s2.1
  simp only [List.length_map] at ln1 ln2
  refine f37.calls _ _ _ ?_
  unfold f37.wp
  refine onPtr_mk ⟨_, _, _, (h.hb.cell0 3).trans rfl, fun w1 e1 => ?_⟩
  have cc1 := (Chg.refl none_ w).new' e1
  have I1 := h.chg cc1 (fun _ _ hf => hf)
  obtain ⟨q1', c1', w2, hr1, t1, k1, at1⟩ := I1.s1.append1 (P := Try.prog) (t := 36) (ty := 36) (z := .int .i64 0) (bytes := 8) Try.underlying36 (by kernel_rfl) rfl (new_blk e1) rfl (by simp only [maxLen]; omega) (by omega) I1.low
  refine ⟨q1', _, c1', w2, hr1, ?_⟩
  have B2 := k1.blk I1.hb (fun hc => nb1 I1.s1 I1.hb (by decide) _ hc.symm rfl)
  have T2 := I1.s2.chg k1 (fun g hg hc => nb2 I1.s1 I1.s2 (by decide) g hc.symm hg)
  have n1 := nb1 t1 B2 (by decide)
  have n2 := nb1 T2 B2 (by decide)
  refine onPtr_mk ⟨B2.canStore0 (by simp), fun w3 e3 => ?_⟩
  have e3' := e3
  rw [add_mk, Nat.zero_add] at e3'
  have B3 := B2.sets' e3'
  have x3 : Chg (fun k => k = r.rb) w2 w3 := (Chg.refl _ w2).sets' e3 (.inl (by rw [add_block]))
  have t3 := t1.chg x3 (fun g hg hc => n1 g hg hc)
  have T3 := T2.chg x3 (fun g hg hc => n2 g hg hc)
  simp only [putC, refA] at B3
  refine onPtr_mk ⟨_, _, _, (B3.cell0 4).trans rfl, fun w4 e4 => ?_⟩
  have cc4 := (Chg.refl none_ w3).new' e4
  have B4 := cc4.blk B3 (fun x => x)
  have t4 := t3.chg cc4 (fun _ _ hf => hf)
  have T4 := T3.chg cc4 (fun _ _ hf => hf)
  have hb4 : base ≤ w4.heap.size := Nat.le_trans h.ge (Nat.le_of_lt B4.lt)
  obtain ⟨q2', c2', w5, hr2, t5, k5, at5⟩ := T4.append1 (P := Try.prog) (t := 62) (ty := 62) (z := .bool false) (bytes := 1) Try.underlying62 (by kernel_rfl) rfl (new_blk e4) rfl (by simp only [maxLen]; omega) (by omega) hb4
  refine ⟨q2', _, c2', w5, hr2, ?_⟩
  have B5 := k5.blk B4 (fun hc => nb1 T4 B4 (by decide) _ hc.symm rfl)
  have U5 := t4.chg k5 (fun g hg hc => nb2 T4 t4 (by decide) g hc.symm hg)
  have n5 := nb1 t5 B5 (by decide)
  have m5 := nb1 U5 B5 (by decide)
  refine onPtr_mk ⟨B5.canStore0 (by simp), fun w6 e6 => ?_⟩
  have e6' := e6
  rw [add_mk, Nat.zero_add] at e6'
  have B6 := B5.sets' e6'
  have x6 : Chg (fun k => k = r.rb) w5 w6 := (Chg.refl _ w5).sets' e6 (.inl (by rw [add_block]))
  simp only [putC] at B6
  have c12 : Chg r.own w w2 := (cc1.mono (fun _ _ hf => hf.elim)).trans' k1 (fun i hi => .inl (.inr (.inl hi.symm)))
  have c13 : Chg r.own w w3 := c12.trans' x3 (fun i hi => .inl (.inl hi))
  have c14 : Chg r.own w w4 := c13.trans' cc4 (fun i hi => hi.elim)
  have c15 : Chg r.own w w5 := c14.trans' k5 (fun i hi => .inl (.inr (.inr hi.symm)))
  have c16 : Chg r.own w w6 := c15.trans' x6 (fun i hi => .inl (.inl hi))
  refine ⟨rfl, { r with q1 := q1', n1 := r.n1 + 1, c1 := c1', q2 := q2', n2 := r.n2 + 1, c2 := c2', line := r.line ++ [(z, m)] }, ⟨⟨B6, ?_, ?_, h.ge, by simp; omega, h.num⟩, rfl, rfl, rfl, rfl, c16, ?_⟩, rfl⟩
  · simpa using U5.chg x6 (fun g hg hc => m5 g hg hc)
  · simpa using t5.chg x6 (fun g hg hc => n5 g hg hc)
  · rintro i (hi | hi | hi)
    · exact .inl (.inl hi)
    · have hi' : qBlock q1' = some i := hi
      rcases at1 with h1 | h1
      · exact .inl (.inr (.inl (h1 ▸ hi')))
      · rw [h1] at hi'
        have := cc1.size
        simp at hi'
        exact .inr (by omega)
    · have hi' : qBlock q2' = some i := hi
      rcases at5 with h1 | h1
      · exact .inl (.inr (.inr (h1 ▸ hi')))
      · rw [h1] at hi'
        have := c14.size
        simp at hi'
        exact .inr (by omega)
end
end Go.Proofs.Ytnloecggngmcjaa
