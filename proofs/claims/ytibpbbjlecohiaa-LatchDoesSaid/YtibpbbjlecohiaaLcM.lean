import Derived.Test.YtibpbbjlecohiaaLcH
import Derived.Test.YtibpbbjlecohiaaLbT
import Derived.Test.YtibpbbjlecohiaaLbO
set_option maxRecDepth 20000
namespace Go.Proofs.Ytibpbbjlecohiaa
namespace Full
open Go Go.Vc Go.RowKit
/-! # a call of a task, of the document -/
def WokeQ (w w' : World) (base Q o : Nat) (g : GR) (q : Option Addr) (l : Nat) (r : List Int) (s' : R8) : Prop :=
  RE En.int w' q l r ∧ (∀ b, qB q = some b → w.heap.size ≤ b ∧ b < w'.heap.size) ∧ ∃ g', InvR w' base Q o g' s' ∧ StpR o w g w' g' ∧ ∀ b, qB q = some b → ¬ OwnR g' o b
theorem WokeR.q {w w' : World} {base Q o : Nat} {g : GR} {q : Option Addr} {l c : Nat} {wk : List Int} {r' : R8} (h : WokeR w w' base Q o g q l c wk r') : WokeQ w w' base Q o g q l wk r' := by
  obtain ⟨A, g', I, st⟩ := h
  refine ⟨A.re, fun b hb => ⟨(A.lt hb).2, (A.lt hb).1⟩, g', I, st, fun b hb => ?_⟩
  obtain ⟨cs, B⟩ := A.blk hb
  exact I.not_own B (by decide)
theorem WokeQ.up {w w' : World} {base Q Q' o : Nat} {g : GR} {q : Option Addr} {l : Nat} {r : List Int} {s' : R8} (h : WokeQ w w' base Q o g q l r s') (hQ : Q ≤ Q') : WokeQ w w' base Q' o g q l r s' := by
  obtain ⟨h1, h2, g', I, st, hn⟩ := h
  exact ⟨h1, h2, g', I.up hQ, st, hn⟩
theorem WokeQ.nil {w w' : World} {base Q o : Nat} {g g' : GR} {s' : R8} (I : InvR w' base Q o g' s') (st : StpR o w g w' g') : WokeQ w w' base Q o g none 0 [] s' := ⟨RE.nil _ _ _, fun b hb => by simp [qB] at hb, g', I, st, fun b hb => by simp [qB] at hb⟩
theorem StpR.blk {o : Nat} {w w' : World} {g g' : GR} (h : StpR o w g w' g') {b : Nat} {t : TypeId} {cs : Array Value} (B : Blk w b t cs) (hn : ¬ OwnR g o b) : Blk w' b t cs := h.chg.blk B hn
section
variable {w w' : World} {base Q o : Nat} {g : GR} {s : R8}
theorem WokeQ.put {w w3 w4 w7 : World} {q : Option Addr} {l : Nat} {r : List Int} {s' : R8} (hW : WokeQ w3 w4 base Q o g q l r s') {S : Nat → Prop} (k : Chg S w4 w7) (hS : ∀ b, S b → b < w3.heap.size ∧ ¬ OwnR g o b) (L : StpR o w g w3 g) (hlow : ∀ b, S b → w.heap.size ≤ b) : WokeQ w w7 base Q o g q l r s' := by
  obtain ⟨h1, h2, g', I, st, hn⟩ := hW
  refine ⟨h1.chgS k fun a ha hs => ?_, fun b hb => ⟨Nat.le_trans L.chg.size (h2 b hb).1, Nat.lt_of_lt_of_le (h2 b hb).2 k.size⟩, g', I.chg k fun b hb => st.nown (hS b hb).1 (hS b hb).2, ⟨(L.trans st).chg.trans' k fun b hb => .inr (hlow b hb), (L.trans st).grow⟩, hn⟩
  have := (h2 a.block (by rw [ha]; rfl)).1
  have := (hS _ hs).1
  omega
/-- the end of each way: told's block written, copied, read -/
theorem told_endR {w w3 w4 : World} {a b j : Nat} {q : Option Addr} {l c : Nat} {s' : R8} {t : Told} {v : Value} {C : Value → World → Prop} (hW : WokeQ w3 w4 base Q o g q l t.woken s') (L : StpR o w g w3 g) (T3 : Blk w3 a 42 #[.bool false, .slice none 0 0, .int .i64 0, .int .i64 0]) (D3 : Blk w3 b 42 #[.bool false, .slice none 0 0, .int .i64 0, .int .i64 0]) (hab : a ≠ b) (na : ¬ OwnR g o a) (nb : ¬ OwnR g o b) (la : w.heap.size ≤ a) (lb : w.heap.size ≤ b)
    (T4 : Blk w4 a 42 #[.bool false, .slice none 0 0, .int .i64 0, .int .i64 0]) (D4 : Blk w4 b 42 #[.bool false, .slice none 0 0, .int .i64 0, .int .i64 0]) (hj : j < 3)
    (hres : putC (putC #[.bool false, .slice none 0 0, .int .i64 0, .int .i64 0] j [v]) 3 [.int .i64 t.err] = #[.bool t.got, .slice q l c, .int .i64 t.n, .int .i64 t.err])
    (hC : ∀ w7, WokeQ w w7 base Q o g q l t.woken s' → C (.agg #[.bool t.got, .slice q l c, .int .i64 t.n, .int .i64 t.err]) w7) :
    canStore w4 ⟨a, j, none⟩ 1 ∧ ∀ w5 : World, w5 = setCells (⟨a, j, none⟩ : Addr) 0 [v] w4 → canStore w5 ((⟨a, 0, none⟩ : Addr).add 3) 1 ∧ ∀ w6 : World, w6 = setCells ((⟨a, 0, none⟩ : Addr).add 3) 0 [.int .i64 t.err] w5 →
      ∃ b2 : Bool, ∃ (q1 : Option Addr) (l1 c1 : Nat), ∃ n5 : Int, ∃ n6 : Int, reads w6 (⟨a, 0, none⟩ : Addr) [.bool b2, .slice q1 l1 c1, .int .i64 n5, .int .i64 n6] ∧ canStore w6 (⟨b, 0, none⟩ : Addr) 4 ∧
      ∀ w7 : World, w7 = setCells (⟨b, 0, none⟩ : Addr) 0 [.bool b2, .slice q1 l1 c1, .int .i64 n5, .int .i64 n6] w6 →
      ∃ b3 : Bool, ∃ (q2 : Option Addr) (l2 c2 : Nat), ∃ n7 : Int, ∃ n8 : Int, reads w7 (⟨b, 0, none⟩ : Addr) [.bool b3, .slice q2 l2 c2, .int .i64 n7, .int .i64 n8] ∧ C (.agg #[.bool b3, .slice q2 l2 c2, .int .i64 n7, .int .i64 n8]) w7 := by
  refine ⟨T4.canStore (by show j + 1 ≤ 4; omega), fun w5 e5 => ?_⟩
  have T5 := T4.sets' e5
  have k5 : Chg (fun k => k = a ∨ k = b) w4 w5 := (Chg.refl _ w4).sets' e5 (.inl (.inl rfl))
  have D5 := D4.far' e5 (fun e => hab e.symm)
  have hsz : (putC #[Value.bool false, .slice none 0 0, .int .i64 0, .int .i64 0] (j + 0) [v]).size = 4 := by
    rcases j with _ | _ | _ | j <;> first | rfl | omega
  refine ⟨T5.canStore0 (by rw [hsz]; decide), fun w6 e6 => ?_⟩
  rw [add_mk, Nat.zero_add] at e6
  have T6 := T5.sets' e6
  have k6 : Chg (fun k => k = a ∨ k = b) w5 w6 := (Chg.refl _ w5).sets' e6 (.inl (.inl rfl))
  have D6 := D5.far' e6 (fun e => hab e.symm)
  rw [show putC (putC #[Value.bool false, .slice none 0 0, .int .i64 0, .int .i64 0] (j + 0) [v]) (3 + 0) [.int .i64 t.err] = #[.bool t.got, .slice q l c, .int .i64 t.n, .int .i64 t.err] from hres] at T6
  refine ⟨_, _, _, _, _, _, T6.reads0, D6.canStore (by show 0 + 4 ≤ 4; decide), fun w7 e7 => ?_⟩
  have D7 := D6.over e7 rfl
  have k7 : Chg (fun k => k = a ∨ k = b) w6 w7 := (Chg.refl _ w6).sets' e7 (.inl (.inr rfl))
  exact ⟨_, _, _, _, _, _, D7.reads0, hC w7 (hW.put (k5.trans (k6.trans k7)) (fun x hx => by
    rcases hx with rfl | rfl
    · exact ⟨T3.lt, na⟩
    · exact ⟨D3.lt, nb⟩) L (fun x hx => by
    rcases hx with rfl | rfl
    · exact la
    · exact lb))⟩
def DoneQ (w : World) (base Q o : Nat) (g : GR) (t : Told) (s' : R8) (v : Value) (w' : World) : Prop := ∃ q l c, v = .agg #[.bool t.got, .slice q l c, .int .i64 t.n, .int .i64 t.err] ∧ WokeQ w w' base Q o g q l t.woken s'
theorem must33 (h : InvR w base Q o g s) (hm : CondM s) (hQ : Q ≤ 4398046511104) (task kind n m : Int) :
    Calls Try.prog 33 #[.pointer (some (ad o)), .agg #[.int .i64 task, .int .i64 kind, .int .i64 n, .int .i64 m]] w (Ret (DoneQ w base (Q + 1) o g (mustR s task kind n m).1 (mustR s task kind n m).2)) := by
  refine f33.calls _ _ _ _ _ ?_
  unfold f33.wp
  refine newBox fun w1 B1 k1 s1 => newBox fun w2 D2 k2 s2 => newBox fun w3 T3 k3 s3 => ?_
  have k13 := k2.trans k3
  have k03 := k1.trans k13
  have h3 := h.chgN k03
  have B3 := k13.blk B1 (fun x => x)
  have D3 := k3.blk D2 (fun x => x)
  have L : StpR o w g w3 g := StpR.ofN k03
  have n1 : ¬ OwnR g o w1.heap.size := fun ho => by have := (h.own_lt ho).1; omega
  have n2 : ¬ OwnR g o w2.heap.size := fun ho => by have := (h.own_lt ho).1; omega
  have hab : w2.heap.size ≠ w1.heap.size := by omega
  refine ⟨_, (B3.cell0 1).trans rfl, ?_⟩
  refine bc (fun hk => ?_) (fun hk1 => ?_)
  · have hk : kind = 1 := by simpa using hk
    subst hk
    refine ⟨_, (B3.cell 0).trans rfl, _, (B3.cell0 2).trans rfl, Calls.use (rLock65 h3 hQ task n) ?_⟩
    rintro _ w4 ⟨rfl, g4, I4, st4⟩
    refine ⟨_, _, rfl, told_endR (j := 0) (q := none) (l := 0) (c := 0) (t := ⟨(lockR s task n).1, [], 0, (lockR s task n).2.1⟩) (s' := (lockR s task n).2.2) (WokeQ.nil I4 st4) L T3 D3 hab n2 n1 (by omega) (by omega) (st4.blk T3 n2) (st4.blk D3 n1) (by decide) rfl fun w7 hW => ⟨none, 0, 0, rfl, hW⟩⟩
  refine bc (fun hk => ?_) (fun hk2 => ?_)
  · have hk : kind = 2 := by simpa using hk
    subst hk
    refine ⟨_, (B3.cell 0).trans rfl, _, (B3.cell0 2).trans rfl, Calls.use (rUnlock66 h3 hQ task n) ?_⟩
    rintro _ w4 ⟨q, l, c, rfl, hW⟩
    have hW := hW.q.up (Nat.le_succ Q)
    have st4 := hW
    obtain ⟨_, _, g4, _, st4, _⟩ := st4
    refine ⟨_, _, _, _, rfl, ?_⟩
    have := told_endR (j := 1) (v := .slice q l c) (c := c) (t := ⟨false, (unlockR s task n).1, 0, (unlockR s task n).2.1⟩) (C := DoneQ w base (Q + 1) o g (⟨false, (unlockR s task n).1, 0, (unlockR s task n).2.1⟩) (unlockR s task n).2.2) hW L T3 D3 hab n2 n1 (by omega) (by omega) (st4.blk T3 n2) (st4.blk D3 n1) (by decide) rfl fun w7 hW => ⟨q, l, c, rfl, hW⟩
    rw [add_mk, Nat.zero_add]
    rw [add_mk, Nat.zero_add] at this
    exact this
  refine bc (fun hk => ?_) (fun hk3 => ?_)
  · have hk : kind = 3 := by simpa using hk
    subst hk
    refine ⟨_, (B3.cell 0).trans rfl, _, (B3.cell0 2).trans rfl, Calls.use (rRLock67 h3 hQ task n) ?_⟩
    rintro _ w4 ⟨rfl, g4, I4, st4⟩
    refine ⟨_, _, rfl, told_endR (j := 0) (q := none) (l := 0) (c := 0) (t := ⟨(takeLR s task n 3).1, [], 0, (takeLR s task n 3).2.1⟩) (s' := (takeLR s task n 3).2.2) (WokeQ.nil I4 st4) L T3 D3 hab n2 n1 (by omega) (by omega) (st4.blk T3 n2) (st4.blk D3 n1) (by decide) rfl fun w7 hW => ⟨none, 0, 0, rfl, hW⟩⟩
  refine bc (fun hk => ?_) (fun hk4 => ?_)
  · have hk : kind = 4 := by simpa using hk
    subst hk
    refine ⟨_, (B3.cell 0).trans rfl, _, (B3.cell0 2).trans rfl, Calls.use (rRUnlock68 h3 hQ task n) ?_⟩
    rintro _ w4 ⟨q, l, c, rfl, hW⟩
    have hW := hW.q.up (Nat.le_succ Q)
    have st4 := hW
    obtain ⟨_, _, g4, _, st4, _⟩ := st4
    refine ⟨_, _, _, _, rfl, ?_⟩
    have := told_endR (j := 1) (v := .slice q l c) (c := c) (t := ⟨false, (giveLR s task n 3).1, 0, (giveLR s task n 3).2.1⟩) (C := DoneQ w base (Q + 1) o g (⟨false, (giveLR s task n 3).1, 0, (giveLR s task n 3).2.1⟩) (giveLR s task n 3).2.2) hW L T3 D3 hab n2 n1 (by omega) (by omega) (st4.blk T3 n2) (st4.blk D3 n1) (by decide) rfl fun w7 hW => ⟨q, l, c, rfl, hW⟩
    rw [add_mk, Nat.zero_add]
    rw [add_mk, Nat.zero_add] at this
    exact this
  refine bc (fun hk => ?_) (fun hk5 => ?_)
  · have hk : kind = 5 := by simpa using hk
    subst hk
    refine ⟨_, (B3.cell 0).trans rfl, _, (B3.cell0 2).trans rfl, Calls.use (rWLock69 h3 hQ task n) ?_⟩
    rintro _ w4 ⟨rfl, g4, I4, st4⟩
    refine ⟨_, _, rfl, told_endR (j := 0) (q := none) (l := 0) (c := 0) (t := ⟨(takeLR s task n 5).1, [], 0, (takeLR s task n 5).2.1⟩) (s' := (takeLR s task n 5).2.2) (WokeQ.nil I4 st4) L T3 D3 hab n2 n1 (by omega) (by omega) (st4.blk T3 n2) (st4.blk D3 n1) (by decide) rfl fun w7 hW => ⟨none, 0, 0, rfl, hW⟩⟩
  refine bc (fun hk => ?_) (fun hk6 => ?_)
  · have hk : kind = 6 := by simpa using hk
    subst hk
    refine ⟨_, (B3.cell 0).trans rfl, _, (B3.cell0 2).trans rfl, Calls.use (rWUnlock70 h3 hQ task n) ?_⟩
    rintro _ w4 ⟨q, l, c, rfl, hW⟩
    have hW := hW.q.up (Nat.le_succ Q)
    have st4 := hW
    obtain ⟨_, _, g4, _, st4, _⟩ := st4
    refine ⟨_, _, _, _, rfl, ?_⟩
    have := told_endR (j := 1) (v := .slice q l c) (c := c) (t := ⟨false, (giveLR s task n 5).1, 0, (giveLR s task n 5).2.1⟩) (C := DoneQ w base (Q + 1) o g (⟨false, (giveLR s task n 5).1, 0, (giveLR s task n 5).2.1⟩) (giveLR s task n 5).2.2) hW L T3 D3 hab n2 n1 (by omega) (by omega) (st4.blk T3 n2) (st4.blk D3 n1) (by decide) rfl fun w7 hW => ⟨q, l, c, rfl, hW⟩
    rw [add_mk, Nat.zero_add]
    rw [add_mk, Nat.zero_add] at this
    exact this
  refine bc (fun hk => ?_) (fun hk7 => ?_)
  · have hk : kind = 7 := by simpa using hk
    subst hk
    refine ⟨_, (B3.cell 0).trans rfl, _, (B3.cell0 2).trans rfl, _, (B3.cell0 3).trans rfl, Calls.use (rWait71 h3 hQ task n m) ?_⟩
    rintro _ w4 ⟨q, l, c, rfl, hW⟩
    have hW := hW.q
    have st4 := hW
    obtain ⟨_, _, g4, _, st4, _⟩ := st4
    refine ⟨_, _, _, _, rfl, ?_⟩
    have := told_endR (j := 1) (v := .slice q l c) (c := c) (t := ⟨false, (waitR s task n m).1, 0, (waitR s task n m).2.1⟩) (C := DoneQ w base (Q + 1) o g (⟨false, (waitR s task n m).1, 0, (waitR s task n m).2.1⟩) (waitR s task n m).2.2) hW L T3 D3 hab n2 n1 (by omega) (by omega) (st4.blk T3 n2) (st4.blk D3 n1) (by decide) rfl fun w7 hW => ⟨q, l, c, rfl, hW⟩
    rw [add_mk, Nat.zero_add]
    rw [add_mk, Nat.zero_add] at this
    exact this
  refine bc (fun hk => ?_) (fun hk8 => ?_)
  · have hk : kind = 8 := by simpa using hk
    subst hk
    refine ⟨_, (B3.cell 0).trans rfl, _, (B3.cell0 2).trans rfl, Calls.use (rSignal72 h3 hQ hm task n) ?_⟩
    rintro _ w4 ⟨q, l, c, rfl, hW⟩
    have hW := hW.q.up (Nat.le_succ Q)
    have st4 := hW
    obtain ⟨_, _, g4, _, st4, _⟩ := st4
    refine ⟨_, _, _, _, rfl, ?_⟩
    have := told_endR (j := 1) (v := .slice q l c) (c := c) (t := ⟨false, (sigR s task n).1, 0, (sigR s task n).2.1⟩) (C := DoneQ w base (Q + 1) o g (⟨false, (sigR s task n).1, 0, (sigR s task n).2.1⟩) (sigR s task n).2.2) hW L T3 D3 hab n2 n1 (by omega) (by omega) (st4.blk T3 n2) (st4.blk D3 n1) (by decide) rfl fun w7 hW => ⟨q, l, c, rfl, hW⟩
    rw [add_mk, Nat.zero_add]
    rw [add_mk, Nat.zero_add] at this
    exact this
  refine bc (fun hk => ?_) (fun hk9 => ?_)
  · have hk : kind = 9 := by simpa using hk
    subst hk
    refine ⟨_, (B3.cell 0).trans rfl, _, (B3.cell0 2).trans rfl, Calls.use (rBroadcast73 h3 hQ hm task n) ?_⟩
    rintro _ w4 ⟨q, l, c, rfl, hW⟩
    have hW := hW.q.up (Nat.le_succ Q)
    have st4 := hW
    obtain ⟨_, _, g4, _, st4, _⟩ := st4
    refine ⟨_, _, _, _, rfl, ?_⟩
    have := told_endR (j := 1) (v := .slice q l c) (c := c) (t := ⟨false, (broR s task n).1, 0, (broR s task n).2.1⟩) (C := DoneQ w base (Q + 1) o g (⟨false, (broR s task n).1, 0, (broR s task n).2.1⟩) (broR s task n).2.2) hW L T3 D3 hab n2 n1 (by omega) (by omega) (st4.blk T3 n2) (st4.blk D3 n1) (by decide) rfl fun w7 hW => ⟨q, l, c, rfl, hW⟩
    rw [add_mk, Nat.zero_add]
    rw [add_mk, Nat.zero_add] at this
    exact this
  refine bc (fun hk => ?_) (fun hk10 => ?_)
  · have hk : kind = 10 := by simpa using hk
    subst hk
    refine ⟨_, (B3.cell 0).trans rfl, _, (B3.cell0 2).trans rfl, _, (B3.cell0 3).trans rfl, Calls.use (rAdd74 h3 hQ task n m) ?_⟩
    rintro _ w4 ⟨rfl, g4, I4, st4⟩
    refine ⟨_, _, rfl, ?_⟩
    have := told_endR (j := 2) (v := .int .i64 (addR s task n m).1) (q := none) (l := 0) (c := 0) (t := ⟨false, [], (addR s task n m).1, (addR s task n m).2.1⟩) (s' := (addR s task n m).2.2) (C := DoneQ w base (Q + 1) o g (⟨false, [], (addR s task n m).1, (addR s task n m).2.1⟩) (addR s task n m).2.2) (WokeQ.nil (I4.up (Nat.le_succ Q)) st4) L T3 D3 hab n2 n1 (by omega) (by omega) (st4.blk T3 n2) (st4.blk D3 n1) (by decide) rfl fun w7 hW => ⟨none, 0, 0, rfl, hW⟩
    rw [add_mk, Nat.zero_add]
    rw [add_mk, Nat.zero_add] at this
    exact this
  have e : mustR s task kind n m = (⟨false, [], 0, 0⟩, s) := by
    have f : ∀ k : Int, (kind == k) = false → ¬ kind = k := fun k h => ne_of_beq_false h
    unfold mustR
    rw [if_neg (f 1 hk1), if_neg (f 2 hk2), if_neg (f 3 hk3), if_neg (f 4 hk4), if_neg (f 5 hk5), if_neg (f 6 hk6), if_neg (f 7 hk7), if_neg (f 8 hk8), if_neg (f 9 hk9), if_neg (f 10 hk10)]
  rw [e]
  refine ⟨_, _, _, _, _, _, T3.reads0, D3.canStore (by show 0 + 4 ≤ 4; decide), fun w4 e4 => ?_⟩
  have D4 := D3.over e4 rfl
  have k4 : Chg (fun k => k = w1.heap.size) w3 w4 := (Chg.refl _ w3).sets' e4 (.inl rfl)
  refine ⟨_, _, _, _, _, _, D4.reads0, none, 0, 0, rfl, ?_⟩
  exact (WokeQ.nil (h3.up (by omega)) (StpR.refl o w3 g)).put k4 (fun b hb => by
    subst hb
    exact ⟨D3.lt, n1⟩) L (fun b hb => by omega)
end
end Full
end Go.Proofs.Ytibpbbjlecohiaa
set_option maxRecDepth 20000
namespace Go.Proofs.Ytibpbbjlecohiaa
namespace Full
open Go Go.Vc Go.RowKit
/-! # the document's New -/
def new8R (a b c d : Nat) : R8 := ⟨a, b, c, List.replicate (2 * (a + b) + c) [], List.replicate d 0⟩
theorem hd_made {w : World} {b base n : Nat} {e : TypeId} (B : Blk w b e (madeCells #[.slice none 0 0, .slice none 0 0] (n * 2))) (hb : base ≤ b) (hn : 2 * n ≤ maxLen) : SE En.hd w base e (some ⟨b, 0, none⟩) (2 * n) (2 * n) (List.replicate (2 * n) ((none, 0, 0) : Hd)) := by
  refine SE.lit B hb (fun i v hv => ?_) (by simp) (Nat.le_refl _) hn (by simp [madeCells, En.hd]; omega)
  obtain ⟨i', j, y, rfl, hj, hy, hyv⟩ := En.hd.flat_ex hv
  have hj : j < 1 := hj
  have hj0 : j = 0 := by omega
  subst hj0
  have hi := get_lt hy
  rw [List.length_replicate] at hi
  have := List.eq_of_mem_replicate (List.mem_of_getElem? hy)
  subst this
  cases hyv
  rw [show i' * En.hd.k + 0 = i' from Nat.mul_one i']
  refine (madeCells_get #[.slice none 0 0, .slice none 0 0] (by decide) n i' (by show i' < n * 2; omega)).trans ?_
  rcases Nat.mod_two_eq_zero_or_one i' with h | h
  · show (#[Value.slice none 0 0, .slice none 0 0] : Array Value)[i' % 2]? = _
    rw [h]; rfl
  · show (#[Value.slice none 0 0, .slice none 0 0] : Array Value)[i' % 2]? = _
    rw [h]; rfl
theorem mkStepR {W w : World} {L : List (Nat × TypeId × Array Value)} {M : Option Nat} {n : Int} {k : Nat} {t : TypeId} {cs : Array Value} {C : World → Prop} (h : St W w L M) (h1 : 0 ≤ n) (h2 : ((k : Nat) : Int) * n ≤ 281474976710656) (h3 : n ≤ 9223372036854775807) (hC : ∀ w', St W w' ((w.heap.size, t, cs) :: L) M → w'.heap.size = w.heap.size + 1 → C w') :
    0 ≤ n ∧ n ≤ n ∧ ((k : Nat) : Int) * n ≤ 281474976710656 ∧ n ≤ 9223372036854775807 ∧ ∀ w' : World, w' = w.alloc (.cells cs t) → Keeps (fun p => p.block < W.heap.size) W w' ∧ C w' :=
  ⟨h1, Int.le_refl _, h2, h3, fun w' e => ⟨(h.step e).chg.keeps, hC w' (h.step e) (by rw [e]; simp)⟩⟩
def NewP (w : World) (a b c d : Int) (v : Value) (w' : World) : Prop :=
  (¬ (okN a ∧ okN b ∧ okN c ∧ okN d) ∧ v = .tuple #[.pointer none, .int .i64 1] ∧ Chg none_ w w') ∨ ((okN a ∧ okN b ∧ okN c ∧ okN d) ∧ ∃ o g, v = .tuple #[.pointer (some (ad o)), .int .i64 0] ∧ InvR w' w.heap.size 0 o g (new8R a.toNat b.toNat c.toNat d.toNat) ∧ Chg none_ w w')
theorem leafR {w0 W w : World} {L : List (Nat × TypeId × Array Value)} {a b c d : Int} {b1 b2 b3 b4 : Nat} (hall : okN a ∧ okN b ∧ okN c ∧ okN d) (k0 : Chg none_ w0 W) (h : St W w L none) (h1 : (b1, 155, madeCells #[.slice none 0 0, .slice none 0 0] (a.toNat * 2)) ∈ L) (h2 : (b2, 155, madeCells #[.slice none 0 0, .slice none 0 0] (b.toNat * 2)) ∈ L)
    (h3 : (b3, 153, madeCells #[.slice none 0 0] (c.toNat * 1)) ∈ L) (h4 : (b4, 2, madeCells #[.int .i64 0] (d.toNat * 1)) ∈ L) (hne : b1 ≠ b2) :
    ∀ w' : World, w' = w.alloc (.cells #[.bool true, .slice (some (⟨b1, 0, none⟩ : Addr)) a.toNat a.toNat, .slice (some (⟨b2, 0, none⟩ : Addr)) b.toNat b.toNat, .slice (some (⟨b3, 0, none⟩ : Addr)) c.toNat c.toNat, .slice (some (⟨b4, 0, none⟩ : Addr)) d.toNat d.toNat] 152) → NewP w0 a b c d (.tuple #[.pointer (some (⟨w.heap.size, 0, none⟩ : Addr)), .int .i64 0]) w' := fun w' e => by
  have s := h.step e
  have O := s.blk _ _ _ (.head _)
  have x1 := s.blk _ _ _ (.tail _ h1)
  have x2 := s.blk _ _ _ (.tail _ h2)
  have x3 := s.blk _ _ _ (.tail _ h3)
  have x4 := s.blk _ _ _ (.tail _ h4)
  have hz := k0.size
  obtain ⟨ha, hb, hc, hd⟩ := id hall
  obtain ⟨n1, rfl⟩ : ∃ n : Nat, a = n := ⟨a.toNat, by have := ha.1; omega⟩
  obtain ⟨n2, rfl⟩ : ∃ n : Nat, b = n := ⟨b.toNat, by have := hb.1; omega⟩
  obtain ⟨n3, rfl⟩ : ∃ n : Nat, c = n := ⟨c.toNat, by have := hc.1; omega⟩
  obtain ⟨n4, rfl⟩ : ∃ n : Nat, d = n := ⟨d.toNat, by have := hd.1; omega⟩
  have ha := ha.2
  have hb := hb.2
  have hc := hc.2
  have hd := hd.2
  simp only [Int.toNat_natCast] at *
  have S1 := hd_made x1.1 x1.2 (by simp only [maxLen]; omega)
  have S2 := hd_made x2.1 x2.2 (by simp only [maxLen]; omega)
  have S3 : SE En.hd w' W.heap.size 153 (some ⟨b3, 0, none⟩) n3 n3 (List.replicate n3 ((none, 0, 0) : Hd)) := SE.made (n := n3) (x := ((none, 0, 0) : Hd)) x3.1 rfl x3.2 (by simp only [maxLen]; omega)
  have S4 : SE En.int w' W.heap.size 2 (some ⟨b4, 0, none⟩) n4 n4 (List.replicate n4 (0 : Int)) := SE.made (n := n4) (x := (0 : Int)) x4.1 rfl x4.2 (by simp only [maxLen]; omega)
  refine .inr ⟨hall, w.heap.size, ⟨some ⟨b1, 0, none⟩, n1, some ⟨b2, 0, none⟩, n2, some ⟨b3, 0, none⟩, n3, some ⟨b4, 0, none⟩, n4, List.replicate (2 * (n1 + n2) + n3) (none, 0, 0)⟩, rfl, ?_, k0.trans s.chg⟩
  simp only [Int.toNat_natCast]
  exact { obj := by simp only [new8R, List.length_replicate]; exact O.1
          bo := Nat.le_trans hz h.chg.size
          hl := by simp [new8R]
          mx := by
            simp only [new8R, List.take_replicate]
            rw [Nat.min_eq_left (by omega)]; exact S1.lower hz
          lk := by
            simp only [new8R, List.drop_replicate, List.take_replicate]
            rw [Nat.min_eq_left (by omega)]; exact S2.lower hz
          cd := by
            simp only [new8R, List.drop_replicate]
            rw [show 2 * (n1 + n2) + n3 - 2 * (n1 + n2) = n3 by omega]; exact S3.lower hz
          ct := by simp only [new8R, List.length_replicate]; exact S4.lower hz
          que := ⟨by simp [new8R], fun i h xs hh hx => by
            have e1 := List.eq_of_mem_replicate (List.mem_of_getElem? hh)
            have e2 := List.eq_of_mem_replicate (List.mem_of_getElem? (show (List.replicate _ ([] : List W3))[i]? = some xs from hx))
            subst e1; subst e2
            exact SE.nil _ _ _ _, fun i j h h' g hh _ hg _ => by
            have e1 := List.eq_of_mem_replicate (List.mem_of_getElem? hh)
            subst e1
            simp [qB] at hg⟩
          ap := fun x hx hy => by simp [qB] at hx hy; omega
          hq := by
            have : ∀ n, tot (List.replicate n ([] : List W3)) = 0 := fun n => by
              induction n with
              | zero => rfl
              | succ n ih => simp [tot] at ih ⊢
            simp only [new8R, this]; exact Nat.le_refl _ }
theorem new58 (w : World) (a b c d : Int) : Calls Try.prog 58 #[.agg #[.int .i64 a, .int .i64 b, .int .i64 c, .int .i64 d]] w (Ret (NewP w a b c d)) := by
  refine f58.calls _ _ _ _ ?_
  unfold f58.wp
  refine newBox fun w1 B1 k1 _ => ⟨_, (B1.cell 0).trans rfl, _, (B1.cell0 1).trans rfl, _, (B1.cell0 2).trans rfl, _, (B1.cell0 3).trans rfl, newBox fun w2 B2 k2 _ => ?_⟩
  have k02 := k1.trans k2
  have A2 := k2.blk B1 (fun x => x)
  have at4 : ∀ i : Nat, i < 4 → ∃ v, [a, b, c, d][i]? = some v ∧ w2.cell? ((⟨w1.heap.size, 0, none⟩ : Addr).add (i * 1)) = some (.int .i64 v) := fun i hi => by
    obtain ⟨v, hv⟩ := get_ex (l := [a, b, c, d]) (i := i) hi
    refine ⟨v, hv, ?_⟩
    rw [Nat.mul_one, B2.cell0]
    rcases i with _ | _ | _ | _ | i
    · cases hv; rfl
    · cases hv; rfl
    · cases hv; rfl
    · cases hv; rfl
    · omega
  refine ⟨fun x w' => ∃ i : Nat, x = i ∧ i ≤ 4 ∧ w2 = w' ∧ ∀ (j : Nat) v, j < i → [a, b, c, d][j]? = some v → okN v, fun x _ => 4 - x.toNat, ⟨0, rfl, by decide, rfl, fun j v hj => by omega⟩, ?_⟩
  rintro x _ ⟨i, rfl, hi, rfl, hin⟩
  refine bc (fun hlt => ?_) (fun hge => ?_)
  · have hi' : i < 4 := by have := of_decide_eq_true hlt; omega
    obtain ⟨v, hv, hc⟩ := at4 i hi'
    have bad : ¬ okN v → ¬ (okN a ∧ okN b ∧ okN c ∧ okN d) := fun hb h => hb (by
      have : v ∈ [a, b, c, d] := List.mem_of_getElem? hv
      simp at this
      rcases this with rfl | rfl | rfl | rfl
      · exact h.1
      · exact h.2.1
      · exact h.2.2.1
      · exact h.2.2.2)
    rw [wrapS (x := (i : Int) + 1) (by omega) (by omega)]
    refine ⟨by omega, by omega, v, hc, bc (fun h => .inl ⟨bad fun ho => ?_, rfl, k02⟩) (fun h0 => bc (fun h => .inl ⟨bad fun ho => ?_, rfl, k02⟩) (fun h1 => ⟨⟨i + 1, by omega, hi', rfl, fun j u hj hu => ?_⟩, ?_⟩))⟩
    · have := of_decide_eq_true h; have := ho.1; omega
    · have := of_decide_eq_true h; have := ho.2; omega
    · rcases Nat.lt_or_ge j i with h2 | h2
      · exact hin j u h2 hu
      · have : j = i := by omega
        subst this
        rw [hv] at hu; cases hu
        have := of_decide_eq_false h0; have := of_decide_eq_false h1
        exact ⟨by omega, by omega⟩
    · show 4 - ((i : Int) + 1).toNat < 4 - (i : Int).toNat
      omega
  have hi4 : i = 4 := by have := of_decide_eq_false hge; omega
  subst hi4
  have ha : okN a := hin 0 a (by decide) rfl
  have hb : okN b := hin 1 b (by decide) rfl
  have hc : okN c := hin 2 c (by decide) rfl
  have hd : okN d := hin 3 d (by decide) rfl
  have hall : okN a ∧ okN b ∧ okN c ∧ okN d := ⟨ha, hb, hc, hd⟩
  obtain ⟨ha0, ha1⟩ := ha
  obtain ⟨hb0, hb1⟩ := hb
  obtain ⟨hc0, hc1⟩ := hc
  obtain ⟨hd0, hd1⟩ := hd
  have D2 := A2.drew
  have k02' := k02.drew
  generalize w2.drew = W at *
  refine ⟨fun p => p.block < W.heap.size, _, D2.lt, (D2.cell 0).trans rfl, _, D2.lt, (D2.cell0 1).trans rfl, _, D2.lt, (D2.cell0 2).trans rfl, _, D2.lt, (D2.cell0 3).trans rfl, ?_⟩
  have S0 : St W W [] none := ⟨Chg.refl _ _, fun b t cs hm => (by cases hm), fun m hm => (by cases hm)⟩
  clear hin at4 hge hi B2 A2 D2 B1 k1 k2 k02
  repeat' (first
    | (refine mkStepR (by assumption) (by omega) (by omega) (by omega) fun w' h' hz' => ?_)
    | (refine leafR hall k02' (by assumption) (by repeat' (first | exact .head _ | apply List.Mem.tail)) (by repeat' (first | exact .head _ | apply List.Mem.tail)) (by repeat' (first | exact .head _ | apply List.Mem.tail)) (by repeat' (first | exact .head _ | apply List.Mem.tail)) (by omega))
    | (refine ⟨?_, ?_⟩))
end Full
end Go.Proofs.Ytibpbbjlecohiaa
set_option maxRecDepth 20000
namespace Go.Proofs.Ytibpbbjlecohiaa
namespace Full
open Go Go.Vc Go.RowKit
/-! # the document's Waits and Holds -/
theorem fm_succ {α : Type} (f : Nat → List α) (n : Nat) : (List.range (n + 1)).flatMap f = (List.range n).flatMap f ++ f n := by simp [List.range_succ]
/-- one more behind an own slice -/
theorem pushG {α : Type} {E : En α} {t e bytes : Nat} {w w1 : World} {q : Option Addr} {l c : Nat} {xs : List α} (ht : ElemOk Try.prog t e E.k bytes) (A : SE E w1 w.heap.size e q l c xs) (k : Chg none_ w w1) (x : α) (hl : l ≤ 1000000) (hb : bytes ≤ 1000) {tt : Nat} (htt : w1.heap.size = tt) {C : Option Addr → Nat → Nat → World → Prop}
    (hC : ∀ q' c' w3, SE E w3 w.heap.size e q' (l + 1) c' (xs ++ [x]) → Chg none_ w w3 → (∀ b ty cs, Blk w1 b ty cs → ty ≠ e → Blk w3 b ty cs) → C q' (l + 1) c' w3) :
    ∀ w2 : World, w2 = w1.alloc (.cells (E.enc x).toArray e) → ∃ (q4 : Option Addr) (l4 c4 : Nat), ∃ w5 : World, (Builtin.append_ #[t, t] t #[.slice q l c, .slice (some (⟨tt, 0, none⟩ : Addr)) 1 1]).run Try.prog w2 = .ok (.slice q4 l4 c4) w5 ∧ C q4 l4 c4 w5 := by
  subst htt
  refine newBox fun w2 B2 k2 _ => ?_
  have k02 := k.trans k2
  have hm : (l + 1) * bytes ≤ 1000001 * 1000 := Nat.mul_le_mul (by omega) hb
  obtain ⟨q', c', w3, hrun, A3, k3, _⟩ := (A.chgN k2).append1 (t := t) (ty := t) (x := x) ht B2 (by simp only [maxLen]; omega) (by omega) k02.size
  refine ⟨q', l + 1, c', w3, hrun, hC q' c' w3 A3 (k02.up k3 fun b hb => ((A.chgN k2).lt hb.symm).2) fun b ty cs B ht => ?_⟩
  have B' := k2.blk B (fun x => x)
  exact k3.blk B' fun e => SE.ne (A.chgN k2) B' ht _ e.symm rfl
def wmi (r : R8) (t : Int) (n : Nat) : List W3 := if hasW (r.row (2 * n + 1)) t then [(t, 1, (n : Int))] else []
def wli (r : R8) (t : Int) (n : Nat) : List W3 := ((r.row (2 * (r.M + n) + 1)).filter fun s => s.1 == t).map fun s => (t, s.2.1, (n : Int))
def wci (r : R8) (t : Int) (n : Nat) : List W3 := if hasW (r.row (2 * (r.M + r.L) + n)) t then [(t, 7, (n : Int))] else []
def wti (r : R8) (t : Int) : List W3 := (List.range r.M).flatMap (wmi r t) ++ ((List.range r.L).flatMap (wli r t) ++ (List.range r.C).flatMap (wci r t))
def waitsL (r : R8) (k : Nat) : List W3 := (List.range k).flatMap fun t : Nat => wti r (t : Int)
structure Small (r : R8) : Prop where
  m : r.M ≤ 64
  l : r.L ≤ 64
  c : r.C ≤ 64
  row : ∀ j, (r.row j).length ≤ 16
section
variable {w w' : World} {base Q o : Nat} {g : GR} {r : R8}
theorem rWaits37 (h : InvR w base Q o g r) (hS : Small r) :
    Calls Try.prog 37 #[.pointer (some (ad o))] w (Ret fun v w' => ∃ q l c, v = .slice q l c ∧ SE En.w3 w' w.heap.size 47 q l c (waitsL r 16) ∧ l ≤ 18432 ∧ Chg none_ w w') := by
  have hM := hS.m
  have hL := hS.l
  have hC := hS.c
  refine f37.calls _ ?_
  unfold f37.wp
  refine ⟨fun q l c x w' => ∃ t : Nat, x = (t : Int) ∧ t ≤ 16 ∧ SE En.w3 w' w.heap.size 47 q l c (waitsL r t) ∧ l ≤ 1152 * t ∧ Chg none_ w w', fun _ _ _ x _ => 16 - x.toNat, ⟨0, rfl, by omega, SE.nil _ _ _ _, by omega, Chg.refl _ _⟩, ?_⟩
  rintro q1 l1 c1 _ w1 ⟨t, rfl, ht, A1, hl1, k1⟩
  refine bc (fun hlt => ?_) fun hge => ?_
  rotate_left
  · have : t = 16 := by have := of_decide_eq_false hge; omega
    subst this
    exact ⟨q1, l1, c1, rfl, A1, by omega, k1⟩
  have hlt : t < 16 := by have := of_decide_eq_true hlt; omega
  have ewt : IntKind.wrap .i64 ((t : Int) + 1) = ((t + 1 : Nat) : Int) := by rw [wrapS (by omega) (by omega)]; omega
  rw [ewt]
  have h1 := h.chgN k1
  refine onPtr_mk ⟨_, _, _, (h1.obj.cell0 1).trans rfl, fun q l c x w' => ∃ i : Nat, x = (i : Int) ∧ i ≤ r.M ∧ SE En.w3 w' w.heap.size 47 q l c (waitsL r t ++ (List.range i).flatMap (wmi r (t : Int))) ∧ l ≤ 1152 * t + i ∧ Chg none_ w w', fun _ _ _ x _ => r.M - x.toNat,
    ⟨0, rfl, Nat.zero_le _, by simpa using A1, by omega, k1⟩, ?_⟩
  clear A1 h1 k1
  rintro q3 l3 c3 _ w2 ⟨i, rfl, hi, A2, hl2, k2⟩
  have h2 := h.chgN k2
  refine bc (fun hlt2 => ?_) fun hge => ?_
  · have hlt2 : i < r.M := by have := of_decide_eq_true hlt2; omega
    obtain ⟨a, ha, hp⟩ := h2.mat hlt2
    obtain ⟨hh, hq, hr, Sh, Sq⟩ := h2.thing hp
    have lq := Sq.len
    have ll := hS.row (2 * i + 1)
    rw [ha, wrapS (x := (i : Int) + 1) (by omega) (by omega)]
    refine onPtr_mk ⟨by omega, by omega, _, _, _, _, _, _, hr, boxed rfl rfl fun w4 B4 k4 _ => ⟨_, _, _, (B4.cell0 1).trans rfl, Calls.use (has78 (Sq.re.chg k4) (by omega) (t : Int)) ?_⟩⟩
    rintro _ w5 ⟨rfl, k5⟩
    have k25 := (k2.trans k4).trans k5
    have A5 := (A2.chgN k4).chgN k5
    refine ⟨_, rfl, bc (fun hb => ?_) fun hb => ?_⟩
    · refine pushG (t := 44) elemW3 A5 k25 ((t : Int), (1 : Int), (i : Int)) (by omega) (by decide) rfl fun q' c' w7 A7 k7 _ => ⟨⟨i + 1, by omega, hlt2, ?_, by omega, k7⟩, meas hlt2⟩
      rw [fm_succ, wmi, if_pos hb, ← List.append_assoc]; exact A7
    · refine ⟨⟨i + 1, by omega, hlt2, ?_, by omega, k25⟩, meas hlt2⟩
      rw [fm_succ, wmi, if_neg (by rw [hb]; simp), List.append_nil]; exact A5
  have hiM : i = r.M := by have := of_decide_eq_false hge; omega
  subst hiM
  clear hge hi
  refine onPtr_mk ⟨_, _, _, (h2.obj.cell0 2).trans rfl, fun q l c x w' => ∃ i : Nat, x = (i : Int) ∧ i ≤ r.L ∧ SE En.w3 w' w.heap.size 47 q l c (waitsL r t ++ (List.range r.M).flatMap (wmi r (t : Int)) ++ (List.range i).flatMap (wli r (t : Int))) ∧ l ≤ 1152 * t + 64 + 16 * i ∧ Chg none_ w w', fun _ _ _ x _ => r.L - x.toNat,
    ⟨0, rfl, Nat.zero_le _, by simpa using A2, by omega, k2⟩, ?_⟩
  clear A2 h2 k2 hl2 hl1
  rintro q9 l9 c9 _ w8 ⟨i, rfl, hi, A8, hl8, k8⟩
  have h8 := h.chgN k8
  refine bc (fun hlt2 => ?_) fun hge => ?_
  · have hlt2 : i < r.L := by have := of_decide_eq_true hlt2; omega
    obtain ⟨a, ha, hp⟩ := h8.lat hlt2
    obtain ⟨lh, lq'⟩ := hp.loc
    obtain ⟨hh, xh, hhh, hxh, Sh, ch, _⟩ := h8.row_at lh
    obtain ⟨hq, xq, hhq, hxq, Sq, cq, _⟩ := h8.row_at lq'
    have hr := reads2 ch cq
    rw [← R8.row_of hxq] at Sq
    have lq := Sq.len
    have ll := hS.row (2 * (r.M + i) + 1)
    rw [ha, wrapS (x := (i : Int) + 1) (by omega) (by omega)]
    refine onPtr_mk ⟨by omega, by omega, _, _, _, _, _, _, hr, boxed rfl rfl fun w10 B10 k10 _ => ⟨_, _, _, (B10.cell0 1).trans rfl, fun q l c x w' => ∃ k : Nat, x = (k : Int) ∧ k ≤ hq.2.1 ∧ SE En.w3 w' w.heap.size 47 q l c (waitsL r t ++ (List.range r.M).flatMap (wmi r (t : Int)) ++ (List.range i).flatMap (wli r (t : Int)) ++ (((r.row (2 * (r.M + i) + 1)).take k).filter fun s => s.1 == (t : Int)).map fun s => ((t : Int), s.2.1, (i : Int))) ∧ l ≤ 1152 * t + 64 + 16 * i + k ∧ Chg none_ w w', fun _ _ _ x _ => hq.2.1 - x.toNat,
      ⟨0, rfl, Nat.zero_le _, by simpa using A8.chgN k10, by omega, k8.trans k10⟩, ?_⟩⟩
    rintro q13 l13 c13 _ w11 ⟨k, rfl, hk, A11, hl11, k11⟩
    refine bc (fun hlt3 => ?_) fun hge3 => ?_
    · have hlt3 : k < hq.2.1 := by have := of_decide_eq_true hlt3; omega
      obtain ⟨hq', xq', hhq', hxq', Sq', _, _⟩ := (h.chgN k11).row_at lq'
      rw [hhq] at hhq'; cases hhq'
      rw [← R8.row_of hxq'] at Sq'
      obtain ⟨a3, y, ha3, hy, hry⟩ := (Sq'.re).ex hlt3
      have etk : (r.row (2 * (r.M + i) + 1)).take (k + 1) = (r.row (2 * (r.M + i) + 1)).take k ++ [y] := by rw [List.take_add_one, hy]; rfl
      rw [ha3, wrapS (x := (k : Int) + 1) (by omega) (by omega)]
      refine onPtr_mk ⟨by omega, by omega, _, _, _, hry, boxed rfl rfl fun w13 B13 k13 _ => ⟨_, (B13.cell 0).trans rfl, bc (fun hb => ⟨_, (B13.cell0 1).trans rfl, ?_⟩) fun hb => ?_⟩⟩
      · refine pushG (t := 44) elemW3 (A11.chgN k13) (k11.trans k13) ((t : Int), y.2.1, (i : Int)) (by omega) (by decide) rfl fun q' c' w7 A7 k7 _ => ⟨⟨k + 1, by omega, hlt3, ?_, by omega, k7⟩, meas hlt3⟩
        rw [etk, List.filter_append, List.map_append, ← List.append_assoc]
        simpa [hb] using A7
      · refine ⟨⟨k + 1, by omega, hlt3, ?_, by omega, k11.trans k13⟩, meas hlt3⟩
        rw [etk, List.filter_append, List.map_append, ← List.append_assoc]
        simpa [hb] using A11.chgN k13
    · have hkl : k = hq.2.1 := by have := of_decide_eq_false hge3; omega
      refine ⟨⟨i + 1, by omega, hlt2, ?_, by omega, k11⟩, meas hlt2⟩
      rw [fm_succ, ← List.append_assoc]
      rw [List.take_of_length_le (by omega)] at A11
      exact A11
  have hiL : i = r.L := by have := of_decide_eq_false hge; omega
  subst hiL
  clear hge hi
  refine onPtr_mk ⟨_, _, _, (h8.obj.cell0 3).trans rfl, fun q l c x w' => ∃ i : Nat, x = (i : Int) ∧ i ≤ r.C ∧ SE En.w3 w' w.heap.size 47 q l c (waitsL r t ++ (List.range r.M).flatMap (wmi r (t : Int)) ++ (List.range r.L).flatMap (wli r (t : Int)) ++ (List.range i).flatMap (wci r (t : Int))) ∧ l ≤ 1152 * t + 1088 + i ∧ Chg none_ w w', fun _ _ _ x _ => r.C - x.toNat,
    ⟨0, rfl, Nat.zero_le _, by simpa using A8, by omega, k8⟩, ?_⟩
  clear A8 h8 k8 hl8
  rintro q16 l16 c16 _ w16 ⟨i, rfl, hi, A16, hl16, k16⟩
  have h16 := h.chgN k16
  refine bc (fun hlt2 => ?_) fun hge => ?_
  · have hlt2 : i < r.C := by have := of_decide_eq_true hlt2; omega
    obtain ⟨a, ha, hp⟩ := h16.cat hlt2
    obtain ⟨hd, xs, hhd, hxs, S, c0, _⟩ := h16.row_at hp
    have lq := S.len
    have ll := hS.row (2 * (r.M + r.L) + i)
    rw [R8.row_of hxs] at ll
    rw [ha, wrapS (x := (i : Int) + 1) (by omega) (by omega)]
    refine onPtr_mk ⟨by omega, by omega, _, _, _, (by rw [Nat.mul_one]; exact c0), Calls.use (has78 S.re (by omega) (t : Int)) ?_⟩
    rintro _ w17 ⟨rfl, k17⟩
    have kk := k16.trans k17
    have A17 := A16.chgN k17
    refine ⟨_, rfl, bc (fun hb => ?_) fun hb => ?_⟩
    · refine pushG (t := 44) elemW3 A17 kk ((t : Int), (7 : Int), (i : Int)) (by omega) (by decide) rfl fun q' c' w7 A7 k7 _ => ⟨⟨i + 1, by omega, hlt2, ?_, by omega, k7⟩, meas hlt2⟩
      rw [fm_succ, wci, R8.row_of hxs, if_pos hb, ← List.append_assoc]; exact A7
    · refine ⟨⟨i + 1, by omega, hlt2, ?_, by omega, kk⟩, meas hlt2⟩
      rw [fm_succ, wci, R8.row_of hxs, if_neg (by rw [hb]; simp), List.append_nil]; exact A17
  · have hiC : i = r.C := by have := of_decide_eq_false hge; omega
    subst hiC
    refine ⟨⟨t + 1, rfl, hlt, ?_, by omega, k16⟩, by simp only [Int.toNat_natCast]; omega⟩
    have : waitsL r (t + 1) = waitsL r t ++ (List.range r.M).flatMap (wmi r (t : Int)) ++ (List.range r.L).flatMap (wli r (t : Int)) ++ (List.range r.C).flatMap (wci r (t : Int)) := by
      unfold waitsL
      rw [fm_succ, wti]
      simp only [List.append_assoc]
    rw [this]; exact A16
end
end Full
end Go.Proofs.Ytibpbbjlecohiaa
set_option maxRecDepth 20000
namespace Go.Proofs.Ytibpbbjlecohiaa
namespace Full
open Go Go.Vc Go.RowKit
/-! # the document's Holds, and who waits for whom -/
def hmr (r : R8) (t : Int) (n : Nat) : List W3 := if heldW (r.row (2 * n)) t 0 then [(t, 1, (n : Int))] else []
def hlr (r : R8) (t : Int) (n : Nat) : List W3 := ((r.row (2 * (r.M + n))).filter fun s => s.1 == t).map fun s => (t, s.2.1, (n : Int))
def holdsR (r : R8) (t : Int) : List W3 := (List.range r.M).flatMap (hmr r t) ++ (List.range r.L).flatMap (hlr r t)
theorem onPtr_at {q : Option Addr} {a : Addr} {C : Addr → Prop} (h : q = some a) (hc : C a) : onPtr q C := by subst h; exact onPtr_mk hc
theorem SE.ofB {α : Type} {E : En α} {w w' : World} {base : Nat} {e : TypeId} {q : Option Addr} {l c : Nat} {xs : List α} (h : SE E w base e q l c xs) (k : ∀ b cs, Blk w b e cs → Blk w' b e cs) : SE E w' base e q l c xs :=
  ⟨h.len, h.ex.imp id fun ⟨g, off, cur, hq, hb, hc, r⟩ => ⟨g, off, cur, hq, hb, k _ _ hc, r⟩⟩
theorem take_next {α : Type} {xs : List α} {k : Nat} {y : α} (hy : xs[k]? = some y) : xs.take (k + 1) = xs.take k ++ [y] := by rw [List.take_add_one, hy]; rfl
section
variable {w w' : World} {base Q o : Nat} {g : GR} {r : R8}
theorem rHolds40 (h : InvR w base Q o g r) (hS : Small r) (t : Int) :
    Calls Try.prog 40 #[.pointer (some (ad o)), .int .i64 t] w (Ret fun v w' => ∃ q l c, v = .slice q l c ∧ SE En.w3 w' w.heap.size 47 q l c (holdsR r t) ∧ l ≤ 18432 ∧ Chg none_ w w') := by
  have hM := hS.m
  have hL := hS.l
  refine f40.calls _ _ ?_
  unfold f40.wp
  refine onPtr_mk ⟨_, _, _, (h.obj.cell0 1).trans rfl, fun q l c x w' => ∃ i : Nat, x = (i : Int) ∧ i ≤ r.M ∧ SE En.w3 w' w.heap.size 47 q l c ((List.range i).flatMap (hmr r t)) ∧ l ≤ i ∧ Chg none_ w w', fun _ _ _ x _ => r.M - x.toNat,
    ⟨0, rfl, Nat.zero_le _, SE.nil _ _ _ _, by omega, Chg.refl _ _⟩, ?_⟩
  rintro q3 l3 c3 _ w2 ⟨i, rfl, hi, A2, hl2, k2⟩
  have h2 := h.chgN k2
  refine bc (fun hlt2 => ?_) fun hge => ?_
  · have hlt2 : i < r.M := by have := of_decide_eq_true hlt2; omega
    obtain ⟨a, ha, hp⟩ := h2.mat hlt2
    obtain ⟨hh, hq, hr, Sh, Sq⟩ := h2.thing hp
    have lq := Sh.len
    have ll := hS.row (2 * i)
    rw [ha, wrapS (x := (i : Int) + 1) (by omega) (by omega)]
    refine onPtr_mk ⟨by omega, by omega, _, _, _, _, _, _, hr, boxed rfl rfl fun w4 B4 k4 _ => ⟨_, _, _, _, _, _, B4.reads0, Calls.use (held80 (Sh.re.chg k4) (by omega) t 0) ?_⟩⟩
    rintro _ w5 ⟨rfl, k5⟩
    have k25 := (k2.trans k4).trans k5
    have A5 := (A2.chgN k4).chgN k5
    refine ⟨_, rfl, bc (fun hb => ?_) fun hb => ?_⟩
    · refine pushG (t := 44) elemW3 A5 k25 (t, (1 : Int), (i : Int)) (by omega) (by decide) rfl fun q' c' w7 A7 k7 _ => ⟨⟨i + 1, by omega, hlt2, ?_, by omega, k7⟩, meas hlt2⟩
      rw [fm_succ, hmr, if_pos hb]; exact A7
    · refine ⟨⟨i + 1, by omega, hlt2, ?_, by omega, k25⟩, meas hlt2⟩
      rw [fm_succ, hmr, if_neg (by rw [hb]; simp), List.append_nil]; exact A5
  have hiM : i = r.M := by have := of_decide_eq_false hge; omega
  subst hiM
  clear hge hi
  refine onPtr_mk ⟨_, _, _, (h2.obj.cell0 2).trans rfl, fun q l c x w' => ∃ i : Nat, x = (i : Int) ∧ i ≤ r.L ∧ SE En.w3 w' w.heap.size 47 q l c ((List.range r.M).flatMap (hmr r t) ++ (List.range i).flatMap (hlr r t)) ∧ l ≤ 64 + 16 * i ∧ Chg none_ w w', fun _ _ _ x _ => r.L - x.toNat,
    ⟨0, rfl, Nat.zero_le _, by simpa using A2, by omega, k2⟩, ?_⟩
  clear A2 h2 k2 hl2
  rintro q9 l9 c9 _ w8 ⟨i, rfl, hi, A8, hl8, k8⟩
  have h8 := h.chgN k8
  refine bc (fun hlt2 => ?_) fun hge => ?_
  · have hlt2 : i < r.L := by have := of_decide_eq_true hlt2; omega
    obtain ⟨a, ha, hp⟩ := h8.lat hlt2
    obtain ⟨lh, lq'⟩ := hp.loc
    obtain ⟨hh, xh, hhh, hxh, Sh, ch, _⟩ := h8.row_at lh
    obtain ⟨hq, xq, hhq, hxq, Sq, cq, _⟩ := h8.row_at lq'
    have hr := reads2 ch cq
    rw [← R8.row_of hxh] at Sh
    have lq := Sh.len
    have ll := hS.row (2 * (r.M + i))
    rw [ha, wrapS (x := (i : Int) + 1) (by omega) (by omega)]
    refine onPtr_mk ⟨by omega, by omega, _, _, _, _, _, _, hr, boxed rfl rfl fun w10 B10 k10 _ => ⟨_, _, _, (B10.cell 0).trans rfl, fun q l c x w' => ∃ k : Nat, x = (k : Int) ∧ k ≤ hh.2.1 ∧ SE En.w3 w' w.heap.size 47 q l c ((List.range r.M).flatMap (hmr r t) ++ (List.range i).flatMap (hlr r t) ++ (((r.row (2 * (r.M + i))).take k).filter fun s => s.1 == t).map fun s => (t, s.2.1, (i : Int))) ∧ l ≤ 64 + 16 * i + k ∧ Chg none_ w w', fun _ _ _ x _ => hh.2.1 - x.toNat,
      ⟨0, rfl, Nat.zero_le _, by simpa using A8.chgN k10, by omega, k8.trans k10⟩, ?_⟩⟩
    rintro q13 l13 c13 _ w11 ⟨k, rfl, hk, A11, hl11, k11⟩
    refine bc (fun hlt3 => ?_) fun hge3 => ?_
    · have hlt3 : k < hh.2.1 := by have := of_decide_eq_true hlt3; omega
      obtain ⟨hh', xh', hhh', hxh', Sh', _, _⟩ := (h.chgN k11).row_at lh
      rw [hhh] at hhh'; cases hhh'
      rw [← R8.row_of hxh'] at Sh'
      obtain ⟨a3, y, ha3, hy, hry⟩ := (Sh'.re).ex hlt3
      have etk := take_next hy
      rw [ha3, wrapS (x := (k : Int) + 1) (by omega) (by omega)]
      refine onPtr_mk ⟨by omega, by omega, _, _, _, hry, boxed rfl rfl fun w13 B13 k13 _ => ⟨_, (B13.cell 0).trans rfl, bc (fun hb => ⟨_, (B13.cell0 1).trans rfl, ?_⟩) fun hb => ?_⟩⟩
      · refine pushG (t := 44) elemW3 (A11.chgN k13) (k11.trans k13) (t, y.2.1, (i : Int)) (by omega) (by decide) rfl fun q' c' w7 A7 k7 _ => ⟨⟨k + 1, by omega, hlt3, ?_, by omega, k7⟩, meas hlt3⟩
        rw [etk, List.filter_append, List.map_append, ← List.append_assoc]
        simpa [hb] using A7
      · refine ⟨⟨k + 1, by omega, hlt3, ?_, by omega, k11.trans k13⟩, meas hlt3⟩
        rw [etk, List.filter_append, List.map_append, ← List.append_assoc]
        simpa [hb] using A11.chgN k13
    · have hkl : k = hh.2.1 := by have := of_decide_eq_false hge3; omega
      refine ⟨⟨i + 1, by omega, hlt2, ?_, by omega, k11⟩, meas hlt2⟩
      rw [fm_succ, ← List.append_assoc]
      rw [List.take_of_length_le (by omega)] at A11
      exact A11
  · have hiL : i = r.L := by have := of_decide_eq_false hge; omega
    subst hiL
    exact ⟨q9, l9, c9, rfl, A8, by omega, k8⟩
def whomL (hs q : List W3) (t : Int) : List Int := if hasW q t then hs.map Prod.fst ++ (q.takeWhile fun s => s.1 != t).map Prod.fst else []
theorem tw_stop {α : Type} {p : α → Bool} {l : List α} {k : Nat} {y : α} (hk : ∀ (j : Nat) (z : α), j < k → l[j]? = some z → p z = true) (hy : l[k]? = some y) (h : p y = false) : l.takeWhile p = l.take k := by
  induction l generalizing k with
  | nil => simp at hy
  | cons a l ih =>
    cases k with
    | zero => simp at hy; subst hy; simp [h]
    | succ k =>
      have ha := hk 0 a (by omega) rfl
      rw [List.takeWhile_cons, if_pos ha, List.take_succ_cons, ih (k := k) (fun j z hj hz => hk (j + 1) z (by omega) (by simpa using hz)) (by simpa using hy)]
theorem tw_all {α : Type} {p : α → Bool} {l : List α} (hk : ∀ (j : Nat) (z : α), l[j]? = some z → p z = true) : l.takeWhile p = l := by
  induction l with
  | nil => rfl
  | cons a l ih => rw [List.takeWhile_cons, if_pos (hk 0 a rfl), ih fun j z hz => hk (j + 1) z (by simpa using hz)]
theorem whom79 {q1 q2 : Option Addr} {l1 c1 l2 c2 : Nat} {hs qs : List W3} (H : RE En.w3 w q1 l1 hs) (G : RE En.w3 w q2 l2 qs) (h1 : l1 ≤ 16) (h2 : l2 ≤ 16) (t : Int) :
    Calls Try.prog 79 #[.agg #[.slice q1 l1 c1, .slice q2 l2 c2], .int .i64 t] w (Ret fun v w' => ∃ q l c, v = .slice q l c ∧ SE En.int w' w.heap.size 3 q l c (whomL hs qs t) ∧ l ≤ 32 ∧ Chg none_ w w') := by
  have e1 := H.len
  have e2 := G.len
  refine f79.calls _ _ _ _ _ _ _ ?_
  unfold f79.wp
  refine newBox fun w1 B1 k1 _ => ⟨_, _, _, (B1.cell0 1).trans rfl, Calls.use (has78 (G.chg k1) (by omega) t) ?_⟩
  rintro _ w2 ⟨rfl, k2⟩
  have k02 := k1.trans k2
  refine ⟨_, rfl, bc (fun hb => ?_) fun hb => ?_⟩
  · rw [whomL, if_neg (by simpa using hb)]
    exact ⟨_, _, _, rfl, SE.nil _ _ _ _, by omega, k02⟩
  have hb : hasW qs t = true := by simpa using hb
  rw [whomL, if_pos hb]
  have B2 := k2.blk B1 (fun x => x)
  refine ⟨_, _, _, (B2.cell 0).trans rfl, fun q l c x w' => ∃ i : Nat, x = (i : Int) ∧ i ≤ l1 ∧ SE En.int w' w.heap.size 3 q l c ((hs.take i).map Prod.fst) ∧ l ≤ i ∧ Chg none_ w w' ∧ Blk w' w.heap.size 155 #[.slice q1 l1 c1, .slice q2 l2 c2], fun _ _ _ x _ => l1 - x.toNat,
    ⟨0, rfl, Nat.zero_le _, SE.nil _ _ _ _, by omega, k02, B2⟩, ?_⟩
  rintro q3 l3 c3 _ w3 ⟨i, rfl, hi, A3, hl3, k3, B3⟩
  refine bc (fun hlt => ?_) fun hge => ?_
  · have hlt : i < l1 := by have := of_decide_eq_true hlt; omega
    obtain ⟨a, y, ha, hy, hr⟩ := (H.chg k3).ex hlt
    rw [wrapS (x := (i : Int) + 1) (by omega) (by omega)]
    refine onPtr_at ha ⟨by omega, by omega, _, _, _, hr, boxed rfl rfl fun w5 B5 k5 _ => ⟨_, (B5.cell 0).trans rfl, ?_⟩⟩
    refine pushG (t := 35) elemInt (A3.chgN k5) (k3.trans k5) y.1 (by omega) (by decide) rfl fun q' c' w7 A7 k7 hB => ⟨⟨i + 1, by omega, hlt, ?_, by omega, k7, hB _ _ _ (k5.blk B3 (fun x => x)) (by decide)⟩, meas hlt⟩
    rw [take_next hy, List.map_append]
    exact A7
  have hil : i = l1 := by have := of_decide_eq_false hge; omega
  subst hil
  rw [List.take_of_length_le (by omega)] at A3
  refine ⟨_, _, _, (B3.cell0 1).trans rfl, fun q l c x w' => ∃ i : Nat, x = (i : Int) ∧ i ≤ l2 ∧ SE En.int w' w.heap.size 3 q l c (hs.map Prod.fst ++ (qs.take i).map Prod.fst) ∧ l ≤ 16 + i ∧ Chg none_ w w' ∧ ∀ (j : Nat) (z : W3), j < i → qs[j]? = some z → (z.1 != t) = true, fun _ _ _ x _ => l2 - x.toNat,
    ⟨0, rfl, Nat.zero_le _, by simpa using A3, by omega, k3, fun j z hj => by omega⟩, ?_⟩
  rintro q6 l6 c6 _ w8 ⟨i, rfl, hi, A8, hl8, k8, hin⟩
  refine bc (fun hlt => ?_) fun hge => ?_
  · have hlt : i < l2 := by have := of_decide_eq_true hlt; omega
    obtain ⟨a, y, ha, hy, hr⟩ := (G.chg k8).ex hlt
    rw [wrapS (x := (i : Int) + 1) (by omega) (by omega)]
    refine onPtr_at ha ⟨by omega, by omega, _, _, _, hr, boxed rfl rfl fun w10 B10 k10 _ => ⟨_, (B10.cell 0).trans rfl, bc (fun he => ?_) fun he => ⟨_, (B10.cell 0).trans rfl, ?_⟩⟩⟩
    · rw [tw_stop hin hy (by simp only [bne, he, Bool.not_true])]
      exact ⟨q6, l6, c6, rfl, A8.chgN k10, by omega, k8.trans k10⟩
    · refine pushG (t := 35) elemInt (A8.chgN k10) (k8.trans k10) y.1 (by omega) (by decide) rfl fun q' c' w7 A7 k7 _ => ⟨⟨i + 1, by omega, hlt, ?_, by omega, k7, fun j z hj hz => ?_⟩, meas hlt⟩
      · rw [take_next hy, List.map_append, ← List.append_assoc]
        exact A7
      · rcases Nat.lt_or_ge j i with h' | h'
        · exact hin j z h' hz
        · have : j = i := by omega
          subst this
          rw [hy] at hz; cases hz
          simp only [bne, he, Bool.not_false]
  · have hil : i = l2 := by have := of_decide_eq_false hge; omega
    subst hil
    rw [tw_all fun j z hz => hin j z (by have := get_lt hz; omega) hz]
    rw [List.take_of_length_le (by omega)] at A8
    exact ⟨q6, l6, c6, rfl, A8, by omega, k8⟩
theorem elemArc : ElemOk Try.prog 77 82 2 16 := ⟨Try.underlying77, .agg #[.int .i64 0, .int .i64 0], by kernel_rfl, rfl⟩
def toR (r : R8) (t : Int) : List Int := (List.range r.M).flatMap (fun n => whomL (r.row (2 * n)) (r.row (2 * n + 1)) t) ++ (List.range r.L).flatMap fun n => whomL (r.row (2 * (r.M + n))) (r.row (2 * (r.M + n) + 1)) t
def arcI (to : List Int) (t : Int) (x : Nat) : List (Int × Int) := if to.contains (x : Int) then [(t, (x : Int))] else []
def arcsR (r : R8) (k : Nat) : List (Int × Int) := (List.range k).flatMap fun t : Nat => (List.range 16).flatMap (arcI (toR r (t : Int)) (t : Int))
theorem rArcs39 (h : InvR w base Q o g r) (hS : Small r) :
    Calls Try.prog 39 #[.pointer (some (ad o))] w (Ret fun v w' => ∃ q l c, v = .slice q l c ∧ SE En.i2 w' w.heap.size 82 q l c (arcsR r 16) ∧ l ≤ 256 ∧ Chg none_ w w') := by
  have hM := hS.m
  have hL := hS.l
  refine f39.calls _ ?_
  unfold f39.wp
  refine ⟨fun q l c x w' => ∃ t : Nat, x = (t : Int) ∧ t ≤ 16 ∧ SE En.i2 w' w.heap.size 82 q l c (arcsR r t) ∧ l ≤ 16 * t ∧ Chg none_ w w', fun _ _ _ x _ => 16 - x.toNat, ⟨0, rfl, by omega, SE.nil _ _ _ _, by omega, Chg.refl _ _⟩, ?_⟩
  rintro q1 l1 c1 _ w1 ⟨t, rfl, ht, A1, hl1, k1⟩
  refine bc (fun hlt => ?_) fun hge => ?_
  rotate_left
  · have : t = 16 := by have := of_decide_eq_false hge; omega
    subst this
    exact ⟨q1, l1, c1, rfl, A1, by omega, k1⟩
  have hlt : t < 16 := by have := of_decide_eq_true hlt; omega
  have ewt : IntKind.wrap .i64 ((t : Int) + 1) = ((t + 1 : Nat) : Int) := by rw [wrapS (by omega) (by omega)]; omega
  rw [ewt]
  have h1 := h.chgN k1
  have hq1 : ∀ b, qB q1 = some b → b < w1.heap.size := fun b hb => (A1.lt hb).1
  obtain ⟨T1, hT1⟩ : ∃ T : Nat → List Int, T = fun n => whomL (r.row (2 * n)) (r.row (2 * n + 1)) (t : Int) := ⟨_, rfl⟩
  obtain ⟨T2, hT2⟩ : ∃ T : Nat → List Int, T = fun n => whomL (r.row (2 * (r.M + n))) (r.row (2 * (r.M + n) + 1)) (t : Int) := ⟨_, rfl⟩
  refine onPtr_mk ⟨_, _, _, (h1.obj.cell0 1).trans rfl, fun q l c x w' => ∃ i : Nat, x = (i : Int) ∧ i ≤ r.M ∧ SE En.int w' w1.heap.size 3 q l c ((List.range i).flatMap T1) ∧ l ≤ 32 * i ∧ Chg none_ w1 w', fun _ _ _ x _ => r.M - x.toNat,
    ⟨0, rfl, Nat.zero_le _, SE.nil _ _ _ _, by omega, Chg.refl _ _⟩, ?_⟩
  rintro q3 l3 c3 _ w2 ⟨i, rfl, hi, A2, hl2, k2⟩
  have h2 := h1.chgN k2
  refine bc (fun hlt2 => ?_) fun hge => ?_
  · have hlt2 : i < r.M := by have := of_decide_eq_true hlt2; omega
    obtain ⟨a, ha, hp⟩ := h2.mat hlt2
    obtain ⟨hh, hq, hr, Sh, Sq⟩ := h2.thing hp
    have lh := Sh.len
    have lq := Sq.len
    have ll := hS.row (2 * i)
    have ll' := hS.row (2 * i + 1)
    rw [ha, wrapS (x := (i : Int) + 1) (by omega) (by omega)]
    refine onPtr_mk ⟨by omega, by omega, _, _, _, _, _, _, hr, boxed rfl rfl fun w4 B4 k4 _ => ⟨_, _, _, _, _, _, B4.reads0, Calls.use (whom79 (Sh.re.chg k4) (Sq.re.chg k4) (by omega) (by omega) (t : Int)) ?_⟩⟩
    rintro _ w5 ⟨q8, l8, c8, rfl, A5, hl8, k5⟩
    have A25 := (A2.chgN k4).chgN k5
    have k25 := (k2.trans k4).trans k5
    obtain ⟨q9, c9, w6, hrun, A6, k6, _, _, _, _⟩ := A25.append (t := 35) (ty := 35) (c2 := c8) elemInt A5.re (by simp only [maxLen]; omega) (by show (l3 + l8) * 8 ≤ _; omega) (by have := k25.size; omega)
    refine ⟨q8, l8, c8, rfl, q9, l3 + l8, c9, w6, hrun, ⟨i + 1, by omega, hlt2, ?_, by omega, k25.up k6 fun x hx => (A25.lt hx.symm).2⟩, meas hlt2⟩
    rw [fm_succ]
    have : T1 i = whomL (r.row (2 * i)) (r.row (2 * i + 1)) (t : Int) := by rw [hT1]
    rw [this]; exact A6
  have hiM : i = r.M := by have := of_decide_eq_false hge; omega
  subst hiM
  clear hge hi
  refine onPtr_mk ⟨_, _, _, (h2.obj.cell0 2).trans rfl, fun q l c x w' => ∃ i : Nat, x = (i : Int) ∧ i ≤ r.L ∧ SE En.int w' w1.heap.size 3 q l c ((List.range r.M).flatMap T1 ++ (List.range i).flatMap T2) ∧ l ≤ 2048 + 32 * i ∧ Chg none_ w1 w', fun _ _ _ x _ => r.L - x.toNat,
    ⟨0, rfl, Nat.zero_le _, by simpa using A2, by omega, k2⟩, ?_⟩
  clear A2 h2 k2 hl2
  rintro q11 l11 c11 _ w7 ⟨i, rfl, hi, A7, hl7, k7⟩
  have h7 := h1.chgN k7
  refine bc (fun hlt2 => ?_) fun hge => ?_
  · have hlt2 : i < r.L := by have := of_decide_eq_true hlt2; omega
    obtain ⟨a, ha, hp⟩ := h7.lat hlt2
    obtain ⟨hh, hq, hr, Sh, Sq⟩ := h7.thing hp
    have lh := Sh.len
    have lq := Sq.len
    have ll := hS.row (2 * (r.M + i))
    have ll' := hS.row (2 * (r.M + i) + 1)
    rw [ha, wrapS (x := (i : Int) + 1) (by omega) (by omega)]
    refine onPtr_mk ⟨by omega, by omega, _, _, _, _, _, _, hr, boxed rfl rfl fun w9 B9 k9 _ => ⟨_, _, _, _, _, _, B9.reads0, Calls.use (whom79 (Sh.re.chg k9) (Sq.re.chg k9) (by omega) (by omega) (t : Int)) ?_⟩⟩
    rintro _ w10 ⟨q16, l16, c16, rfl, A10, hl16, k10⟩
    have A70 := (A7.chgN k9).chgN k10
    have k70 := (k7.trans k9).trans k10
    obtain ⟨q17, c17, w11, hrun, A11, k11, _, _, _, _⟩ := A70.append (t := 35) (ty := 35) (c2 := c16) elemInt A10.re (by simp only [maxLen]; omega) (by show (l11 + l16) * 8 ≤ _; omega) (by have := k70.size; omega)
    refine ⟨q16, l16, c16, rfl, q17, l11 + l16, c17, w11, hrun, ⟨i + 1, by omega, hlt2, ?_, by omega, k70.up k11 fun x hx => (A70.lt hx.symm).2⟩, meas hlt2⟩
    rw [fm_succ, ← List.append_assoc]
    have : T2 i = whomL (r.row (2 * (r.M + i))) (r.row (2 * (r.M + i) + 1)) (t : Int) := by rw [hT2]
    rw [this]; exact A11
  have hiL : i = r.L := by have := of_decide_eq_false hge; omega
  subst hiL
  clear hge hi
  have eto : (List.range r.M).flatMap T1 ++ (List.range r.L).flatMap T2 = toR r (t : Int) := by rw [hT1, hT2]; rfl
  rw [eto] at A7
  have lto := A7.len
  have k07 := k1.trans k7
  refine ⟨fun q l c x w' => ∃ i : Nat, x = (i : Int) ∧ i ≤ 16 ∧ SE En.i2 w' w.heap.size 82 q l c (arcsR r t ++ (List.range i).flatMap (arcI (toR r (t : Int)) (t : Int))) ∧ l ≤ 16 * t + i ∧ Chg none_ w w' ∧ SE En.int w' w1.heap.size 3 q11 l11 c11 (toR r (t : Int)), fun _ _ _ x _ => 16 - x.toNat,
    ⟨0, rfl, by omega, by simpa using A1.chgN k7, by omega, k07, A7⟩, ?_⟩
  rintro q18 l18 c18 _ w12 ⟨x, rfl, hx, A12, hl12, k12, T12⟩
  refine bc (fun hlt2 => ?_) fun hge => ?_
  · have hlt2 : x < 16 := by have := of_decide_eq_true hlt2; omega
    have ewx : IntKind.wrap .i64 ((x : Int) + 1) = ((x + 1 : Nat) : Int) := by rw [wrapS (by omega) (by omega)]; omega
    rw [ewx]
    refine ⟨fun q l c y w' => ∃ j : Nat, y = (j : Int) ∧ j ≤ l11 ∧ SE En.i2 w' w.heap.size 82 q l c (arcsR r t ++ (List.range x).flatMap (arcI (toR r (t : Int)) (t : Int))) ∧ l ≤ 16 * t + x ∧ Chg none_ w w' ∧ SE En.int w' w1.heap.size 3 q11 l11 c11 (toR r (t : Int)) ∧ ∀ (k : Nat) (z : Int), k < j → (toR r (t : Int))[k]? = some z → z ≠ (x : Int), fun _ _ _ y _ => l11 - y.toNat,
      ⟨0, rfl, Nat.zero_le _, A12, by omega, k12, T12, fun k z hk => by omega⟩, ?_⟩
    rintro q19 l19 c19 _ w13 ⟨j, rfl, hj, A13, hl13, k13, T13, hin⟩
    refine bc (fun hlt3 => ?_) fun hge3 => ?_
    · have hlt3 : j < l11 := by have := of_decide_eq_true hlt3; omega
      obtain ⟨a, z, ha, hz, hr⟩ := T13.re.ex hlt3
      have c0 := reads_at hr (i := 0) rfl
      rw [add_zero'] at c0
      have ewj : IntKind.wrap .i64 ((j : Int) + 1) = ((j + 1 : Nat) : Int) := by rw [wrapS (by omega) (by omega)]; omega
      rw [ewj]
      refine onPtr_at ha ⟨by omega, by omega, _, c0, bc (fun he => ?_) fun he => ?_⟩
      · have he : z = (x : Int) := eq_of_beq he
        refine pushG (t := 77) elemArc A13 k13 ((t : Int), (x : Int)) (by omega) (by decide) rfl fun q' c' w15 A15 k15 hB => ⟨⟨x + 1, rfl, hlt2, ?_, by omega, k15, ?_⟩, by simp only [Int.toNat_natCast]; omega⟩
        · have hc : (toR r (t : Int)).contains (x : Int) = true := by
            rw [List.contains_iff_mem]; rw [← he]; exact List.mem_of_getElem? hz
          rw [fm_succ, arcI, if_pos hc, ← List.append_assoc]; exact A15
        · exact SE.ofB T13 fun b cs B => hB _ _ _ B (by decide)
      · have he : z ≠ (x : Int) := ne_of_beq_false he
        refine ⟨⟨j + 1, rfl, hlt3, A13, hl13, k13, T13, fun k y hk hy => ?_⟩, by simp only [Int.toNat_natCast]; omega⟩
        rcases Nat.lt_or_ge k j with h' | h'
        · exact hin k y h' hy
        · have : k = j := by omega
          subst this
          rw [hz] at hy; cases hy; exact he
    · have hjl : j = l11 := by have := of_decide_eq_false hge3; omega
      refine ⟨⟨x + 1, rfl, hlt2, ?_, by omega, k13, T13⟩, by simp only [Int.toNat_natCast]; omega⟩
      have hc : ¬ (toR r (t : Int)).contains (x : Int) = true := fun hc => by
        rw [List.contains_iff_mem] at hc
        obtain ⟨k, hk⟩ := List.getElem?_of_mem hc
        exact hin k _ (by have := get_lt hk; omega) hk rfl
      rw [fm_succ, arcI, if_neg hc, List.append_nil]; exact A13
  · have hx16 : x = 16 := by have := of_decide_eq_false hge; omega
    subst hx16
    refine ⟨⟨t + 1, rfl, hlt, ?_, by omega, k12⟩, by simp only [Int.toNat_natCast]; omega⟩
    have : arcsR r (t + 1) = arcsR r t ++ (List.range 16).flatMap (arcI (toR r (t : Int)) (t : Int)) := by unfold arcsR; rw [fm_succ]
    rw [this]; exact A12
end
end Full
end Go.Proofs.Ytibpbbjlecohiaa
