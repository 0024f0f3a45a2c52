import Derived.Test.YtibpbbjlecohiaaLbO
import Derived.Test.YtibpbbjlecohiaaLaF
set_option maxRecDepth 20000
namespace Go.Proofs.Ytibpbbjlecohiaa
namespace Full
open Go Go.Vc Go.RowKit
structure Told where
  got : Bool
  woken : List Int
  n : Int
  err : Int
/-- a call of a task, by its kind -/
def doesF (s : S8) (task kind n m : Int) : Told × S8 :=
  if kind = 1 then (⟨(lockF s task n).1, [], 0, (lockF s task n).2.1⟩, (lockF s task n).2.2)
  else if kind = 2 then (⟨false, (unlockF s task n).1, 0, (unlockF s task n).2.1⟩, (unlockF s task n).2.2)
  else if kind = 3 then (⟨(takeF s task n 3).1, [], 0, (takeF s task n 3).2.1⟩, (takeF s task n 3).2.2)
  else if kind = 4 then (⟨false, (runF s task n).1, 0, (runF s task n).2.1⟩, (runF s task n).2.2)
  else if kind = 5 then (⟨(takeF s task n 5).1, [], 0, (takeF s task n 5).2.1⟩, (takeF s task n 5).2.2)
  else if kind = 6 then (⟨false, (wunF s task n).1, 0, (wunF s task n).2.1⟩, (wunF s task n).2.2)
  else if kind = 7 then (⟨false, (waitF s task n m).1, 0, (waitF s task n m).2.1⟩, (waitF s task n m).2.2)
  else if kind = 8 then (⟨false, (sigF s task n).1, 0, (sigF s task n).2.1⟩, (sigF s task n).2.2)
  else if kind = 9 then (⟨false, (broF s task n).1, 0, (broF s task n).2.1⟩, (broF s task n).2.2)
  else if kind = 10 then (⟨false, [], (addF s task n m).1, (addF s task n m).2.1⟩, (addF s task n m).2.2)
  else (⟨false, [], 0, 0⟩, s)
section
variable {w w' : World} {base N Q o : Nat} {g : G8} {s : S8}
theorem Woke.put {w w3 w4 w7 : World} {q : Option Addr} {l : Nat} {r : List Int} {s' : S8} (hW : Woke w3 w4 base N Q o g q l r s') {S : Nat → Prop} (k : Chg S w4 w7) (hS : ∀ b, S b → b < w3.heap.size ∧ ¬ Own g o b) (L : Stp o w g w3 g) (hlow : ∀ b, S b → w.heap.size ≤ b) : Woke w w7 base N Q o g q l r s' := by
  obtain ⟨h1, h2, g', I, st, hn⟩ := hW
  refine ⟨h1.chgS k fun a ha hs => ?_, fun b hb => ⟨Nat.le_trans L.chg.size (h2 b hb).1, Nat.lt_of_lt_of_le (h2 b hb).2 k.size⟩, g', I.chg k fun b hb => st.nown (hS b hb).1 (hS b hb).2, ⟨(L.trans st).chg.trans' k fun b hb => .inr (hlow b hb), (L.trans st).grow⟩, hn⟩
  have := (h2 a.block (by rw [ha]; rfl)).1
  have := (hS _ hs).1
  omega
theorem Woke.upN {N' : Nat} {q : Option Addr} {l : Nat} {r : List Int} {s' : S8} (h : Woke w w' base N Q o g q l r s') (hN : N ≤ N') : Woke w w' base N' Q o g q l r s' := by
  obtain ⟨h1, h2, g', I, st', hn⟩ := h
  exact ⟨h1, h2, g', I.up hN (Nat.le_refl _), st', hn⟩
/-- the end of each way: told's block written, copied, read -/
theorem told_end {w w3 w4 : World} {a b j : Nat} {q : Option Addr} {l c : Nat} {s' : S8} {t : Told} {v : Value} {C : Value → World → Prop} (hW : Woke w3 w4 base N Q o g q l t.woken s') (L : Stp o w g w3 g) (T3 : Blk w3 a 42 #[.bool false, .slice none 0 0, .int .i64 0, .int .i64 0]) (D3 : Blk w3 b 42 #[.bool false, .slice none 0 0, .int .i64 0, .int .i64 0]) (hab : a ≠ b) (na : ¬ Own g o a) (nb : ¬ Own g o b) (la : w.heap.size ≤ a) (lb : w.heap.size ≤ b)
    (T4 : Blk w4 a 42 #[.bool false, .slice none 0 0, .int .i64 0, .int .i64 0]) (D4 : Blk w4 b 42 #[.bool false, .slice none 0 0, .int .i64 0, .int .i64 0]) (hj : j < 3)
    (hres : putC (putC #[.bool false, .slice none 0 0, .int .i64 0, .int .i64 0] j [v]) 3 [.int .i64 t.err] = #[.bool t.got, .slice q l c, .int .i64 t.n, .int .i64 t.err])
    (hC : ∀ w7, Woke w w7 base N Q o g q l t.woken s' → C (.agg #[.bool t.got, .slice q l c, .int .i64 t.n, .int .i64 t.err]) w7) :
    canStore w4 ⟨a, j, none⟩ 1 ∧ ∀ w5 : World, w5 = setCells (⟨a, j, none⟩ : Addr) 0 [v] w4 → canStore w5 ((⟨a, 0, none⟩ : Addr).add 3) 1 ∧ ∀ w6 : World, w6 = setCells ((⟨a, 0, none⟩ : Addr).add 3) 0 [.int .i64 t.err] w5 →
      ∃ b2 : Bool, ∃ (q1 : Option Addr) (l1 c1 : Nat), ∃ n5 : Int, ∃ n6 : Int, reads w6 (⟨a, 0, none⟩ : Addr) [.bool b2, .slice q1 l1 c1, .int .i64 n5, .int .i64 n6] ∧ canStore w6 (⟨b, 0, none⟩ : Addr) 4 ∧
      ∀ w7 : World, w7 = setCells (⟨b, 0, none⟩ : Addr) 0 [.bool b2, .slice q1 l1 c1, .int .i64 n5, .int .i64 n6] w6 →
      ∃ b3 : Bool, ∃ (q2 : Option Addr) (l2 c2 : Nat), ∃ n7 : Int, ∃ n8 : Int, reads w7 (⟨b, 0, none⟩ : Addr) [.bool b3, .slice q2 l2 c2, .int .i64 n7, .int .i64 n8] ∧ C (.agg #[.bool b3, .slice q2 l2 c2, .int .i64 n7, .int .i64 n8]) w7 := by
  refine ⟨T4.canStore (by show j + 1 ≤ 4; omega), fun w5 e5 => ?_⟩
  have T5 := T4.sets' e5
  have k5 : Chg (fun k => k = a ∨ k = b) w4 w5 := (Chg.refl _ w4).sets' e5 (.inl (.inl rfl))
  have D5 := D4.far' e5 (fun e => hab e.symm)
  have hsz : (putC #[Value.bool false, .slice none 0 0, .int .i64 0, .int .i64 0] (j + 0) [v]).size = 4 := by
    rcases j with _ | _ | _ | j <;> first | rfl | omega
  refine ⟨T5.canStore0 (by rw [hsz]; decide), fun w6 e6 => ?_⟩
  rw [add_mk, Nat.zero_add] at e6
  have T6 := T5.sets' e6
  have k6 : Chg (fun k => k = a ∨ k = b) w5 w6 := (Chg.refl _ w5).sets' e6 (.inl (.inl rfl))
  have D6 := D5.far' e6 (fun e => hab e.symm)
  rw [show putC (putC #[Value.bool false, .slice none 0 0, .int .i64 0, .int .i64 0] (j + 0) [v]) (3 + 0) [.int .i64 t.err] = #[.bool t.got, .slice q l c, .int .i64 t.n, .int .i64 t.err] from hres] at T6
  refine ⟨_, _, _, _, _, _, T6.reads0, D6.canStore (by show 0 + 4 ≤ 4; decide), fun w7 e7 => ?_⟩
  have D7 := D6.over e7 rfl
  have k7 : Chg (fun k => k = a ∨ k = b) w6 w7 := (Chg.refl _ w6).sets' e7 (.inl (.inr rfl))
  exact ⟨_, _, _, _, _, _, D7.reads0, hC w7 (hW.put (k5.trans (k6.trans k7)) (fun x hx => by
    rcases hx with rfl | rfl
    · exact ⟨T3.lt, na⟩
    · exact ⟨D3.lt, nb⟩) L (fun x hx => by
    rcases hx with rfl | rfl
    · exact la
    · exact lb))⟩
def DoneR (w : World) (base N Q o : Nat) (g : G8) (t : Told) (s' : S8) (v : Value) (w' : World) : Prop := ∃ q l c, v = .agg #[.bool t.got, .slice q l c, .int .i64 t.n, .int .i64 t.err] ∧ Woke w w' base N Q o g q l t.woken s'
theorem does20 (h : InvG w base N Q o g s) (hN : N ≤ 3000000000000000000) (hQ : Q ≤ 4398046511104) (task kind n m : Int) :
    Calls Try.prog 20 #[.pointer (some (ad o)), .agg #[.int .i64 task, .int .i64 kind, .int .i64 n, .int .i64 m]] w (Ret (DoneR w base (N + 2) (Q + 1) o g (doesF s task kind n m).1 (doesF s task kind n m).2)) := by
  refine f20.calls _ _ _ _ _ ?_
  unfold f20.wp
  refine newBox fun w1 B1 k1 s1 => newBox fun w2 D2 k2 s2 => newBox fun w3 T3 k3 s3 => ?_
  have k13 := k2.trans k3
  have k03 := k1.trans k13
  have h3 := h.chgN k03
  have B3 := k13.blk B1 (fun x => x)
  have D3 := k3.blk D2 (fun x => x)
  have L : Stp o w g w3 g := Stp.ofN k03
  have n1 : ¬ Own g o w1.heap.size := fun ho => by have := (h.own_lt ho).1; omega
  have n2 : ¬ Own g o w2.heap.size := fun ho => by have := (h.own_lt ho).1; omega
  have hab : w2.heap.size ≠ w1.heap.size := by omega
  refine ⟨_, (B3.cell0 1).trans rfl, ?_⟩
  refine bc (fun hk => ?_) (fun hk1 => ?_)
  · have hk : kind = 1 := by simpa using hk
    subst hk
    refine ⟨_, (B3.cell 0).trans rfl, _, (B3.cell0 2).trans rfl, Calls.use (lock18 h3 (by omega) hQ task n) ?_⟩
    rintro _ w4 ⟨rfl, g4, I4, st4⟩
    refine ⟨_, _, rfl, told_end (j := 0) (q := none) (l := 0) (c := 0) (t := ⟨(lockF s task n).1, [], 0, (lockF s task n).2.1⟩) (s' := (lockF s task n).2.2) (Woke.nil (I4.up (by omega) (Nat.le_refl _)) st4) L T3 D3 hab n2 n1 (by omega) (by omega) (st4.blk T3 n2) (st4.blk D3 n1) (by decide) rfl fun w7 hW => ⟨none, 0, 0, rfl, hW⟩⟩
  refine bc (fun hk => ?_) (fun hk2 => ?_)
  · have hk : kind = 2 := by simpa using hk
    subst hk
    refine ⟨_, (B3.cell 0).trans rfl, _, (B3.cell0 2).trans rfl, Calls.use (unlock19 h3 task n) ?_⟩
    rintro _ w4 ⟨q, l, c, rfl, hW⟩
    have hW := (hW.upQ (Nat.le_succ Q)).upN (N' := N + 2) (by omega)
    have st4 := hW
    obtain ⟨_, _, g4, _, st4, _⟩ := st4
    refine ⟨_, _, _, _, rfl, ?_⟩
    have := told_end (j := 1) (v := .slice q l c) (c := c) (t := ⟨false, (unlockF s task n).1, 0, (unlockF s task n).2.1⟩) (C := DoneR w base (N + 2) (Q + 1) o g (⟨false, (unlockF s task n).1, 0, (unlockF s task n).2.1⟩) (unlockF s task n).2.2) hW L T3 D3 hab n2 n1 (by omega) (by omega) (st4.blk T3 n2) (st4.blk D3 n1) (by decide) rfl fun w7 hW => ⟨q, l, c, rfl, hW⟩
    rw [add_mk, Nat.zero_add]
    rw [add_mk, Nat.zero_add] at this
    exact this
  refine bc (fun hk => ?_) (fun hk3 => ?_)
  · have hk : kind = 3 := by simpa using hk
    subst hk
    refine ⟨_, (B3.cell 0).trans rfl, _, (B3.cell0 2).trans rfl, Calls.use (rlock47 h3 (by omega) hQ task n) ?_⟩
    rintro _ w4 ⟨rfl, g4, I4, st4⟩
    refine ⟨_, _, rfl, told_end (j := 0) (q := none) (l := 0) (c := 0) (t := ⟨(takeF s task n 3).1, [], 0, (takeF s task n 3).2.1⟩) (s' := (takeF s task n 3).2.2) (Woke.nil (I4.up (by omega) (Nat.le_refl _)) st4) L T3 D3 hab n2 n1 (by omega) (by omega) (st4.blk T3 n2) (st4.blk D3 n1) (by decide) rfl fun w7 hW => ⟨none, 0, 0, rfl, hW⟩⟩
  refine bc (fun hk => ?_) (fun hk4 => ?_)
  · have hk : kind = 4 := by simpa using hk
    subst hk
    refine ⟨_, (B3.cell 0).trans rfl, _, (B3.cell0 2).trans rfl, Calls.use (runlock48 h3 hQ task n) ?_⟩
    rintro _ w4 ⟨q, l, c, rfl, hW⟩
    have hW := (hW.upQ (Nat.le_succ Q)).upN (N' := N + 2) (by omega)
    have st4 := hW
    obtain ⟨_, _, g4, _, st4, _⟩ := st4
    refine ⟨_, _, _, _, rfl, ?_⟩
    have := told_end (j := 1) (v := .slice q l c) (c := c) (t := ⟨false, (runF s task n).1, 0, (runF s task n).2.1⟩) (C := DoneR w base (N + 2) (Q + 1) o g (⟨false, (runF s task n).1, 0, (runF s task n).2.1⟩) (runF s task n).2.2) hW L T3 D3 hab n2 n1 (by omega) (by omega) (st4.blk T3 n2) (st4.blk D3 n1) (by decide) rfl fun w7 hW => ⟨q, l, c, rfl, hW⟩
    rw [add_mk, Nat.zero_add]
    rw [add_mk, Nat.zero_add] at this
    exact this
  refine bc (fun hk => ?_) (fun hk5 => ?_)
  · have hk : kind = 5 := by simpa using hk
    subst hk
    refine ⟨_, (B3.cell 0).trans rfl, _, (B3.cell0 2).trans rfl, Calls.use (wlock49 h3 (by omega) hQ task n) ?_⟩
    rintro _ w4 ⟨rfl, g4, I4, st4⟩
    refine ⟨_, _, rfl, told_end (j := 0) (q := none) (l := 0) (c := 0) (t := ⟨(takeF s task n 5).1, [], 0, (takeF s task n 5).2.1⟩) (s' := (takeF s task n 5).2.2) (Woke.nil (I4.up (by omega) (Nat.le_refl _)) st4) L T3 D3 hab n2 n1 (by omega) (by omega) (st4.blk T3 n2) (st4.blk D3 n1) (by decide) rfl fun w7 hW => ⟨none, 0, 0, rfl, hW⟩⟩
  refine bc (fun hk => ?_) (fun hk6 => ?_)
  · have hk : kind = 6 := by simpa using hk
    subst hk
    refine ⟨_, (B3.cell 0).trans rfl, _, (B3.cell0 2).trans rfl, Calls.use (wunlock50 h3 hQ task n) ?_⟩
    rintro _ w4 ⟨q, l, c, rfl, hW⟩
    have hW := (hW.upQ (Nat.le_succ Q)).upN (N' := N + 2) (by omega)
    have st4 := hW
    obtain ⟨_, _, g4, _, st4, _⟩ := st4
    refine ⟨_, _, _, _, rfl, ?_⟩
    have := told_end (j := 1) (v := .slice q l c) (c := c) (t := ⟨false, (wunF s task n).1, 0, (wunF s task n).2.1⟩) (C := DoneR w base (N + 2) (Q + 1) o g (⟨false, (wunF s task n).1, 0, (wunF s task n).2.1⟩) (wunF s task n).2.2) hW L T3 D3 hab n2 n1 (by omega) (by omega) (st4.blk T3 n2) (st4.blk D3 n1) (by decide) rfl fun w7 hW => ⟨q, l, c, rfl, hW⟩
    rw [add_mk, Nat.zero_add]
    rw [add_mk, Nat.zero_add] at this
    exact this
  refine bc (fun hk => ?_) (fun hk7 => ?_)
  · have hk : kind = 7 := by simpa using hk
    subst hk
    refine ⟨_, (B3.cell 0).trans rfl, _, (B3.cell0 2).trans rfl, _, (B3.cell0 3).trans rfl, Calls.use (wait51 h3 hN hQ task n m) ?_⟩
    rintro _ w4 ⟨q, l, c, rfl, hW⟩
    have hW := hW
    have st4 := hW
    obtain ⟨_, _, g4, _, st4, _⟩ := st4
    refine ⟨_, _, _, _, rfl, ?_⟩
    have := told_end (j := 1) (v := .slice q l c) (c := c) (t := ⟨false, (waitF s task n m).1, 0, (waitF s task n m).2.1⟩) (C := DoneR w base (N + 2) (Q + 1) o g (⟨false, (waitF s task n m).1, 0, (waitF s task n m).2.1⟩) (waitF s task n m).2.2) hW L T3 D3 hab n2 n1 (by omega) (by omega) (st4.blk T3 n2) (st4.blk D3 n1) (by decide) rfl fun w7 hW => ⟨q, l, c, rfl, hW⟩
    rw [add_mk, Nat.zero_add]
    rw [add_mk, Nat.zero_add] at this
    exact this
  refine bc (fun hk => ?_) (fun hk8 => ?_)
  · have hk : kind = 8 := by simpa using hk
    subst hk
    refine ⟨_, (B3.cell 0).trans rfl, _, (B3.cell0 2).trans rfl, Calls.use (signal52 h3 (by omega) hQ task n) ?_⟩
    rintro _ w4 ⟨q, l, c, rfl, hW⟩
    have hW := (hW.upQ (Nat.le_succ Q)).upN (N' := N + 2) (by omega)
    have st4 := hW
    obtain ⟨_, _, g4, _, st4, _⟩ := st4
    refine ⟨_, _, _, _, rfl, ?_⟩
    have := told_end (j := 1) (v := .slice q l c) (c := c) (t := ⟨false, (sigF s task n).1, 0, (sigF s task n).2.1⟩) (C := DoneR w base (N + 2) (Q + 1) o g (⟨false, (sigF s task n).1, 0, (sigF s task n).2.1⟩) (sigF s task n).2.2) hW L T3 D3 hab n2 n1 (by omega) (by omega) (st4.blk T3 n2) (st4.blk D3 n1) (by decide) rfl fun w7 hW => ⟨q, l, c, rfl, hW⟩
    rw [add_mk, Nat.zero_add]
    rw [add_mk, Nat.zero_add] at this
    exact this
  refine bc (fun hk => ?_) (fun hk9 => ?_)
  · have hk : kind = 9 := by simpa using hk
    subst hk
    refine ⟨_, (B3.cell 0).trans rfl, _, (B3.cell0 2).trans rfl, Calls.use (broadcast53 h3 (by omega) hQ task n) ?_⟩
    rintro _ w4 ⟨q, l, c, rfl, hW⟩
    have hW := (hW.upQ (Nat.le_succ Q)).upN (N' := N + 2) (by omega)
    have st4 := hW
    obtain ⟨_, _, g4, _, st4, _⟩ := st4
    refine ⟨_, _, _, _, rfl, ?_⟩
    have := told_end (j := 1) (v := .slice q l c) (c := c) (t := ⟨false, (broF s task n).1, 0, (broF s task n).2.1⟩) (C := DoneR w base (N + 2) (Q + 1) o g (⟨false, (broF s task n).1, 0, (broF s task n).2.1⟩) (broF s task n).2.2) hW L T3 D3 hab n2 n1 (by omega) (by omega) (st4.blk T3 n2) (st4.blk D3 n1) (by decide) rfl fun w7 hW => ⟨q, l, c, rfl, hW⟩
    rw [add_mk, Nat.zero_add]
    rw [add_mk, Nat.zero_add] at this
    exact this
  refine bc (fun hk => ?_) (fun hk10 => ?_)
  · have hk : kind = 10 := by simpa using hk
    subst hk
    refine ⟨_, (B3.cell 0).trans rfl, _, (B3.cell0 2).trans rfl, _, (B3.cell0 3).trans rfl, Calls.use (add54 h3 task n m) ?_⟩
    rintro _ w4 ⟨rfl, g4, I4, st4⟩
    refine ⟨_, _, rfl, ?_⟩
    have := told_end (j := 2) (v := .int .i64 (addF s task n m).1) (q := none) (l := 0) (c := 0) (t := ⟨false, [], (addF s task n m).1, (addF s task n m).2.1⟩) (s' := (addF s task n m).2.2) (C := DoneR w base (N + 2) (Q + 1) o g (⟨false, [], (addF s task n m).1, (addF s task n m).2.1⟩) (addF s task n m).2.2) (Woke.nil (I4.up (by omega) (Nat.le_succ Q)) st4) L T3 D3 hab n2 n1 (by omega) (by omega) (st4.blk T3 n2) (st4.blk D3 n1) (by decide) rfl fun w7 hW => ⟨none, 0, 0, rfl, hW⟩
    rw [add_mk, Nat.zero_add]
    rw [add_mk, Nat.zero_add] at this
    exact this
  have e : doesF s task kind n m = (⟨false, [], 0, 0⟩, s) := by
    have f : ∀ k : Int, (kind == k) = false → ¬ kind = k := fun k h => ne_of_beq_false h
    unfold doesF
    rw [if_neg (f 1 hk1), if_neg (f 2 hk2), if_neg (f 3 hk3), if_neg (f 4 hk4), if_neg (f 5 hk5), if_neg (f 6 hk6), if_neg (f 7 hk7), if_neg (f 8 hk8), if_neg (f 9 hk9), if_neg (f 10 hk10)]
  rw [e]
  refine ⟨_, _, _, _, _, _, T3.reads0, D3.canStore (by show 0 + 4 ≤ 4; decide), fun w4 e4 => ?_⟩
  have D4 := D3.over e4 rfl
  have k4 : Chg (fun k => k = w1.heap.size) w3 w4 := (Chg.refl _ w3).sets' e4 (.inl rfl)
  refine ⟨_, _, _, _, _, _, D4.reads0, none, 0, 0, rfl, ?_⟩
  exact (Woke.nil (h3.up (by omega) (by omega)) (Stp.refl o w3 g)).put k4 (fun b hb => by
    subst hb
    exact ⟨D3.lt, n1⟩) L (fun b hb => by omega)
end
end Full
end Go.Proofs.Ytibpbbjlecohiaa
set_option maxRecDepth 20000
namespace Go.Proofs.Ytibpbbjlecohiaa
namespace Full
open Go Go.Vc Go.RowKit
def En.w3 : En W3 := ⟨3, fun x => [.int .i64 x.1, .int .i64 x.2.1, .int .i64 x.2.2], fun _ => rfl, fun _ v hv => by simp at hv; rcases hv with rfl | rfl | rfl <;> rfl, by decide⟩
theorem elemW3 : ElemOk Try.prog 44 47 3 24 := ⟨Try.underlying44, .agg #[.int .i64 0, .int .i64 0, .int .i64 0], by kernel_rfl, rfl⟩
def hmi (s : S8) (task : Int) (j : Nat) : List W3 := match s.ms[j]? with | some m => if m.owner = task then [(task, 1, (j : Int))] else [] | none => []
def hli (s : S8) (task : Int) (j : Nat) : List W3 := match s.ls[j]? with | some m => (if idxI m.readers task ≥ 0 then [(task, 3, (j : Int))] else []) ++ (if m.writer = task then [(task, 5, (j : Int))] else []) | none => []
def hm (s : S8) (task : Int) (k : Nat) : List W3 := (List.range k).flatMap (hmi s task)
def hl (s : S8) (task : Int) (k : Nat) : List W3 := (List.range k).flatMap (hli s task)
theorem hm_succ (s : S8) (task : Int) (k : Nat) : hm s task (k + 1) = hm s task k ++ hmi s task k := by simp [hm, List.range_succ]
theorem hl_succ (s : S8) (task : Int) (k : Nat) : hl s task (k + 1) = hl s task k ++ hli s task k := by simp [hl, List.range_succ]
/-- Holds -/
def holdsF (s : S8) (task : Int) : List W3 := if task < 0 then [] else hm s task s.ms.length ++ hl s task s.ls.length
section
variable {w w' : World} {base N Q o : Nat} {g : G8} {s : S8}
theorem push44 {w w1 : World} {q : Option Addr} {l c : Nat} {xs : List W3} (A : SE En.w3 w1 w.heap.size 47 q l c xs) (k : Chg none_ w w1) (x : W3) (hl : l ≤ 1000) {t : Nat} (ht : w1.heap.size = t) {C : Option Addr → Nat → Nat → World → Prop}
    (hC : ∀ q' c' w3, SE En.w3 w3 w.heap.size 47 q' (l + 1) c' (xs ++ [x]) → Chg none_ w w3 → (∀ b tt cs, Blk w1 b tt cs → tt ≠ 47 → Blk w3 b tt cs) → C q' (l + 1) c' w3) :
    ∀ w2 : World, w2 = w1.alloc (.cells #[.int .i64 x.1, .int .i64 x.2.1, .int .i64 x.2.2] 47) → ∃ (q4 : Option Addr) (l4 c4 : Nat), ∃ w5 : World, (Builtin.append_ #[44, 44] 44 #[.slice q l c, .slice (some (⟨t, 0, none⟩ : Addr)) 1 1]).run Try.prog w2 = .ok (.slice q4 l4 c4) w5 ∧ C q4 l4 c4 w5 := by
  subst ht
  refine newBox fun w2 B2 k2 _ => ?_
  have k02 := k.trans k2
  obtain ⟨q', c', w3, hrun, A3, k3, _⟩ := (A.chgN k2).append1 (t := 44) (ty := 44) (x := x) elemW3 B2 (by simp only [maxLen]; omega) (by show (l + 1) * 24 ≤ _; omega) k02.size
  refine ⟨q', l + 1, c', w3, hrun, hC q' c' w3 A3 (k02.up k3 fun b hb => ((A.chgN k2).lt hb.symm).2) fun b tt cs B ht => ?_⟩
  have B' := k2.blk B (fun x => x)
  exact k3.blk B' fun e => SE.ne (A.chgN k2) B' ht _ e.symm rfl
theorem holds21 (h : InvG w base N Q o g s) (hQ : Q ≤ 4398046511104) (h64 : s.ms.length ≤ 64) (l64 : s.ls.length ≤ 64) (task : Int) :
    Calls Try.prog 21 #[.pointer (some (ad o)), .int .i64 task] w (Ret fun v w' => ∃ q l c, v = .slice q l c ∧ SE En.w3 w' w.heap.size 47 q l c (holdsF s task) ∧ l ≤ 200 ∧ Chg none_ w w') := by
  refine f21.calls _ _ ?_
  unfold f21.wp
  refine ⟨ptrOk_none _ _, bcF rfl (bc (fun hn => ?_) (fun hn => ?_))⟩
  · have hn := of_decide_eq_true hn
    rw [holdsF, if_pos hn]
    exact ⟨_, _, _, rfl, SE.nil _ _ _ _, by decide, Chg.refl _ _⟩
  have hn : ¬ task < 0 := of_decide_eq_false hn
  rw [holdsF, if_neg hn]
  refine onPtr_mk ⟨_, _, _, (h.obj.cell 0).trans rfl, fun q2 l2 c2 x1 w1 => ∃ (i : Nat) (acc : List W3), x1 = i ∧ i ≤ s.ms.length ∧ SE En.w3 w1 w.heap.size 47 q2 l2 c2 acc ∧ acc = hm s task i ∧ l2 ≤ i ∧ Chg none_ w w1, fun _ _ _ x1 _ => s.ms.length - x1.toNat, ⟨0, [], rfl, Nat.zero_le _, SE.nil _ _ _ _, rfl, Nat.le_refl _, Chg.refl _ _⟩, ?_⟩
  rintro q2 l2 c2 x1 w1 ⟨i, acc, rfl, hi, A1, hacc, hl2, k1⟩
  have h1 := h.chgN k1
  refine bc (fun hlt => ?_) (fun hge => ?_)
  · have hi' : i < s.ms.length := by simpa using hlt
    obtain ⟨mx, hmx⟩ := get_ex hi'
    obtain ⟨a, hx, ha, hhx, hr⟩ := h1.mx.re.ex (i := i) hi'
    obtain ⟨a', hd, ha', hhx', _⟩ := h1.mrow_at hmx
    rw [hhx] at hhx'; cases hhx'
    rw [ha]
    rw [wrapS (x := (i : Int) + 1) (by omega) (by omega)]
    refine onPtr_mk ⟨by omega, by omega, _, _, _, _, hr, boxed rfl rfl fun w3 B3 k3 s3 => ⟨_, (B3.cell 0).trans rfl, ?_⟩⟩
    have k13 := k1.trans k3
    have A3 := A1.chgN k3
    refine bc (fun he => ?_) (fun he => ?_)
    · have he : mx.owner = task := by simpa using he
      have e : hmi s task i = [(task, 1, (i : Int))] := by unfold hmi; rw [hmx]; simp [he]
      refine push44 A3 k13 (task, 1, (i : Int)) (by omega) rfl fun q' c' w5 A5 k5 _ => ⟨⟨i + 1, _, rfl, hi', A5, by rw [hm_succ, e, hacc], by omega, k5⟩, meas hi'⟩
    · have he : ¬ mx.owner = task := by simpa using he
      have e : hmi s task i = [] := by unfold hmi; rw [hmx]; simp [he]
      exact ⟨⟨i + 1, _, rfl, hi', A3, by rw [hm_succ, e, hacc, List.append_nil], by omega, k13⟩, meas hi'⟩
  · have hge : i = s.ms.length := by simp at hge; omega
    subst hge
    refine onPtr_mk ⟨_, _, _, (h1.obj.cell0 1).trans rfl, fun q6 l6 c6 x2 w6 => ∃ (j : Nat) (acc2 : List W3), x2 = j ∧ j ≤ s.ls.length ∧ SE En.w3 w6 w.heap.size 47 q6 l6 c6 acc2 ∧ acc2 = hm s task s.ms.length ++ hl s task j ∧ l6 ≤ 64 + 2 * j ∧ Chg none_ w w6, fun _ _ _ x2 _ => s.ls.length - x2.toNat, ⟨0, acc, rfl, Nat.zero_le _, A1, by rw [hacc]; simp [hl], by omega, k1⟩, ?_⟩
    rintro q6 l6 c6 x2 w6 ⟨j, acc2, rfl, hj, A6, hacc2, hl6, k6⟩
    have h6 := h.chgN k6
    refine bc (fun hlt => ?_) (fun hge => ?_)
    · have hj' : j < s.ls.length := by simpa using hlt
      obtain ⟨lx, hlx⟩ := get_ex hj'
      obtain ⟨a, hr, hd, ha, hhx, Qe, Re, c0, c1, c2⟩ := h6.lrow_at hlx
      obtain ⟨a', hx', ha', hhx', hrd⟩ := h6.lk.re.ex (i := j) hj'
      rw [ha] at ha'; cases ha'
      rw [hhx] at hhx'; cases hhx'
      rw [ha]
      have hrl : lx.readers.length = hr.2.1 := Re.len
      have hrq := h6.rlen hlx
      rw [wrapS (x := (j : Int) + 1) (by omega) (by omega)]
      refine onPtr_mk ⟨by omega, by omega, _, _, _, _, _, _, _, hrd, boxed rfl rfl fun w8 B8 k8 s8 => ?_⟩
      have k08 := k6.trans k8
      have A8 := A6.chgN k8
      have e : hli s task j = (if idxI lx.readers task ≥ 0 then [(task, 3, (j : Int))] else []) ++ (if lx.writer = task then [(task, 5, (j : Int))] else []) := by unfold hli; rw [hlx]
      refine ⟨fun q9 l9 c9 w9 => SE En.w3 w9 w.heap.size 47 q9 l9 c9 (acc2 ++ (if idxI lx.readers task ≥ 0 then [(task, 3, (j : Int))] else [])) ∧ l9 ≤ l6 + 1 ∧ Chg none_ w w9 ∧ w9.cell? ((⟨w6.heap.size, 0, none⟩ : Addr).add 1) = some (.int .i64 lx.writer), ?_, _, _, _, (B8.cell 0).trans rfl, ?_⟩
      · rintro q9 l9 c9 w9 ⟨A9, hl9, k9, hc9⟩
        refine ⟨_, hc9, bc (fun he => ?_) (fun he => ?_)⟩
        · have he : lx.writer = task := by simpa using he
          refine push44 A9 k9 (task, 5, (j : Int)) (by omega) rfl fun q' c' w5 A5 k5 _ => ⟨⟨j + 1, _, rfl, hj', A5, by rw [hl_succ, e, hacc2, if_pos he]; simp, by omega, k5⟩, meas hj'⟩
        · have he : ¬ lx.writer = task := by simpa using he
          exact ⟨⟨j + 1, _, rfl, hj', A9, by rw [hl_succ, e, hacc2, if_neg he]; simp, by omega, k9⟩, meas hj'⟩
      · have Re8 := Re.chgN k8
        refine Calls.mono (f55.calls _ _ _ _ (w := w8) (R := fun v w' => v = .bool (decide (idxI lx.readers task ≥ 0)) ∧ w8 = w') ?_) ?_
        · unfold f55.wp
          refine Calls.use (index86 Re8.re task (by omega)) ?_
          rintro _ _ ⟨rfl, rfl⟩
          exact ⟨_, rfl, rfl, rfl⟩
        · rintro e' w10 ⟨_, rfl, rfl, rfl⟩
          refine ⟨_, rfl, bc (fun he => ?_) (fun he => ?_)⟩
          · have he : idxI lx.readers task ≥ 0 := of_decide_eq_true he
            rw [if_pos he]
            refine push44 A8 k08 (task, 3, (j : Int)) (by omega) rfl fun q' c' w5 A5 k5 hB => ⟨A5, by omega, k5, ((hB _ _ _ B8 (by decide)).cell0 1).trans rfl⟩
          · have he : ¬ idxI lx.readers task ≥ 0 := of_decide_eq_false he
            rw [if_neg he, List.append_nil]
            exact ⟨A8, by omega, k08, (B8.cell0 1).trans rfl⟩
    · have hge : j = s.ls.length := by simp at hge; omega
      subst hge
      exact ⟨_, _, _, rfl, by rw [← hacc2]; exact A6, by omega, k6⟩
end
end Full
end Go.Proofs.Ytibpbbjlecohiaa
set_option maxRecDepth 20000
namespace Go.Proofs.Ytibpbbjlecohiaa
namespace Full
open Go Go.Vc Go.RowKit
/-! # who writes, writes alone -/
def LkOk (l : Lk) : Prop := 0 ≤ l.writer → l.readers = []
def WF (s : S8) : Prop := ∀ l ∈ s.ls, LkOk l
theorem WF.same {s s' : S8} (h : WF s) (e : s'.ls = s.ls) : WF s' := by unfold WF; rw [e]; exact h
theorem WF.set {s s' : S8} (h : WF s) {i : Nat} {l : Lk} (e : s'.ls = s.ls.set i l) (hl : LkOk l) : WF s' := by
  unfold WF
  rw [e]
  intro x hx
  rcases List.mem_or_eq_of_mem_set hx with hx | rfl
  · exact h x hx
  · exact hl
theorem give_ok {l l' : Lk} {x : Wt} (hm : mayF l x.write = true) (hr : l'.readers = l.readers) (hw : l'.writer = l.writer) : LkOk (giveF l' x) := by
  simp only [mayF, Bool.and_eq_true, Bool.or_eq_true, decide_eq_true_eq, beq_iff_eq, Bool.not_eq_true'] at hm
  unfold giveF
  split
  · rename_i hx
    intro _
    show l'.readers = []
    rw [hr]
    rcases hm.2 with h | h
    · rw [hx] at h; cases h
    · exact List.eq_nil_of_length_eq_zero h
  · intro h
    have h : 0 ≤ l'.writer := h
    rw [hw] at h
    omega
theorem passG_ok : ∀ (q : List Wt) (rs : List Int) (wr : Int), LkOk ⟨rs, wr, q⟩ → LkOk (passG rs wr q).2
  | [], rs, wr, h => h
  | x :: xs, rs, wr, h => by
    unfold passG
    split
    · rename_i hm
      have hg : LkOk (giveF ⟨rs, wr, xs⟩ x) := give_ok (l := ⟨rs, wr, x :: xs⟩) hm rfl rfl
      exact passG_ok xs _ _ hg
    · exact h
theorem passL_ok {l : Lk} (h : LkOk l) : LkOk (passL l).2 := passG_ok l.queue l.readers l.writer h
theorem lock_ls (s : S8) (task n : Int) : (lockF s task n).2.2.ls = s.ls ∧ (lockF s task n).2.2.ms.length = s.ms.length := by
  unfold lockF
  split
  · exact ⟨rfl, rfl⟩
  · split
    · exact ⟨rfl, rfl⟩
    · split
      · exact ⟨rfl, rfl⟩
      · split <;> simp
theorem unlock_ls (s : S8) (task n : Int) : (unlockF s task n).2.2.ls = s.ls ∧ (unlockF s task n).2.2.ms.length = s.ms.length := by
  unfold unlockF
  split
  · exact ⟨rfl, rfl⟩
  · split
    · exact ⟨rfl, rfl⟩
    · split
      · exact ⟨rfl, rfl⟩
      · rename_i m _ _
        exact ⟨(handF_cs s n.toNat m).2.2.1, (handF_cs s n.toNat m).2.1⟩
theorem wait_ls (s : S8) (task n m : Int) : (waitF s task n m).2.2.ls = s.ls ∧ (waitF s task n m).2.2.ms.length = s.ms.length := by
  unfold waitF
  split
  · exact ⟨rfl, rfl⟩
  · split
    · rename_i mx xs _ _
      split
      · exact ⟨rfl, rfl⟩
      · exact ⟨(handF_cs s m.toNat mx).2.2.1, (handF_cs s m.toNat mx).2.1⟩
    · exact ⟨rfl, rfl⟩
theorem let_ls (s : S8) (i : Nat) : (letS s i).2.ls = s.ls ∧ (letS s i).2.ms.length = s.ms.length := by
  unfold letS
  split
  · split
    · unfold letF; split <;> simp
    · exact ⟨rfl, rfl⟩
  · exact ⟨rfl, rfl⟩
theorem letN_ls : ∀ (k : Nat) (s : S8) (i : Nat), (letN k s i).2.ls = s.ls ∧ (letN k s i).2.ms.length = s.ms.length
  | 0, s, i => ⟨rfl, rfl⟩
  | k + 1, s, i => by
    obtain ⟨a, b⟩ := letN_ls k (letS s i).2 i
    obtain ⟨c, d⟩ := let_ls s i
    exact ⟨a.trans c, b.trans d⟩
theorem take_wf {s : S8} (h : WF s) (task n kind : Int) : WF (takeF s task n kind).2.2 ∧ (takeF s task n kind).2.2.ls.length = s.ls.length ∧ (takeF s task n kind).2.2.ms = s.ms := by
  unfold takeF
  split
  · exact ⟨h, rfl, rfl⟩
  · split
    · exact ⟨h, rfl, rfl⟩
    · rename_i m hm
      split
      · exact ⟨h, rfl, rfl⟩
      · split
        · rename_i hq
          exact ⟨h.set rfl (give_ok (x := ⟨task, kind == 5, 0⟩) hq.2 rfl rfl), by simp, rfl⟩
        · have hk := h m (List.mem_of_getElem? hm)
          exact ⟨h.set (s' := { s with ls := s.ls.set n.toNat ⟨m.readers, m.writer, m.queue ++ [⟨task, kind == 5, 0⟩]⟩, wt := updF s.wt task (some (task, kind, n)) }) rfl hk, by simp, rfl⟩
theorem run_wf {s : S8} (h : WF s) (task n : Int) : WF (runF s task n).2.2 ∧ (runF s task n).2.2.ls.length = s.ls.length ∧ (runF s task n).2.2.ms = s.ms := by
  unfold runF
  split
  · exact ⟨h, rfl, rfl⟩
  · split
    · exact ⟨h, rfl, rfl⟩
    · rename_i m hm
      split
      · exact ⟨h, rfl, rfl⟩
      · have hk := h m (List.mem_of_getElem? hm)
        refine ⟨h.set rfl (passL_ok fun hw => ?_), by simp [passS], rfl⟩
        have : m.readers = [] := hk hw
        show m.readers.take _ ++ m.readers.drop _ = []
        rw [this]; simp
theorem wun_wf {s : S8} (h : WF s) (task n : Int) : WF (wunF s task n).2.2 ∧ (wunF s task n).2.2.ls.length = s.ls.length ∧ (wunF s task n).2.2.ms = s.ms := by
  unfold wunF
  split
  · exact ⟨h, rfl, rfl⟩
  · split
    · exact ⟨h, rfl, rfl⟩
    · rename_i m hm
      split
      · exact ⟨h, rfl, rfl⟩
      · refine ⟨h.set rfl (passL_ok fun hw => ?_), by simp [passS], rfl⟩
        have hw : (0 : Int) ≤ -1 := hw
        omega
theorem does_wf {s : S8} (h : WF s) (task kind n m : Int) : WF (doesF s task kind n m).2 ∧ (doesF s task kind n m).2.ls.length = s.ls.length ∧ (doesF s task kind n m).2.ms.length = s.ms.length := by
  have f : ∀ {s' : S8}, s'.ls = s.ls ∧ s'.ms.length = s.ms.length → WF s' ∧ s'.ls.length = s.ls.length ∧ s'.ms.length = s.ms.length := fun e => ⟨h.same e.1, by rw [e.1], e.2⟩
  have f2 : ∀ {s' : S8}, WF s' ∧ s'.ls.length = s.ls.length ∧ s'.ms = s.ms → WF s' ∧ s'.ls.length = s.ls.length ∧ s'.ms.length = s.ms.length := fun e => ⟨e.1, e.2.1, by rw [e.2.2]⟩
  have hsig : (sigF s task n).2.2.ls = s.ls ∧ (sigF s task n).2.2.ms.length = s.ms.length := by
    unfold sigF; split
    · exact ⟨rfl, rfl⟩
    · exact let_ls s n.toNat
  have hbro : (broF s task n).2.2.ls = s.ls ∧ (broF s task n).2.2.ms.length = s.ms.length := by
    unfold broF; split
    · exact ⟨rfl, rfl⟩
    · exact letN_ls _ s n.toNat
  have hadd : (addF s task n m).2.2.ls = s.ls ∧ (addF s task n m).2.2.ms.length = s.ms.length := by
    unfold addF; split
    · exact ⟨rfl, rfl⟩
    · split <;> exact ⟨rfl, rfl⟩
  unfold doesF
  split
  · exact f (lock_ls s task n)
  split
  · exact f (unlock_ls s task n)
  split
  · exact f2 (take_wf h task n 3)
  split
  · exact f2 (run_wf h task n)
  split
  · exact f2 (take_wf h task n 5)
  split
  · exact f2 (wun_wf h task n)
  split
  · exact f (wait_ls s task n m)
  split
  · exact f hsig
  split
  · exact f hbro
  split
  · exact f hadd
  · exact f ⟨rfl, rfl⟩
end Full
end Go.Proofs.Ytibpbbjlecohiaa
set_option maxRecDepth 20000
namespace Go.Proofs.Ytibpbbjlecohiaa
namespace Full
open Go Go.Vc Go.RowKit
/-- these two may stand in one telling of all that is held -/
def Rk (b a : W3) : Prop := ¬ (a.2.2 = b.2.2 ∧ ((a.2.1 = 1 ∧ b.2.1 = 1) ∨ (a.2.1 ≠ 1 ∧ b.2.1 ≠ 1 ∧ (a.2.1 = 5 ∨ b.2.1 = 5))))
theorem mem_hmi {s : S8} {t : Int} {j : Nat} {x : W3} (h : x ∈ hmi s t j) : ∃ m, s.ms[j]? = some m ∧ m.owner = t ∧ x = (t, 1, (j : Int)) := by
  unfold hmi at h
  split at h
  · rename_i m hm
    split at h
    · rename_i ho
      simp at h
      exact ⟨m, hm, ho, h⟩
    · cases h
  · cases h
theorem mem_hli {s : S8} {t : Int} {j : Nat} {x : W3} (h : x ∈ hli s t j) : ∃ l, s.ls[j]? = some l ∧ (idxI l.readers t ≥ 0 ∧ x = (t, 3, (j : Int)) ∨ l.writer = t ∧ x = (t, 5, (j : Int))) := by
  unfold hli at h
  split at h
  · rename_i m hm
    refine ⟨m, hm, ?_⟩
    rcases List.mem_append.1 h with h | h
    · split at h
      · rename_i ho; simp at h; exact .inl ⟨ho, h⟩
      · cases h
    · split at h
      · rename_i ho; simp at h; exact .inr ⟨ho, h⟩
      · cases h
  · cases h
theorem mem_hm {s : S8} {t : Int} {k : Nat} {x : W3} (h : x ∈ hm s t k) : ∃ (j : Nat) (m : Mx), s.ms[j]? = some m ∧ m.owner = t ∧ x = (t, 1, (j : Int)) := by
  simp only [hm, List.mem_flatMap] at h
  obtain ⟨j, _, h⟩ := h
  exact ⟨j, mem_hmi h⟩
theorem mem_hl {s : S8} {t : Int} {k : Nat} {x : W3} (h : x ∈ hl s t k) : ∃ (j : Nat) (l : Lk), s.ls[j]? = some l ∧ (idxI l.readers t ≥ 0 ∧ x = (t, 3, (j : Int)) ∨ l.writer = t ∧ x = (t, 5, (j : Int))) := by
  simp only [hl, List.mem_flatMap] at h
  obtain ⟨j, _, h⟩ := h
  exact ⟨j, mem_hli h⟩
theorem nat_of {j k : Nat} (h : (j : Int) = (k : Int)) : j = k := by omega
/-- a writer of a lock holds it alone -/
theorem wr_alone {s : S8} (h : WF s) {j : Nat} {l : Lk} (hl : s.ls[j]? = some l) {t u : Int} (ht : 0 ≤ t) (hw : l.writer = t) (hr : idxI l.readers u ≥ 0) : False := by
  have : l.readers = [] := h l (List.mem_of_getElem? hl) (by omega)
  have h2 := (idxI_lt l.readers u).1
  rw [this] at h2 hr
  simp at h2; omega
theorem hl_pair {s : S8} (h : WF s) {t u : Int} (ht : 0 ≤ t) (hu : 0 ≤ u) {x y : W3} {k : Nat} (hx : x ∈ hl s t k) (hy : y ∈ hl s u k) (hne : t ≠ u ∨ x.2.2 ≠ y.2.2 ∨ x.2.1 ≠ y.2.1) : Rk x y := by
  obtain ⟨j, l, hj, hx⟩ := mem_hl hx
  obtain ⟨j', l', hj', hy⟩ := mem_hl hy
  rintro ⟨he, hk⟩
  rcases hx with ⟨h1, rfl⟩ | ⟨h1, rfl⟩ <;> rcases hy with ⟨h2, rfl⟩ | ⟨h2, rfl⟩ <;> simp only at he hk hne
  · omega
  · have e := nat_of he
    subst e
    rw [hj] at hj'; cases hj'
    exact wr_alone h hj hu h2 h1
  · have e := nat_of he
    subst e
    rw [hj] at hj'; cases hj'
    exact wr_alone h hj ht h1 h2
  · have e := nat_of he
    subst e
    rw [hj] at hj'; cases hj'
    omega
theorem holds_pair {s : S8} (h : WF s) {t u : Int} (ht : 0 ≤ t) (hu : 0 ≤ u) (hne : t ≠ u) {x y : W3} (hx : x ∈ holdsF s t) (hy : y ∈ holdsF s u) : Rk x y := by
  rw [holdsF, if_neg (by omega)] at hx hy
  rcases List.mem_append.1 hx with hx | hx <;> rcases List.mem_append.1 hy with hy | hy
  · obtain ⟨j, m, hj, ho, rfl⟩ := mem_hm hx
    obtain ⟨j', m', hj', ho', rfl⟩ := mem_hm hy
    rintro ⟨he, _⟩
    have e := nat_of he
    subst e
    rw [hj] at hj'; cases hj'
    omega
  · obtain ⟨j, m, hj, ho, rfl⟩ := mem_hm hx
    obtain ⟨j', l, _, hy⟩ := mem_hl hy
    rintro ⟨_, hk⟩
    rcases hy with ⟨_, rfl⟩ | ⟨_, rfl⟩ <;> simp at hk
  · obtain ⟨j, m, hj, ho, rfl⟩ := mem_hm hy
    obtain ⟨j', l, _, hx⟩ := mem_hl hx
    rintro ⟨_, hk⟩
    rcases hx with ⟨_, rfl⟩ | ⟨_, rfl⟩ <;> simp at hk
  · exact hl_pair h ht hu hx hy (.inl hne)
theorem holds_self {s : S8} (h : WF s) {t : Int} (ht : 0 ≤ t) : (holdsF s t).Pairwise Rk := by
  rw [holdsF, if_neg (by omega), List.pairwise_append]
  refine ⟨?_, ?_, fun x hx y hy => ?_⟩
  · rw [hm, List.pairwise_flatMap]
    refine ⟨fun j _ => ?_, List.pairwise_lt_range.imp fun {j k} hjk x hx y hy => ?_⟩
    · unfold hmi
      split
      · split <;> simp
      · simp
    · obtain ⟨_, _, _, rfl⟩ := mem_hmi hx
      obtain ⟨_, _, _, rfl⟩ := mem_hmi hy
      rintro ⟨he, _⟩
      have := nat_of he
      omega
  · rw [hl, List.pairwise_flatMap]
    refine ⟨fun j _ => ?_, List.pairwise_lt_range.imp fun {j k} hjk x hx y hy => ?_⟩
    · unfold hli
      split
      · rename_i l hl
        rw [List.pairwise_append]
        refine ⟨by split <;> simp, by split <;> simp, fun x hx y hy => ?_⟩
        split at hx
        · split at hy
          · rename_i h1 h2
            exact (wr_alone h hl ht h2 h1).elim
          · cases hy
        · cases hx
      · simp
    · obtain ⟨_, _, hx⟩ := mem_hli hx
      obtain ⟨_, _, hy⟩ := mem_hli hy
      rintro ⟨he, _⟩
      rcases hx with ⟨_, rfl⟩ | ⟨_, rfl⟩ <;> rcases hy with ⟨_, rfl⟩ | ⟨_, rfl⟩ <;> (have := nat_of he; omega)
  · obtain ⟨j, m, hj, ho, rfl⟩ := mem_hm hx
    obtain ⟨j', l, _, hy⟩ := mem_hl hy
    rintro ⟨_, hk⟩
    rcases hy with ⟨_, rfl⟩ | ⟨_, rfl⟩ <;> simp at hk
/-- all that is held, of the tasks below k -/
def allH (s : S8) (k : Nat) : List W3 := (List.range k).flatMap fun (t : Nat) => holdsF s (t : Int)
theorem allH_succ (s : S8) (k : Nat) : allH s (k + 1) = allH s k ++ holdsF s (k : Int) := by simp [allH, List.range_succ]
theorem allH_pair {s : S8} (h : WF s) (k : Nat) : (allH s k).Pairwise Rk := by
  rw [allH, List.pairwise_flatMap]
  exact ⟨fun t _ => holds_self h (by omega), List.pairwise_lt_range.imp fun {t u} htu x hx y hy => holds_pair h (by omega) (by omega) (by omega) hx hy⟩
end Full
end Go.Proofs.Ytibpbbjlecohiaa
set_option maxRecDepth 20000
namespace Go.Proofs.Ytibpbbjlecohiaa
namespace Full
open Go Go.Vc Go.RowKit
theorem pair_at {l : List W3} (h : l.Pairwise Rk) {i j : Nat} {x y : W3} (hij : i < j) (hx : l[i]? = some x) (hy : l[j]? = some y) : Rk x y := by
  have hi := get_lt hx
  have hj := get_lt hy
  have := List.pairwise_iff_getElem.1 h i j hi hj hij
  rw [List.getElem?_eq_getElem hi] at hx
  rw [List.getElem?_eq_getElem hj] at hy
  cases hx; cases hy
  exact this
theorem alone5 {w : World} {q : Option Addr} {l c : Nat} {ops : List OpV} (a1 a2 a3 a4 : Int) (h : RE En.op w q l ops) (hl : l ≤ 4398046511104) :
    Calls Try.prog 5 #[.agg #[.int .i64 a1, .int .i64 a2, .int .i64 a3, .int .i64 a4, .slice q l c]] w (Ret fun v w' => v = .bool true ∧ Chg none_ w w') := by
  refine f5.calls _ _ _ _ _ _ _ ?_
  unfold f5.wp
  have hlen := h.len
  refine newBox fun w1 B1 k1 _ => ⟨_, _, _, _, (B1.reads (o := 0) (vs := [.int .i64 a1, .int .i64 a2, .int .i64 a3, .int .i64 a4]) fun j v hj => ?_), Calls.use (new17 w1 a1 a2 a3 a4) ?_⟩
  · rcases j with _ | _ | _ | _ | j
    · exact hj
    · exact hj
    · exact hj
    · exact hj
    · simp at hj
  rintro _ w2 (⟨_, rfl, k2⟩ | ⟨hok, o, g0, rfl, I2, k2⟩)
  · refine ⟨_, _, rfl, Calls.use (awake16 w2) ?_⟩
    rintro _ w3 ⟨rfl, k3⟩
    exact ⟨_, rfl, bcF rfl ⟨fun _ _ h => (by cases h), bcF rfl (bcT rfl ⟨rfl, k1.trans (k2.trans k3)⟩)⟩⟩
  refine ⟨_, _, rfl, Calls.use (awake16 w2) ?_⟩
  rintro _ w3 ⟨rfl, k3⟩
  have I3 := I2.chgN k3
  have k13 := k2.trans k3
  have B3 := k13.blk B1 (fun x => x)
  have m64 : (new8 a1.toNat a2.toNat a3.toNat a4.toNat).ms.length ≤ 64 := by simp only [new8, free, List.length_replicate]; have := hok.1.2; have := hok.1.1; omega
  have l64 : (new8 a1.toNat a2.toNat a3.toNat a4.toNat).ls.length ≤ 64 := by simp only [new8, List.length_replicate]; have := hok.2.1.2; have := hok.2.1.1; omega
  have wf0 : WF (new8 a1.toNat a2.toNat a3.toNat a4.toNat) := fun x hx => by
    have hx : x ∈ List.replicate a2.toNat (⟨[], -1, []⟩ : Lk) := hx
    rw [List.eq_of_mem_replicate hx]
    intro _; rfl
  have hb01 : w.heap.size ≤ w1.heap.size := k1.size
  refine ⟨_, rfl, bcF rfl ⟨ptrOk_none _ _, bcF rfl (bcF rfl ⟨_, _, _, (B3.cell0 4).trans rfl, fun x w' => ∃ (i : Nat) (g : G8) (s : S8), x = i ∧ i ≤ l ∧ InvG w' w1.heap.size (2 * i) i o g s ∧ WF s ∧ s.ms.length ≤ 64 ∧ s.ls.length ≤ 64 ∧ Chg none_ w w', fun x _ => l - x.toNat, ⟨0, g0, _, rfl, Nat.zero_le _, I3, wf0, m64, l64, k1.trans k13⟩, ?_⟩)⟩⟩
  rintro x w4 ⟨i, g, s, rfl, hi, I4, wf4, m4, l4, k04⟩
  refine bc (fun hlt => ?_) (fun hge => ⟨rfl, k04⟩)
  have hi' : i < l := by simpa using hlt
  obtain ⟨a, op, rfl, hop, hr⟩ := (h.chg k04).ex hi'
  rw [wrapS (x := (i : Int) + 1) (by omega) (by omega)]
  refine onPtr_mk ⟨by omega, by omega, _, _, _, _, hr, boxed rfl rfl fun w6 B6 k6 s6 => ⟨_, _, _, _, B6.reads0, Calls.use (does20 (I4.chgN k6) (by omega) (by omega) op.task op.kind op.n op.m) ?_⟩⟩
  rintro _ w7 ⟨qd, ld, cd, rfl, hW⟩
  obtain ⟨_, _, g7, I7, st7, _⟩ := hW
  obtain ⟨wf7, ll7, ml7⟩ := does_wf wf4 op.task op.kind op.n op.m
  generalize (doesF s op.task op.kind op.n op.m).2 = s7 at *
  have k07 : Chg none_ w w7 := st7.up (k04.trans k6) (I4.chgN k6) hb01
  refine ⟨_, _, _, _, _, _, rfl, fun q3 l3 c3 x2 w8 => ∃ k : Nat, x2 = k ∧ k ≤ 16 ∧ SE En.w3 w8 w7.heap.size 47 q3 l3 c3 (allH s7 k) ∧ l3 ≤ 200 * k ∧ Chg none_ w7 w8, fun _ _ _ x2 _ => 16 - x2.toNat, ⟨0, rfl, by decide, SE.nil _ _ _ _, by decide, Chg.refl _ _⟩, ?_⟩
  rintro q3 l3 c3 x2 w8 ⟨k, rfl, hk, A8, hl3, k78⟩
  refine bc (fun hlt2 => ?_) (fun hge2 => ?_)
  · have hk' : k < 16 := by have := of_decide_eq_true hlt2; omega
    rw [wrapS (x := (k : Int) + 1) (by omega) (by omega)]
    refine Calls.use (holds21 (I7.chgN k78) (by omega) (by omega) (by omega) (k : Int)) ?_
    rintro _ w9 ⟨q4, l4', c4, rfl, A9, hl4, k9⟩
    obtain ⟨q5, c5, w10, hrun, A10, k10, _, _, _, _⟩ := (A8.chgN k9).append (t := 44) (ty := 44) (c2 := c4) elemW3 A9.re (by simp only [maxLen]; omega) (by show (l3 + l4') * 24 ≤ _; omega) (k78.trans k9).size
    refine ⟨_, _, _, rfl, _, _, _, w10, hrun, ⟨k + 1, rfl, hk', by rw [allH_succ]; exact A10, by omega, (k78.trans k9).up k10 fun b hb => ((A8.chgN k9).lt hb.symm).2⟩, ?_⟩
    show 16 - ((k : Int) + 1).toNat < 16 - (k : Int).toNat
    omega
  · have hk16 : k = 16 := by have := of_decide_eq_false hge2; omega
    subst hk16
    have hp := allH_pair wf7 16
    have hAl := A8.len
    have hAle := A8.le
    refine ⟨fun x3 w11 => ∃ j : Nat, x3 = j ∧ j ≤ l3 ∧ Chg none_ w8 w11, fun x3 _ => l3 - x3.toNat, ⟨0, rfl, Nat.zero_le _, Chg.refl _ _⟩, ?_⟩
    rintro x3 w11 ⟨j, rfl, hj, k11⟩
    refine bc (fun hlt3 => ?_) (fun hge3 => ?_)
    · have hj' : j < l3 := by simpa using hlt3
      rw [wrapS (x := (j : Int) + 1) (by omega) (by omega)]
      obtain ⟨b, y, rfl, hy, hry⟩ := (A8.chgN k11).re.ex (i := j) hj'
      refine onPtr_mk ⟨by omega, by omega, _, _, _, hry, boxed rfl rfl fun w13 B13 k13' s13 => ⟨by omega, by omega, ?_⟩⟩
      rw [Int.toNat_natCast]
      refine ⟨fun x4 w14 => ∃ e : Nat, x4 = e ∧ e ≤ j ∧ Chg none_ w13 w14, fun x4 _ => j - x4.toNat, ⟨0, rfl, Nat.zero_le _, Chg.refl _ _⟩, ?_⟩
      rintro x4 w14 ⟨e, rfl, he, k14⟩
      refine bc (fun hlt4 => ?_) (fun hge4 => ⟨⟨j + 1, rfl, hj', k11.trans (k13'.trans k14)⟩, meas hj'⟩)
      have he' : e < j := by simpa using hlt4
      rw [wrapS (x := (e : Int) + 1) (by omega) (by omega)]
      obtain ⟨b', z, hb', hz, hrz⟩ := (A8.chgN (k11.trans (k13'.trans k14))).re.ex (i := e) (by omega)
      cases hb'
      refine onPtr_mk ⟨by omega, by omega, _, _, _, hrz, boxed rfl rfl fun w16 B16 k16 s16 => ?_⟩
      have BY := (k14.trans k16).blk B13 (fun x => x)
      have hR : Rk z y := pair_at hp he' hz hy
      refine ⟨fun x5 w17 => w16 = w17 ∧ (x5 = true → y.2.1 = 1 ∧ z.2.1 = 1), ?_, _, (BY.cell0 1).trans rfl, bc (fun h1 => ⟨_, (B16.cell0 1).trans rfl, rfl, fun h2 => ⟨by simpa using h1, by simpa using h2⟩⟩) (fun h1 => ⟨rfl, fun h2 => (by cases h2)⟩)⟩
      rintro x5 _ ⟨rfl, hx5⟩
      refine ⟨fun x6 w18 => w16 = w18 ∧ (x6 = true → y.2.1 ≠ 1 ∧ z.2.1 ≠ 1 ∧ (y.2.1 = 5 ∨ z.2.1 = 5)), ?_, _, (BY.cell0 1).trans rfl, bc (fun h1 => ⟨_, (B16.cell0 1).trans rfl, bc (fun h2 => ⟨_, (BY.cell0 1).trans rfl, bc (fun h3 => ⟨rfl, fun _ => ⟨by simpa using h1, by simpa using h2, .inl (by simpa using h3)⟩⟩) (fun h3 => ⟨_, (B16.cell0 1).trans rfl, rfl, fun h4 => ⟨by simpa using h1, by simpa using h2, .inr (by simpa using h4)⟩⟩)⟩) (fun h2 => ⟨rfl, fun h => (by cases h)⟩)⟩) (fun h1 => ⟨rfl, fun h => (by cases h)⟩)⟩
      rintro x6 _ ⟨rfl, hx6⟩
      have nxt : (∃ e' : Nat, ((e : Int) + 1) = e' ∧ e' ≤ j ∧ Chg none_ w13 w16) ∧ j - ((e : Int) + 1).toNat < j - ((e : Int)).toNat := ⟨⟨e + 1, rfl, he', k14.trans k16⟩, meas he'⟩
      refine ⟨_, (BY.cell0 2).trans rfl, _, (B16.cell0 2).trans rfl, bc (fun hn => ?_) (fun _ => nxt)⟩
      have hn : y.2.2 = z.2.2 := by simpa using hn
      exact bc (fun h5 => (hR ⟨hn, .inl (hx5 h5)⟩).elim) (fun _ => bc (fun h6 => (hR ⟨hn, .inr (hx6 h6)⟩).elim) (fun _ => nxt))
    · refine ⟨⟨i + 1, g7, s7, rfl, hi', ?_, wf7, by omega, by omega, k07.trans (k78.trans k11)⟩, meas hi'⟩
      exact (I7.chgN (k78.trans k11)).up (by omega) (Nat.le_refl _)
end Full
end Go.Proofs.Ytibpbbjlecohiaa
