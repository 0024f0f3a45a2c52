import Derived.Test.YtibpbbjlecohiaaLbO
set_option maxRecDepth 20000
namespace Go.Proofs.Ytibpbbjlecohiaa
namespace Full
open Go Go.Vc Go.RowKit
structure Told where
  got : Bool
  woken : List Int
  n : Int
  err : Int
/-- a call of a task, by its kind -/
def doesF (s : S8) (task kind n m : Int) : Told × S8 :=
  if kind = 1 then (⟨(lockF s task n).1, [], 0, (lockF s task n).2.1⟩, (lockF s task n).2.2)
  else if kind = 2 then (⟨false, (unlockF s task n).1, 0, (unlockF s task n).2.1⟩, (unlockF s task n).2.2)
  else if kind = 3 then (⟨(takeF s task n 3).1, [], 0, (takeF s task n 3).2.1⟩, (takeF s task n 3).2.2)
  else if kind = 4 then (⟨false, (runF s task n).1, 0, (runF s task n).2.1⟩, (runF s task n).2.2)
  else if kind = 5 then (⟨(takeF s task n 5).1, [], 0, (takeF s task n 5).2.1⟩, (takeF s task n 5).2.2)
  else if kind = 6 then (⟨false, (wunF s task n).1, 0, (wunF s task n).2.1⟩, (wunF s task n).2.2)
  else if kind = 7 then (⟨false, (waitF s task n m).1, 0, (waitF s task n m).2.1⟩, (waitF s task n m).2.2)
  else if kind = 8 then (⟨false, (sigF s task n).1, 0, (sigF s task n).2.1⟩, (sigF s task n).2.2)
  else if kind = 9 then (⟨false, (broF s task n).1, 0, (broF s task n).2.1⟩, (broF s task n).2.2)
  else if kind = 10 then (⟨false, [], (addF s task n m).1, (addF s task n m).2.1⟩, (addF s task n m).2.2)
  else (⟨false, [], 0, 0⟩, s)
section
variable {w w' : World} {base N Q o : Nat} {g : G8} {s : S8}
theorem Woke.put {w w3 w4 w7 : World} {q : Option Addr} {l : Nat} {r : List Int} {s' : S8} (hW : Woke w3 w4 base N Q o g q l r s') {S : Nat → Prop} (k : Chg S w4 w7) (hS : ∀ b, S b → b < w3.heap.size ∧ ¬ Own g o b) (L : Stp o w g w3 g) (hlow : ∀ b, S b → w.heap.size ≤ b) : Woke w w7 base N Q o g q l r s' := by
  obtain ⟨h1, h2, g', I, st, hn⟩ := hW
  refine ⟨h1.chgS k fun a ha hs => ?_, fun b hb => ⟨Nat.le_trans L.chg.size (h2 b hb).1, Nat.lt_of_lt_of_le (h2 b hb).2 k.size⟩, g', I.chg k fun b hb => st.nown (hS b hb).1 (hS b hb).2, ⟨(L.trans st).chg.trans' k fun b hb => .inr (hlow b hb), (L.trans st).grow⟩, hn⟩
  have := (h2 a.block (by rw [ha]; rfl)).1
  have := (hS _ hs).1
  omega
theorem Woke.upN {N' : Nat} {q : Option Addr} {l : Nat} {r : List Int} {s' : S8} (h : Woke w w' base N Q o g q l r s') (hN : N ≤ N') : Woke w w' base N' Q o g q l r s' := by
  obtain ⟨h1, h2, g', I, st', hn⟩ := h
  exact ⟨h1, h2, g', I.up hN (Nat.le_refl _), st', hn⟩
/-- the end of each way: told's block written, copied, read -/
theorem told_end {w w3 w4 : World} {a b j : Nat} {q : Option Addr} {l c : Nat} {s' : S8} {t : Told} {v : Value} {C : Value → World → Prop} (hW : Woke w3 w4 base N Q o g q l t.woken s') (L : Stp o w g w3 g) (T3 : Blk w3 a 42 #[.bool false, .slice none 0 0, .int .i64 0, .int .i64 0]) (D3 : Blk w3 b 42 #[.bool false, .slice none 0 0, .int .i64 0, .int .i64 0]) (hab : a ≠ b) (na : ¬ Own g o a) (nb : ¬ Own g o b) (la : w.heap.size ≤ a) (lb : w.heap.size ≤ b)
    (T4 : Blk w4 a 42 #[.bool false, .slice none 0 0, .int .i64 0, .int .i64 0]) (D4 : Blk w4 b 42 #[.bool false, .slice none 0 0, .int .i64 0, .int .i64 0]) (hj : j < 3)
    (hres : putC (putC #[.bool false, .slice none 0 0, .int .i64 0, .int .i64 0] j [v]) 3 [.int .i64 t.err] = #[.bool t.got, .slice q l c, .int .i64 t.n, .int .i64 t.err])
    (hC : ∀ w7, Woke w w7 base N Q o g q l t.woken s' → C (.agg #[.bool t.got, .slice q l c, .int .i64 t.n, .int .i64 t.err]) w7) :
    canStore w4 ⟨a, j, none⟩ 1 ∧ ∀ w5 : World, w5 = setCells (⟨a, j, none⟩ : Addr) 0 [v] w4 → canStore w5 ((⟨a, 0, none⟩ : Addr).add 3) 1 ∧ ∀ w6 : World, w6 = setCells ((⟨a, 0, none⟩ : Addr).add 3) 0 [.int .i64 t.err] w5 →
      ∃ b2 : Bool, ∃ (q1 : Option Addr) (l1 c1 : Nat), ∃ n5 : Int, ∃ n6 : Int, reads w6 (⟨a, 0, none⟩ : Addr) [.bool b2, .slice q1 l1 c1, .int .i64 n5, .int .i64 n6] ∧ canStore w6 (⟨b, 0, none⟩ : Addr) 4 ∧
      ∀ w7 : World, w7 = setCells (⟨b, 0, none⟩ : Addr) 0 [.bool b2, .slice q1 l1 c1, .int .i64 n5, .int .i64 n6] w6 →
      ∃ b3 : Bool, ∃ (q2 : Option Addr) (l2 c2 : Nat), ∃ n7 : Int, ∃ n8 : Int, reads w7 (⟨b, 0, none⟩ : Addr) [.bool b3, .slice q2 l2 c2, .int .i64 n7, .int .i64 n8] ∧ C (.agg #[.bool b3, .slice q2 l2 c2, .int .i64 n7, .int .i64 n8]) w7 := by
  refine ⟨T4.canStore (by show j + 1 ≤ 4; omega), fun w5 e5 => ?_⟩
  have T5 := T4.sets' e5
  have k5 : Chg (fun k => k = a ∨ k = b) w4 w5 := (Chg.refl _ w4).sets' e5 (.inl (.inl rfl))
  have D5 := D4.far' e5 (fun e => hab e.symm)
  have hsz : (putC #[Value.bool false, .slice none 0 0, .int .i64 0, .int .i64 0] (j + 0) [v]).size = 4 := by
    rcases j with _ | _ | _ | j <;> first | rfl | omega
  refine ⟨T5.canStore0 (by rw [hsz]; decide), fun w6 e6 => ?_⟩
  rw [add_mk, Nat.zero_add] at e6
  have T6 := T5.sets' e6
  have k6 : Chg (fun k => k = a ∨ k = b) w5 w6 := (Chg.refl _ w5).sets' e6 (.inl (.inl rfl))
  have D6 := D5.far' e6 (fun e => hab e.symm)
  rw [show putC (putC #[Value.bool false, .slice none 0 0, .int .i64 0, .int .i64 0] (j + 0) [v]) (3 + 0) [.int .i64 t.err] = #[.bool t.got, .slice q l c, .int .i64 t.n, .int .i64 t.err] from hres] at T6
  refine ⟨_, _, _, _, _, _, T6.reads0, D6.canStore (by show 0 + 4 ≤ 4; decide), fun w7 e7 => ?_⟩
  have D7 := D6.over e7 rfl
  have k7 : Chg (fun k => k = a ∨ k = b) w6 w7 := (Chg.refl _ w6).sets' e7 (.inl (.inr rfl))
  exact ⟨_, _, _, _, _, _, D7.reads0, hC w7 (hW.put (k5.trans (k6.trans k7)) (fun x hx => by
    rcases hx with rfl | rfl
    · exact ⟨T3.lt, na⟩
    · exact ⟨D3.lt, nb⟩) L (fun x hx => by
    rcases hx with rfl | rfl
    · exact la
    · exact lb))⟩
def DoneR (w : World) (base N Q o : Nat) (g : G8) (t : Told) (s' : S8) (v : Value) (w' : World) : Prop := ∃ q l c, v = .agg #[.bool t.got, .slice q l c, .int .i64 t.n, .int .i64 t.err] ∧ Woke w w' base N Q o g q l t.woken s'
theorem does20 (h : InvG w base N Q o g s) (hN : N ≤ 3000000000000000000) (hQ : Q ≤ 4398046511104) (task kind n m : Int) :
    Calls Try.prog 20 #[.pointer (some (ad o)), .agg #[.int .i64 task, .int .i64 kind, .int .i64 n, .int .i64 m]] w (Ret (DoneR w base (N + 2) (Q + 1) o g (doesF s task kind n m).1 (doesF s task kind n m).2)) := by
  refine f20.calls _ _ _ _ _ ?_
  unfold f20.wp
  refine newBox fun w1 B1 k1 s1 => newBox fun w2 D2 k2 s2 => newBox fun w3 T3 k3 s3 => ?_
  have k13 := k2.trans k3
  have k03 := k1.trans k13
  have h3 := h.chgN k03
  have B3 := k13.blk B1 (fun x => x)
  have D3 := k3.blk D2 (fun x => x)
  have L : Stp o w g w3 g := Stp.ofN k03
  have n1 : ¬ Own g o w1.heap.size := fun ho => by have := (h.own_lt ho).1; omega
  have n2 : ¬ Own g o w2.heap.size := fun ho => by have := (h.own_lt ho).1; omega
  have hab : w2.heap.size ≠ w1.heap.size := by omega
  refine ⟨_, (B3.cell0 1).trans rfl, ?_⟩
  refine bc (fun hk => ?_) (fun hk1 => ?_)
  · have hk : kind = 1 := by simpa using hk
    subst hk
    refine ⟨_, (B3.cell 0).trans rfl, _, (B3.cell0 2).trans rfl, Calls.use (lock18 h3 (by omega) hQ task n) ?_⟩
    rintro _ w4 ⟨rfl, g4, I4, st4⟩
    refine ⟨_, _, rfl, told_end (j := 0) (q := none) (l := 0) (c := 0) (t := ⟨(lockF s task n).1, [], 0, (lockF s task n).2.1⟩) (s' := (lockF s task n).2.2) (Woke.nil (I4.up (by omega) (Nat.le_refl _)) st4) L T3 D3 hab n2 n1 (by omega) (by omega) (st4.blk T3 n2) (st4.blk D3 n1) (by decide) rfl fun w7 hW => ⟨none, 0, 0, rfl, hW⟩⟩
  refine bc (fun hk => ?_) (fun hk2 => ?_)
  · have hk : kind = 2 := by simpa using hk
    subst hk
    refine ⟨_, (B3.cell 0).trans rfl, _, (B3.cell0 2).trans rfl, Calls.use (unlock19 h3 task n) ?_⟩
    rintro _ w4 ⟨q, l, c, rfl, hW⟩
    have hW := (hW.upQ (Nat.le_succ Q)).upN (N' := N + 2) (by omega)
    have st4 := hW
    obtain ⟨_, _, g4, _, st4, _⟩ := st4
    refine ⟨_, _, _, _, rfl, ?_⟩
    have := told_end (j := 1) (v := .slice q l c) (c := c) (t := ⟨false, (unlockF s task n).1, 0, (unlockF s task n).2.1⟩) (C := DoneR w base (N + 2) (Q + 1) o g (⟨false, (unlockF s task n).1, 0, (unlockF s task n).2.1⟩) (unlockF s task n).2.2) hW L T3 D3 hab n2 n1 (by omega) (by omega) (st4.blk T3 n2) (st4.blk D3 n1) (by decide) rfl fun w7 hW => ⟨q, l, c, rfl, hW⟩
    rw [add_mk, Nat.zero_add]
    rw [add_mk, Nat.zero_add] at this
    exact this
  refine bc (fun hk => ?_) (fun hk3 => ?_)
  · have hk : kind = 3 := by simpa using hk
    subst hk
    refine ⟨_, (B3.cell 0).trans rfl, _, (B3.cell0 2).trans rfl, Calls.use (rlock47 h3 (by omega) hQ task n) ?_⟩
    rintro _ w4 ⟨rfl, g4, I4, st4⟩
    refine ⟨_, _, rfl, told_end (j := 0) (q := none) (l := 0) (c := 0) (t := ⟨(takeF s task n 3).1, [], 0, (takeF s task n 3).2.1⟩) (s' := (takeF s task n 3).2.2) (Woke.nil (I4.up (by omega) (Nat.le_refl _)) st4) L T3 D3 hab n2 n1 (by omega) (by omega) (st4.blk T3 n2) (st4.blk D3 n1) (by decide) rfl fun w7 hW => ⟨none, 0, 0, rfl, hW⟩⟩
  refine bc (fun hk => ?_) (fun hk4 => ?_)
  · have hk : kind = 4 := by simpa using hk
    subst hk
    refine ⟨_, (B3.cell 0).trans rfl, _, (B3.cell0 2).trans rfl, Calls.use (runlock48 h3 hQ task n) ?_⟩
    rintro _ w4 ⟨q, l, c, rfl, hW⟩
    have hW := (hW.upQ (Nat.le_succ Q)).upN (N' := N + 2) (by omega)
    have st4 := hW
    obtain ⟨_, _, g4, _, st4, _⟩ := st4
    refine ⟨_, _, _, _, rfl, ?_⟩
    have := told_end (j := 1) (v := .slice q l c) (c := c) (t := ⟨false, (runF s task n).1, 0, (runF s task n).2.1⟩) (C := DoneR w base (N + 2) (Q + 1) o g (⟨false, (runF s task n).1, 0, (runF s task n).2.1⟩) (runF s task n).2.2) hW L T3 D3 hab n2 n1 (by omega) (by omega) (st4.blk T3 n2) (st4.blk D3 n1) (by decide) rfl fun w7 hW => ⟨q, l, c, rfl, hW⟩
    rw [add_mk, Nat.zero_add]
    rw [add_mk, Nat.zero_add] at this
    exact this
  refine bc (fun hk => ?_) (fun hk5 => ?_)
  · have hk : kind = 5 := by simpa using hk
    subst hk
    refine ⟨_, (B3.cell 0).trans rfl, _, (B3.cell0 2).trans rfl, Calls.use (wlock49 h3 (by omega) hQ task n) ?_⟩
    rintro _ w4 ⟨rfl, g4, I4, st4⟩
    refine ⟨_, _, rfl, told_end (j := 0) (q := none) (l := 0) (c := 0) (t := ⟨(takeF s task n 5).1, [], 0, (takeF s task n 5).2.1⟩) (s' := (takeF s task n 5).2.2) (Woke.nil (I4.up (by omega) (Nat.le_refl _)) st4) L T3 D3 hab n2 n1 (by omega) (by omega) (st4.blk T3 n2) (st4.blk D3 n1) (by decide) rfl fun w7 hW => ⟨none, 0, 0, rfl, hW⟩⟩
  refine bc (fun hk => ?_) (fun hk6 => ?_)
  · have hk : kind = 6 := by simpa using hk
    subst hk
    refine ⟨_, (B3.cell 0).trans rfl, _, (B3.cell0 2).trans rfl, Calls.use (wunlock50 h3 hQ task n) ?_⟩
    rintro _ w4 ⟨q, l, c, rfl, hW⟩
    have hW := (hW.upQ (Nat.le_succ Q)).upN (N' := N + 2) (by omega)
    have st4 := hW
    obtain ⟨_, _, g4, _, st4, _⟩ := st4
    refine ⟨_, _, _, _, rfl, ?_⟩
    have := told_end (j := 1) (v := .slice q l c) (c := c) (t := ⟨false, (wunF s task n).1, 0, (wunF s task n).2.1⟩) (C := DoneR w base (N + 2) (Q + 1) o g (⟨false, (wunF s task n).1, 0, (wunF s task n).2.1⟩) (wunF s task n).2.2) hW L T3 D3 hab n2 n1 (by omega) (by omega) (st4.blk T3 n2) (st4.blk D3 n1) (by decide) rfl fun w7 hW => ⟨q, l, c, rfl, hW⟩
    rw [add_mk, Nat.zero_add]
    rw [add_mk, Nat.zero_add] at this
    exact this
  refine bc (fun hk => ?_) (fun hk7 => ?_)
  · have hk : kind = 7 := by simpa using hk
    subst hk
    refine ⟨_, (B3.cell 0).trans rfl, _, (B3.cell0 2).trans rfl, _, (B3.cell0 3).trans rfl, Calls.use (wait51 h3 hN hQ task n m) ?_⟩
    rintro _ w4 ⟨q, l, c, rfl, hW⟩
    have hW := hW
    have st4 := hW
    obtain ⟨_, _, g4, _, st4, _⟩ := st4
    refine ⟨_, _, _, _, rfl, ?_⟩
    have := told_end (j := 1) (v := .slice q l c) (c := c) (t := ⟨false, (waitF s task n m).1, 0, (waitF s task n m).2.1⟩) (C := DoneR w base (N + 2) (Q + 1) o g (⟨false, (waitF s task n m).1, 0, (waitF s task n m).2.1⟩) (waitF s task n m).2.2) hW L T3 D3 hab n2 n1 (by omega) (by omega) (st4.blk T3 n2) (st4.blk D3 n1) (by decide) rfl fun w7 hW => ⟨q, l, c, rfl, hW⟩
    rw [add_mk, Nat.zero_add]
    rw [add_mk, Nat.zero_add] at this
    exact this
  refine bc (fun hk => ?_) (fun hk8 => ?_)
  · have hk : kind = 8 := by simpa using hk
    subst hk
    refine ⟨_, (B3.cell 0).trans rfl, _, (B3.cell0 2).trans rfl, Calls.use (signal52 h3 (by omega) hQ task n) ?_⟩
    rintro _ w4 ⟨q, l, c, rfl, hW⟩
    have hW := (hW.upQ (Nat.le_succ Q)).upN (N' := N + 2) (by omega)
    have st4 := hW
    obtain ⟨_, _, g4, _, st4, _⟩ := st4
    refine ⟨_, _, _, _, rfl, ?_⟩
    have := told_end (j := 1) (v := .slice q l c) (c := c) (t := ⟨false, (sigF s task n).1, 0, (sigF s task n).2.1⟩) (C := DoneR w base (N + 2) (Q + 1) o g (⟨false, (sigF s task n).1, 0, (sigF s task n).2.1⟩) (sigF s task n).2.2) hW L T3 D3 hab n2 n1 (by omega) (by omega) (st4.blk T3 n2) (st4.blk D3 n1) (by decide) rfl fun w7 hW => ⟨q, l, c, rfl, hW⟩
    rw [add_mk, Nat.zero_add]
    rw [add_mk, Nat.zero_add] at this
    exact this
  refine bc (fun hk => ?_) (fun hk9 => ?_)
  · have hk : kind = 9 := by simpa using hk
    subst hk
    refine ⟨_, (B3.cell 0).trans rfl, _, (B3.cell0 2).trans rfl, Calls.use (broadcast53 h3 (by omega) hQ task n) ?_⟩
    rintro _ w4 ⟨q, l, c, rfl, hW⟩
    have hW := (hW.upQ (Nat.le_succ Q)).upN (N' := N + 2) (by omega)
    have st4 := hW
    obtain ⟨_, _, g4, _, st4, _⟩ := st4
    refine ⟨_, _, _, _, rfl, ?_⟩
    have := told_end (j := 1) (v := .slice q l c) (c := c) (t := ⟨false, (broF s task n).1, 0, (broF s task n).2.1⟩) (C := DoneR w base (N + 2) (Q + 1) o g (⟨false, (broF s task n).1, 0, (broF s task n).2.1⟩) (broF s task n).2.2) hW L T3 D3 hab n2 n1 (by omega) (by omega) (st4.blk T3 n2) (st4.blk D3 n1) (by decide) rfl fun w7 hW => ⟨q, l, c, rfl, hW⟩
    rw [add_mk, Nat.zero_add]
    rw [add_mk, Nat.zero_add] at this
    exact this
  refine bc (fun hk => ?_) (fun hk10 => ?_)
  · have hk : kind = 10 := by simpa using hk
    subst hk
    refine ⟨_, (B3.cell 0).trans rfl, _, (B3.cell0 2).trans rfl, _, (B3.cell0 3).trans rfl, Calls.use (add54 h3 task n m) ?_⟩
    rintro _ w4 ⟨rfl, g4, I4, st4⟩
    refine ⟨_, _, rfl, ?_⟩
    have := told_end (j := 2) (v := .int .i64 (addF s task n m).1) (q := none) (l := 0) (c := 0) (t := ⟨false, [], (addF s task n m).1, (addF s task n m).2.1⟩) (s' := (addF s task n m).2.2) (C := DoneR w base (N + 2) (Q + 1) o g (⟨false, [], (addF s task n m).1, (addF s task n m).2.1⟩) (addF s task n m).2.2) (Woke.nil (I4.up (by omega) (Nat.le_succ Q)) st4) L T3 D3 hab n2 n1 (by omega) (by omega) (st4.blk T3 n2) (st4.blk D3 n1) (by decide) rfl fun w7 hW => ⟨none, 0, 0, rfl, hW⟩
    rw [add_mk, Nat.zero_add]
    rw [add_mk, Nat.zero_add] at this
    exact this
  have e : doesF s task kind n m = (⟨false, [], 0, 0⟩, s) := by
    have f : ∀ k : Int, (kind == k) = false → ¬ kind = k := fun k h => ne_of_beq_false h
    unfold doesF
    rw [if_neg (f 1 hk1), if_neg (f 2 hk2), if_neg (f 3 hk3), if_neg (f 4 hk4), if_neg (f 5 hk5), if_neg (f 6 hk6), if_neg (f 7 hk7), if_neg (f 8 hk8), if_neg (f 9 hk9), if_neg (f 10 hk10)]
  rw [e]
  refine ⟨_, _, _, _, _, _, T3.reads0, D3.canStore (by show 0 + 4 ≤ 4; decide), fun w4 e4 => ?_⟩
  have D4 := D3.over e4 rfl
  have k4 : Chg (fun k => k = w1.heap.size) w3 w4 := (Chg.refl _ w3).sets' e4 (.inl rfl)
  refine ⟨_, _, _, _, _, _, D4.reads0, none, 0, 0, rfl, ?_⟩
  exact (Woke.nil (h3.up (by omega) (by omega)) (Stp.refl o w3 g)).put k4 (fun b hb => by
    subst hb
    exact ⟨D3.lt, n1⟩) L (fun b hb => by omega)
end
end Full
end Go.Proofs.Ytibpbbjlecohiaa
