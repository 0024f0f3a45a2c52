import Derived.Test.YtibpbbjlecohiaaLcS
set_option maxRecDepth 20000
namespace Go.Proofs.Ytibpbbjlecohiaa
namespace Full
open Go Go.Vc Go.RowKit
/-! # both latches, side by side -/
def KM (r r' : R8) : Prop := r'.M = r.M ∧ r'.L = r.L ∧ r'.C = r.C
theorem takeR_keep (r : R8) (k : Nat) (x : W3) : KM r (takeR r k x).2 := by
  unfold takeR
  split <;> exact ⟨rfl, rfl, rfl⟩
theorem letNR_keep : ∀ (k : Nat) (r : R8) (i : Nat), KM r (letNR k r i).2
  | 0, _, _ => ⟨rfl, rfl, rfl⟩
  | k + 1, r, i => by
    obtain ⟨a, b, c⟩ := letR_keep r i
    obtain ⟨d, e, f⟩ := letNR_keep k (letR r i).2 i
    exact ⟨d.trans a, e.trans b, f.trans c⟩
theorem lockR_keep (r : R8) (t n : Int) : KM r (lockR r t n).2.2 := by
  unfold lockR
  split
  · exact ⟨rfl, rfl, rfl⟩
  · split
    · exact ⟨rfl, rfl, rfl⟩
    · exact takeR_keep _ _ _
theorem unlockR_keep (r : R8) (t n : Int) : KM r (unlockR r t n).2.2 := by
  unfold unlockR
  split
  · exact ⟨rfl, rfl, rfl⟩
  · split <;> exact ⟨rfl, rfl, rfl⟩
theorem takeLR_keep (r : R8) (t n k : Int) : KM r (takeLR r t n k).2.2 := by
  unfold takeLR
  split
  · exact ⟨rfl, rfl, rfl⟩
  · split
    · exact ⟨rfl, rfl, rfl⟩
    · exact takeR_keep _ _ _
theorem giveLR_keep (r : R8) (t n k : Int) : KM r (giveLR r t n k).2.2 := by
  unfold giveLR
  split
  · exact ⟨rfl, rfl, rfl⟩
  · split <;> exact ⟨rfl, rfl, rfl⟩
theorem waitR_keep (r : R8) (t n m : Int) : KM r (waitR r t n m).2.2 := by
  unfold waitR
  split
  · exact ⟨rfl, rfl, rfl⟩
  · split <;> exact ⟨rfl, rfl, rfl⟩
theorem sigR_keep (r : R8) (t n : Int) : KM r (sigR r t n).2.2 := by
  unfold sigR
  split
  · exact ⟨rfl, rfl, rfl⟩
  · exact letR_keep _ _
theorem broR_keep (r : R8) (t n : Int) : KM r (broR r t n).2.2 := by
  unfold broR
  split
  · exact ⟨rfl, rfl, rfl⟩
  · exact letNR_keep _ _ _
theorem addR_keep (r : R8) (t n m : Int) : KM r (addR r t n m).2.2 := by
  unfold addR
  split
  · exact ⟨rfl, rfl, rfl⟩
  · split <;> exact ⟨rfl, rfl, rfl⟩
theorem mustR_keep (r : R8) (t k n m : Int) : KM r (mustR r t k n m).2 := by
  unfold mustR
  split
  · exact lockR_keep _ _ _
  split
  · exact unlockR_keep _ _ _
  split
  · exact takeLR_keep _ _ _ _
  split
  · exact giveLR_keep _ _ _ _
  split
  · exact takeLR_keep _ _ _ _
  split
  · exact giveLR_keep _ _ _ _
  split
  · exact waitR_keep _ _ _ _
  split
  · exact sigR_keep _ _ _
  split
  · exact broR_keep _ _ _
  split
  · exact addR_keep _ _ _ _
  · exact ⟨rfl, rfl, rfl⟩
/-- a block of another type is none of the program's latches' -/
theorem InvG.own_blk {w : World} {base N Q o : Nat} {g : G8} {s : S8} (h : InvG w base N Q o g s) {b : Nat} (hb : Own g o b) {t : TypeId} {cs : Array Value} (B : Blk w b t cs) : t = 89 ∨ t = 97 ∨ t = 99 ∨ t = 95 ∨ t = 2 ∨ t = 3 ∨ t = 106 := by
  cases hb with
  | obj => exact .inl (h.obj.type B).1.symm
  | map => exact absurd rfl (Mp.ne h.wts B)
  | mx hq => obtain ⟨cs', B'⟩ := h.mx.blk hq; exact .inr (.inl (B'.type B).1.symm)
  | lk hq => obtain ⟨cs', B'⟩ := h.lk.blk hq; exact .inr (.inr (.inl (B'.type B).1.symm))
  | cd hq => obtain ⟨cs', B'⟩ := h.cd.blk hq; exact .inr (.inr (.inr (.inl (B'.type B).1.symm)))
  | ct hq => obtain ⟨cs', B'⟩ := h.ct.blk hq; exact .inr (.inr (.inr (.inr (.inl (B'.type B).1.symm))))
  | rds hx hq =>
    obtain ⟨i, hi⟩ := List.getElem?_of_mem hx
    obtain ⟨xs, _, se⟩ := h.rds.at' (map_at (f := LkH.readers) hi)
    obtain ⟨cs', B'⟩ := se.blk hq
    exact .inr (.inr (.inr (.inr (.inr (.inl (B'.type B).1.symm)))))
  | que hx hq =>
    obtain ⟨i, hi⟩ := List.getElem?_of_mem hx
    obtain ⟨xs, _, se⟩ := h.que.at' hi
    obtain ⟨cs', B'⟩ := se.blk hq
    exact .inr (.inr (.inr (.inr (.inr (.inr (B'.type B).1.symm)))))
structure Bo (W w : World) (bl br N Q o1 o2 : Nat) (g : G8) (s : S8) (gr : GR) (r : R8) : Prop where
  G : InvG w bl N Q o1 g s
  R : InvR w br Q o2 gr r
  S : Sim s r
  A : ∀ b, Own g o1 b → ¬ OwnR gr o2 b
  m : r.M ≤ 64 ∧ r.L ≤ 64 ∧ r.C ≤ 64
  bl : W.heap.size ≤ bl
  br : W.heap.size ≤ br
section
variable {W w w' : World} {bl br N Q o1 o2 : Nat} {g : G8} {s : S8} {gr : GR} {r : R8}
theorem Bo.chg (B : Bo W w bl br N Q o1 o2 g s gr r) {S : Nat → Prop} (k : Chg S w w') (h1 : ∀ b, S b → ¬ Own g o1 b) (h2 : ∀ b, S b → ¬ OwnR gr o2 b) : Bo W w' bl br N Q o1 o2 g s gr r :=
  ⟨B.G.chg k h1, B.R.chg k h2, B.S, B.A, B.m, B.bl, B.br⟩
theorem Bo.chgN (B : Bo W w bl br N Q o1 o2 g s gr r) (k : Chg none_ w w') : Bo W w' bl br N Q o1 o2 g s gr r := B.chg k (fun _ h => h.elim) (fun _ h => h.elim)
/-- the own slices of the law turn -/
theorem Bo.chgT (B : Bo W w bl br N Q o1 o2 g s gr r) {q : Option Addr} {α : Type} {E : En α} {b0 : Nat} {e : TypeId} {l c : Nat} {xs : List α} (S0 : SE E w b0 e q l c xs) (he : e = 35 ∨ e = 44 ∨ e = 77 ∨ e = 47 ∨ e = 82) (k : Chg (fun b => some b = qB q) w w') : Bo W w' bl br N Q o1 o2 g s gr r := by
  refine B.chg k (fun b hb ho => ?_) fun b hb ho => ?_
  · obtain ⟨cs, Bk⟩ := S0.blk hb.symm
    have h := B.G.own_blk ho Bk
    rcases he with rfl | rfl | rfl | rfl | rfl <;> rcases h with h | h | h | h | h | h | h <;> exact absurd h (by decide)
  · obtain ⟨cs, Bk⟩ := S0.blk hb.symm
    rcases he with rfl | rfl | rfl | rfl | rfl <;> exact B.R.not_own Bk (by decide) ho
theorem Bo.small (B : Bo W w bl br N Q o1 o2 g s gr r) : Small r := B.S.small (by rw [← B.S.rel.eM]; exact B.m.1) (by rw [← B.S.rel.eL]; exact B.m.2.1) (by rw [← B.S.rel.eC]; exact B.m.2.2)
theorem same28 {w : World} {q1 q2 : Option Addr} {l1 c1 l2 c2 : Nat} {xs : List Int} (H : RE En.int w q1 l1 xs) (K : RE En.int w q2 l2 xs) (hl : l1 ≤ 9223372036854775807) :
    Calls Try.prog 28 #[.slice q1 l1 c1, .slice q2 l2 c2] w (Ret fun v w' => v = .bool true ∧ Chg none_ w w') := by
  have e1 := H.len
  have e2 := K.len
  refine f28.calls _ _ _ _ _ _ ?_
  unfold f28.wp
  refine bcF (by simp; omega) ⟨fun x w' => ∃ i : Nat, x = (i : Int) ∧ i ≤ l1 ∧ Chg none_ w w', fun x _ => l1 - x.toNat, ⟨0, rfl, Nat.zero_le _, Chg.refl _ _⟩, ?_⟩
  rintro _ w1 ⟨i, rfl, hi, k1⟩
  refine bc (fun h => ?_) fun h => ⟨rfl, k1⟩
  have h : i < l1 := by have := of_decide_eq_true h; omega
  have k1 := k1.drew
  obtain ⟨a, x, ha, hx, hr⟩ := (H.chg k1).ex h
  obtain ⟨b, y, hb, hy, hr'⟩ := (K.chg k1).ex (i := i) (by omega)
  rw [hx] at hy; cases hy
  have c0 := reads_at hr (i := 0) rfl
  have c1 := reads_at hr' (i := 0) rfl
  rw [add_zero'] at c0 c1
  rw [wrapS (x := (i : Int) + 1) (by omega) (by omega)]
  exact onPtr_at ha ⟨by omega, by omega, x, c0, onPtr_at hb ⟨by omega, by omega, x, c1, bcF (by simp) ⟨⟨i + 1, by omega, h, k1⟩, meas h⟩⟩⟩
theorem same36 {w : World} {q1 q2 : Option Addr} {l1 c1 l2 c2 : Nat} {xs : List W3} (H : RE En.w3 w q1 l1 xs) (K : RE En.w3 w q2 l2 xs) (hl : l1 ≤ 9223372036854775807) :
    Calls Try.prog 36 #[.slice q1 l1 c1, .slice q2 l2 c2] w (Ret fun v w' => v = .bool true ∧ Chg none_ w w') := by
  have e1 := H.len
  have e2 := K.len
  refine f36.calls _ _ _ _ _ _ ?_
  unfold f36.wp
  refine bcF (by simp; omega) ⟨fun x w' => ∃ i : Nat, x = (i : Int) ∧ i ≤ l1 ∧ Chg none_ w w', fun x _ => l1 - x.toNat, ⟨0, rfl, Nat.zero_le _, Chg.refl _ _⟩, ?_⟩
  rintro _ w1 ⟨i, rfl, hi, k1⟩
  refine bc (fun h => ?_) fun h => ⟨rfl, k1⟩
  have h : i < l1 := by have := of_decide_eq_true h; omega
  have k1 := k1.drew
  obtain ⟨a, x, ha, hx, hr⟩ := (H.chg k1).ex h
  obtain ⟨b, y, hb, hy, hr'⟩ := (K.chg k1).ex (i := i) (by omega)
  rw [hx] at hy; cases hy
  rw [wrapS (x := (i : Int) + 1) (by omega) (by omega)]
  exact onPtr_at ha ⟨by omega, by omega, _, _, _, hr, onPtr_at hb ⟨by omega, by omega, _, _, _, hr', bcF (by simp) ⟨⟨i + 1, by omega, h, k1⟩, meas h⟩⟩⟩
theorem same38 {w : World} {q1 q2 : Option Addr} {l1 c1 l2 c2 : Nat} {xs : List (Int × Int)} (H : RE En.i2 w q1 l1 xs) (K : RE En.i2 w q2 l2 xs) (hl : l1 ≤ 9223372036854775807) :
    Calls Try.prog 38 #[.slice q1 l1 c1, .slice q2 l2 c2] w (Ret fun v w' => v = .bool true ∧ Chg none_ w w') := by
  have e1 := H.len
  have e2 := K.len
  refine f38.calls _ _ _ _ _ _ ?_
  unfold f38.wp
  refine bcF (by simp; omega) ⟨fun x w' => ∃ i : Nat, x = (i : Int) ∧ i ≤ l1 ∧ Chg none_ w w', fun x _ => l1 - x.toNat, ⟨0, rfl, Nat.zero_le _, Chg.refl _ _⟩, ?_⟩
  rintro _ w1 ⟨i, rfl, hi, k1⟩
  refine bc (fun h => ?_) fun h => ⟨rfl, k1⟩
  have h : i < l1 := by have := of_decide_eq_true h; omega
  have k1 := k1.drew
  obtain ⟨a, x, ha, hx, hr⟩ := (H.chg k1).ex h
  obtain ⟨b, y, hb, hy, hr'⟩ := (K.chg k1).ex (i := i) (by omega)
  rw [hx] at hy; cases hy
  rw [wrapS (x := (i : Int) + 1) (by omega) (by omega)]
  exact onPtr_at ha ⟨by omega, by omega, _, _, hr, onPtr_at hb ⟨by omega, by omega, _, _, hr', bcF (by simp) ⟨⟨i + 1, by omega, h, k1⟩, meas h⟩⟩⟩
theorem told32 {w : World} {q1 q2 : Option Addr} {l1 c1 l2 c2 : Nat} (t : Told) (H : RE En.int w q1 l1 t.woken) (K : RE En.int w q2 l2 t.woken) (hl : l1 ≤ 9223372036854775807) :
    Calls Try.prog 32 #[.agg #[.bool t.got, .slice q1 l1 c1, .int .i64 t.n, .int .i64 t.err], .agg #[.bool t.got, .slice q2 l2 c2, .int .i64 t.n, .int .i64 t.err]] w (Ret fun v w' => v = .bool true ∧ Chg none_ w w') := by
  refine f32.calls _ _ _ _ _ _ _ _ _ _ _ _ ?_
  unfold f32.wp
  refine newBox fun w1 B1 k1 _ => newBox fun w2 B2 k2 _ => ?_
  have A2 := k2.blk B1 (fun x => x)
  have k02 := k1.trans k2
  refine ⟨_, (A2.cell 0).trans rfl, _, (B2.cell 0).trans rfl, bcT (by simp) ⟨_, _, _, (A2.cell0 1).trans rfl, _, _, _, (B2.cell0 1).trans rfl, Calls.use (same28 (H.chg k02) (K.chg k02) hl) ?_⟩⟩
  rintro _ w3 ⟨rfl, k3⟩
  have A3 := k3.blk A2 (fun x => x)
  have B3 := k3.blk B2 (fun x => x)
  exact ⟨_, rfl, bcT rfl ⟨_, (A3.cell0 2).trans rfl, _, (B3.cell0 2).trans rfl, bcT (by simp) ⟨_, (A3.cell0 3).trans rfl, _, (B3.cell0 3).trans rfl, by simp, k02.trans k3⟩⟩⟩
theorem begin31 (w : World) (a b c d : Int) : Calls Try.prog 31 #[.agg #[.int .i64 a, .int .i64 b, .int .i64 c, .int .i64 d]] w (Ret fun v w' =>
    (v = .tuple #[.pointer none, .pointer none, .bool true] ∧ Chg none_ w w') ∨ (∃ bl br o1 o2 g s gr r, v = .tuple #[.pointer (some (ad o1)), .pointer (some (ad o2)), .bool true] ∧ Bo w w' bl br 0 0 o1 o2 g s gr r ∧ Chg none_ w w')) := by
  refine f31.calls _ _ _ _ ?_
  unfold f31.wp
  refine newBox fun w1 B1 k1 z1 => ⟨_, _, _, _, B1.reads0, Calls.use (new17 w1 a b c d) ?_⟩
  rintro _ w2 (⟨hno, rfl, k2⟩ | ⟨hok, o1, g, rfl, I2, k2⟩)
  · have B2 := k2.blk B1 (fun x => x)
    refine ⟨_, _, rfl, _, _, _, _, B2.reads0, Calls.use (new58 w2 a b c d) ?_⟩
    rintro _ w3 (⟨_, rfl, k3⟩ | ⟨hok, _⟩)
    · refine ⟨_, _, rfl, Calls.use (awake16 w3) ?_⟩
      rintro _ w4 ⟨rfl, k4⟩
      exact ⟨_, rfl, bcT rfl (bcT rfl ⟨ptrOk_none _ _, ptrOk_none _ _, .inl ⟨rfl, k1.trans (k2.trans (k3.trans k4))⟩⟩)⟩
    · exact absurd hok hno
  · have B2 := k2.blk B1 (fun x => x)
    refine ⟨_, _, rfl, _, _, _, _, B2.reads0, Calls.use (new58 w2 a b c d) ?_⟩
    rintro _ w3 (⟨hno, _⟩ | ⟨_, o2, gr, rfl, I3, k3⟩)
    · exact absurd hok hno
    · refine ⟨_, _, rfl, Calls.use (awake16 w3) ?_⟩
      rintro _ w4 ⟨rfl, k4⟩
      refine ⟨_, rfl, bcT rfl (bcT rfl ⟨ptrOk_none _ _, ptrOk_none _ _, .inr ⟨w1.heap.size, w2.heap.size, o1, o2, g, _, gr, _, rfl, ⟨I2.chgN (k3.trans k4), I3.chgN k4, sim_new _ _ _ _, fun x hx hy => ?_, ?_, k1.size, (k1.trans k2).size⟩, k1.trans (k2.trans (k3.trans k4))⟩⟩)⟩
      · have h1 := (I2.own_lt hx).1
        have h2 := (I3.own_lt hy).2
        omega
      · obtain ⟨h1, h2, h3, _⟩ := hok
        have := h1.2; have := h2.2; have := h3.2
        exact ⟨by show a.toNat ≤ 64; omega, by show b.toNat ≤ 64; omega, by show c.toNat ≤ 64; omega⟩
end
end Full
end Go.Proofs.Ytibpbbjlecohiaa
set_option maxRecDepth 20000
namespace Go.Proofs.Ytibpbbjlecohiaa
namespace Full
open Go Go.Vc Go.RowKit
/-! # what is kept of each op -/
theorem elemH35 : ElemOk Try.prog 30 35 1 24 := ⟨Try.underlying30, .slice none 0 0, by kernel_rfl, rfl⟩
theorem elemH44 : ElemOk Try.prog 72 44 1 24 := ⟨Try.underlying72, .slice none 0 0, by kernel_rfl, rfl⟩
theorem elemH77 : ElemOk Try.prog 73 77 1 24 := ⟨Try.underlying73, .slice none 0 0, by kernel_rfl, rfl⟩
section
variable {α : Type} {E : En α} {f : α → Int} {t : TypeId} {O O' : Nat → Prop} {w w' : World} {hs : List Hd}
theorem SE.mx {b : Nat} {q : Option Addr} {l c : Nat} {xs : List α} (h : SE E w b t q l c xs) : l ≤ 9223372036854775807 := by
  rcases h.ex with ⟨_, rfl, _⟩ | ⟨_, _, _, _, _, _, h1, h2, _⟩
  · omega
  · simp only [maxLen] at h2; omega
/-- slices of which each first cell is minus one, their place less -/
def KO (E : En α) (f : α → Int) (t : TypeId) (O : Nat → Prop) (w : World) (hs : List Hd) : Prop := ∀ (j : Nat) (h : Hd), hs[j]? = some h → ∃ b c xs, SE E w b t h.1 h.2.1 c xs ∧ (∀ b, qB h.1 = some b → ¬ O b) ∧ ∀ x ∈ xs, f x = -1 - (j : Int)
theorem KO.chg (h : KO E f t O w hs) {S : Nat → Prop} (k : Chg S w w') (hS : ∀ b cs, S b → Blk w b t cs → O b) (hO : ∀ b, b < w.heap.size → O' b → O b) : KO E f t O' w' hs := fun j x hx => by
  obtain ⟨b, c, xs, A, hn, hf⟩ := h j x hx
  refine ⟨b, c, xs, A.chg k fun g hg hs => ?_, fun g hg ho => hn g hg (hO g (A.lt hg).1 ho), hf⟩
  obtain ⟨cs, B⟩ := A.blk hg
  exact hn g hg (hS g cs hs B)
theorem KO.chgN (h : KO E f t O w hs) (k : Chg none_ w w') : KO E f t O w' hs := h.chg k (fun _ _ x _ => x.elim) fun _ _ x => x
theorem KO.push (h : KO E f t O w hs) {b : Nat} {q : Option Addr} {l c c' : Nat} {xs : List α} (A : SE E w b t q l c xs) (hn : ∀ b, qB q = some b → ¬ O b) (hf : ∀ x ∈ xs, f x = -1 - (hs.length : Int)) : KO E f t O w (hs ++ [(q, l, c')]) := fun j x hx => by
  by_cases hj : j < hs.length
  · rw [List.getElem?_append_left hj] at hx
    exact h j x hx
  · rw [List.getElem?_append_right (by omega)] at hx
    have h0 := get_lt hx
    have : j - hs.length = 0 := by simpa using h0
    rw [this] at hx
    cases hx
    have : j = hs.length := by omega
    subst this
    exact ⟨b, c, xs, A, hn, hf⟩
theorem KO.nil (E : En α) (f : α → Int) (t : TypeId) (O : Nat → Prop) (w : World) : KO E f t O w [] := fun j x hx => by simp at hx
/-- spoiled up to a place -/
def Sp (E : En α) (f : α → Int) (v : Int) (t : TypeId) (b : Nat) (q : Option Addr) (l c : Nat) (w0 : World) (k : Nat) (w : World) : Prop := ∃ xs, SE E w b t q l c xs ∧ (∀ m x, m < k → xs[m]? = some x → f x = v) ∧ Chg (fun b => some b = qB q) w0 w
theorem Sp.start {b : Nat} {q : Option Addr} {l c : Nat} {xs : List α} (f : α → Int) (v : Int) (A : SE E w b t q l c xs) : Sp E f v t b q l c w 0 w := ⟨xs, A, fun _ _ h => absurd h (Nat.not_lt_zero _), Chg.refl _ _⟩
theorem Sp.step {b : Nat} {q : Option Addr} {l c k : Nat} {v : Int} {w0 : World} (h : Sp E f v t b q l c w0 k w) (hk : k < l) (x' : α) (hx : f x' = v) : ∃ a, q = some a ∧ canStore w (a.add (k * E.k)) E.k ∧ ∀ w', w' = setCells (a.add (k * E.k)) 0 (E.enc x') w → Sp E f v t b q l c w0 (k + 1) w' := by
  obtain ⟨xs, A, hf, c0⟩ := h
  obtain ⟨a, ha, hc⟩ := A.can hk
  refine ⟨a, ha, by have := hc 0 E.k (by omega); rwa [add_zero'] at this, fun w' e => ?_⟩
  obtain ⟨A', c1⟩ := A.set ha hk e
  refine ⟨_, A', fun m x hm hx' => ?_, c0.trans c1⟩
  by_cases h1 : m = k
  · subst h1
    rw [List.getElem?_set_self (by rw [A.len]; exact hk)] at hx'
    cases hx'; exact hx
  · rw [List.getElem?_set_ne (Ne.symm h1)] at hx'
    exact hf m x (by omega) hx'
theorem Sp.all {b : Nat} {q : Option Addr} {l c : Nat} {v : Int} {w0 : World} (h : Sp E f v t b q l c w0 l w) : ∃ xs, SE E w b t q l c xs ∧ (∀ x ∈ xs, f x = v) ∧ Chg (fun b => some b = qB q) w0 w := by
  obtain ⟨xs, A, hf, c0⟩ := h
  refine ⟨xs, A, fun x hx => ?_, c0⟩
  obtain ⟨i, hi⟩ := List.getElem?_of_mem hx
  exact hf i x (by have := get_lt hi; rw [A.len] at this; exact this) hi
end
theorem Bo.ownNot {W w : World} {bl br N Q o1 o2 : Nat} {g : G8} {s : S8} {gr : GR} {r : R8} (B : Bo W w bl br N Q o1 o2 g s gr r) {b : Nat} {t : TypeId} {cs : Array Value} (hb : Own g o1 b ∨ OwnR gr o2 b) (Bk : Blk w b t cs) (he : t = 35 ∨ t = 44 ∨ t = 77 ∨ t = 47 ∨ t = 82) : False := by
  rcases hb with hb | hb
  · have h := B.G.own_blk hb Bk
    rcases he with rfl | rfl | rfl | rfl | rfl <;> rcases h with h | h | h | h | h | h | h <;> exact absurd h (by decide)
  · rcases he with rfl | rfl | rfl | rfl | rfl <;> exact B.R.not_own Bk (by decide) hb
theorem noS {α : Type} {E : En α} {w : World} {b0 : Nat} {e t : TypeId} {q : Option Addr} {l c : Nat} {xs : List α} (A : SE E w b0 e q l c xs) (ht : e ≠ t) {b : Nat} {cs : Array Value} (hb : some b = qB q) (Bk : Blk w b t cs) : False := by
  obtain ⟨cs', B'⟩ := A.blk hb.symm
  exact ht (B'.type Bk).1
abbrev i64 (x : Int) : Value := .int .i64 x
/-- what holds ahead of each op -/
structure Lp (W : World) (bl br o1 o2 i : Nat) (q2 : Option Addr) (l2 c2 : Nat) (q3 : Option Addr) (l3 c3 : Nat) (q4 : Option Addr) (l4 c4 : Nat) (g : G8) (s : S8) (gr : GR) (r : R8) (H2 H3 H4 : List Hd) (w : World) : Prop where
  B : Bo W w bl br (2 * i) i o1 o2 g s gr r
  S2 : SE En.hd w W.heap.size 35 q2 l2 c2 H2
  S3 : SE En.hd w W.heap.size 44 q3 l3 c3 H3
  S4 : SE En.hd w W.heap.size 77 q4 l4 c4 H4
  K2 : KO En.int id 3 (Own g o1) w H2
  K3 : KO En.w3 (·.1) 47 none_ w H3
  K4 : KO En.i2 (·.1) 82 none_ w H4
  n2 : l2 = i
  n3 : l3 = i
  n4 : l4 = i
  k : Chg none_ W w
end Full
end Go.Proofs.Ytibpbbjlecohiaa
