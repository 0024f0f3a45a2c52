import Derived.Test.YtibpbbjlecohiaaLcS
set_option maxRecDepth 20000
namespace Go.Proofs.Ytibpbbjlecohiaa
namespace Full
open Go Go.Vc Go.RowKit
/-! # both latches, side by side -/
def KM (r r' : R8) : Prop := r'.M = r.M ∧ r'.L = r.L ∧ r'.C = r.C
theorem takeR_keep (r : R8) (k : Nat) (x : W3) : KM r (takeR r k x).2 := by
  unfold takeR
  split <;> exact ⟨rfl, rfl, rfl⟩
theorem letNR_keep : ∀ (k : Nat) (r : R8) (i : Nat), KM r (letNR k r i).2
  | 0, _, _ => ⟨rfl, rfl, rfl⟩
  | k + 1, r, i => by
    obtain ⟨a, b, c⟩ := letR_keep r i
    obtain ⟨d, e, f⟩ := letNR_keep k (letR r i).2 i
    exact ⟨d.trans a, e.trans b, f.trans c⟩
theorem lockR_keep (r : R8) (t n : Int) : KM r (lockR r t n).2.2 := by
  unfold lockR
  split
  · exact ⟨rfl, rfl, rfl⟩
  · split
    · exact ⟨rfl, rfl, rfl⟩
    · exact takeR_keep _ _ _
theorem unlockR_keep (r : R8) (t n : Int) : KM r (unlockR r t n).2.2 := by
  unfold unlockR
  split
  · exact ⟨rfl, rfl, rfl⟩
  · split <;> exact ⟨rfl, rfl, rfl⟩
theorem takeLR_keep (r : R8) (t n k : Int) : KM r (takeLR r t n k).2.2 := by
  unfold takeLR
  split
  · exact ⟨rfl, rfl, rfl⟩
  · split
    · exact ⟨rfl, rfl, rfl⟩
    · exact takeR_keep _ _ _
theorem giveLR_keep (r : R8) (t n k : Int) : KM r (giveLR r t n k).2.2 := by
  unfold giveLR
  split
  · exact ⟨rfl, rfl, rfl⟩
  · split <;> exact ⟨rfl, rfl, rfl⟩
theorem waitR_keep (r : R8) (t n m : Int) : KM r (waitR r t n m).2.2 := by
  unfold waitR
  split
  · exact ⟨rfl, rfl, rfl⟩
  · split <;> exact ⟨rfl, rfl, rfl⟩
theorem sigR_keep (r : R8) (t n : Int) : KM r (sigR r t n).2.2 := by
  unfold sigR
  split
  · exact ⟨rfl, rfl, rfl⟩
  · exact letR_keep _ _
theorem broR_keep (r : R8) (t n : Int) : KM r (broR r t n).2.2 := by
  unfold broR
  split
  · exact ⟨rfl, rfl, rfl⟩
  · exact letNR_keep _ _ _
theorem addR_keep (r : R8) (t n m : Int) : KM r (addR r t n m).2.2 := by
  unfold addR
  split
  · exact ⟨rfl, rfl, rfl⟩
  · split <;> exact ⟨rfl, rfl, rfl⟩
theorem mustR_keep (r : R8) (t k n m : Int) : KM r (mustR r t k n m).2 := by
  unfold mustR
  split
  · exact lockR_keep _ _ _
  split
  · exact unlockR_keep _ _ _
  split
  · exact takeLR_keep _ _ _ _
  split
  · exact giveLR_keep _ _ _ _
  split
  · exact takeLR_keep _ _ _ _
  split
  · exact giveLR_keep _ _ _ _
  split
  · exact waitR_keep _ _ _ _
  split
  · exact sigR_keep _ _ _
  split
  · exact broR_keep _ _ _
  split
  · exact addR_keep _ _ _ _
  · exact ⟨rfl, rfl, rfl⟩
/-- a block of another type is none of the program's latches' -/
theorem InvG.own_blk {w : World} {base N Q o : Nat} {g : G8} {s : S8} (h : InvG w base N Q o g s) {b : Nat} (hb : Own g o b) {t : TypeId} {cs : Array Value} (B : Blk w b t cs) : t = 89 ∨ t = 97 ∨ t = 99 ∨ t = 95 ∨ t = 2 ∨ t = 3 ∨ t = 106 := by
  cases hb with
  | obj => exact .inl (h.obj.type B).1.symm
  | map => exact absurd rfl (Mp.ne h.wts B)
  | mx hq => obtain ⟨cs', B'⟩ := h.mx.blk hq; exact .inr (.inl (B'.type B).1.symm)
  | lk hq => obtain ⟨cs', B'⟩ := h.lk.blk hq; exact .inr (.inr (.inl (B'.type B).1.symm))
  | cd hq => obtain ⟨cs', B'⟩ := h.cd.blk hq; exact .inr (.inr (.inr (.inl (B'.type B).1.symm)))
  | ct hq => obtain ⟨cs', B'⟩ := h.ct.blk hq; exact .inr (.inr (.inr (.inr (.inl (B'.type B).1.symm))))
  | rds hx hq =>
    obtain ⟨i, hi⟩ := List.getElem?_of_mem hx
    obtain ⟨xs, _, se⟩ := h.rds.at' (map_at (f := LkH.readers) hi)
    obtain ⟨cs', B'⟩ := se.blk hq
    exact .inr (.inr (.inr (.inr (.inr (.inl (B'.type B).1.symm)))))
  | que hx hq =>
    obtain ⟨i, hi⟩ := List.getElem?_of_mem hx
    obtain ⟨xs, _, se⟩ := h.que.at' hi
    obtain ⟨cs', B'⟩ := se.blk hq
    exact .inr (.inr (.inr (.inr (.inr (.inr (B'.type B).1.symm)))))
structure Bo (W w : World) (bl br N Q o1 o2 : Nat) (g : G8) (s : S8) (gr : GR) (r : R8) : Prop where
  G : InvG w bl N Q o1 g s
  R : InvR w br Q o2 gr r
  S : Sim s r
  A : ∀ b, Own g o1 b → ¬ OwnR gr o2 b
  m : r.M ≤ 64 ∧ r.L ≤ 64 ∧ r.C ≤ 64
  bl : W.heap.size ≤ bl
  br : W.heap.size ≤ br
section
variable {W w w' : World} {bl br N Q o1 o2 : Nat} {g : G8} {s : S8} {gr : GR} {r : R8}
theorem Bo.chg (B : Bo W w bl br N Q o1 o2 g s gr r) {S : Nat → Prop} (k : Chg S w w') (h1 : ∀ b, S b → ¬ Own g o1 b) (h2 : ∀ b, S b → ¬ OwnR gr o2 b) : Bo W w' bl br N Q o1 o2 g s gr r :=
  ⟨B.G.chg k h1, B.R.chg k h2, B.S, B.A, B.m, B.bl, B.br⟩
theorem Bo.chgN (B : Bo W w bl br N Q o1 o2 g s gr r) (k : Chg none_ w w') : Bo W w' bl br N Q o1 o2 g s gr r := B.chg k (fun _ h => h.elim) (fun _ h => h.elim)
/-- the own slices of the law turn -/
theorem Bo.chgT (B : Bo W w bl br N Q o1 o2 g s gr r) {q : Option Addr} {α : Type} {E : En α} {b0 : Nat} {e : TypeId} {l c : Nat} {xs : List α} (S0 : SE E w b0 e q l c xs) (he : e = 35 ∨ e = 44 ∨ e = 77 ∨ e = 47 ∨ e = 82) (k : Chg (fun b => some b = qB q) w w') : Bo W w' bl br N Q o1 o2 g s gr r := by
  refine B.chg k (fun b hb ho => ?_) fun b hb ho => ?_
  · obtain ⟨cs, Bk⟩ := S0.blk hb.symm
    have h := B.G.own_blk ho Bk
    rcases he with rfl | rfl | rfl | rfl | rfl <;> rcases h with h | h | h | h | h | h | h <;> exact absurd h (by decide)
  · obtain ⟨cs, Bk⟩ := S0.blk hb.symm
    rcases he with rfl | rfl | rfl | rfl | rfl <;> exact B.R.not_own Bk (by decide) ho
theorem Bo.small (B : Bo W w bl br N Q o1 o2 g s gr r) : Small r := B.S.small (by rw [← B.S.rel.eM]; exact B.m.1) (by rw [← B.S.rel.eL]; exact B.m.2.1) (by rw [← B.S.rel.eC]; exact B.m.2.2)
theorem same28 {w : World} {q1 q2 : Option Addr} {l1 c1 l2 c2 : Nat} {xs : List Int} (H : RE En.int w q1 l1 xs) (K : RE En.int w q2 l2 xs) (hl : l1 ≤ 9223372036854775807) :
    Calls Try.prog 28 #[.slice q1 l1 c1, .slice q2 l2 c2] w (Ret fun v w' => v = .bool true ∧ Chg none_ w w') := by
  have e1 := H.len
  have e2 := K.len
  refine f28.calls _ _ _ _ _ _ ?_
  unfold f28.wp
  refine bcF (by simp; omega) ⟨fun x w' => ∃ i : Nat, x = (i : Int) ∧ i ≤ l1 ∧ Chg none_ w w', fun x _ => l1 - x.toNat, ⟨0, rfl, Nat.zero_le _, Chg.refl _ _⟩, ?_⟩
  rintro _ w1 ⟨i, rfl, hi, k1⟩
  refine bc (fun h => ?_) fun h => ⟨rfl, k1⟩
  have h : i < l1 := by have := of_decide_eq_true h; omega
  have k1 := k1.drew
  obtain ⟨a, x, ha, hx, hr⟩ := (H.chg k1).ex h
  obtain ⟨b, y, hb, hy, hr'⟩ := (K.chg k1).ex (i := i) (by omega)
  rw [hx] at hy; cases hy
  have c0 := reads_at hr (i := 0) rfl
  have c1 := reads_at hr' (i := 0) rfl
  rw [add_zero'] at c0 c1
  rw [wrapS (x := (i : Int) + 1) (by omega) (by omega)]
  exact onPtr_at ha ⟨by omega, by omega, x, c0, onPtr_at hb ⟨by omega, by omega, x, c1, bcF (by simp) ⟨⟨i + 1, by omega, h, k1⟩, meas h⟩⟩⟩
theorem same36 {w : World} {q1 q2 : Option Addr} {l1 c1 l2 c2 : Nat} {xs : List W3} (H : RE En.w3 w q1 l1 xs) (K : RE En.w3 w q2 l2 xs) (hl : l1 ≤ 9223372036854775807) :
    Calls Try.prog 36 #[.slice q1 l1 c1, .slice q2 l2 c2] w (Ret fun v w' => v = .bool true ∧ Chg none_ w w') := by
  have e1 := H.len
  have e2 := K.len
  refine f36.calls _ _ _ _ _ _ ?_
  unfold f36.wp
  refine bcF (by simp; omega) ⟨fun x w' => ∃ i : Nat, x = (i : Int) ∧ i ≤ l1 ∧ Chg none_ w w', fun x _ => l1 - x.toNat, ⟨0, rfl, Nat.zero_le _, Chg.refl _ _⟩, ?_⟩
  rintro _ w1 ⟨i, rfl, hi, k1⟩
  refine bc (fun h => ?_) fun h => ⟨rfl, k1⟩
  have h : i < l1 := by have := of_decide_eq_true h; omega
  have k1 := k1.drew
  obtain ⟨a, x, ha, hx, hr⟩ := (H.chg k1).ex h
  obtain ⟨b, y, hb, hy, hr'⟩ := (K.chg k1).ex (i := i) (by omega)
  rw [hx] at hy; cases hy
  rw [wrapS (x := (i : Int) + 1) (by omega) (by omega)]
  exact onPtr_at ha ⟨by omega, by omega, _, _, _, hr, onPtr_at hb ⟨by omega, by omega, _, _, _, hr', bcF (by simp) ⟨⟨i + 1, by omega, h, k1⟩, meas h⟩⟩⟩
theorem same38 {w : World} {q1 q2 : Option Addr} {l1 c1 l2 c2 : Nat} {xs : List (Int × Int)} (H : RE En.i2 w q1 l1 xs) (K : RE En.i2 w q2 l2 xs) (hl : l1 ≤ 9223372036854775807) :
    Calls Try.prog 38 #[.slice q1 l1 c1, .slice q2 l2 c2] w (Ret fun v w' => v = .bool true ∧ Chg none_ w w') := by
  have e1 := H.len
  have e2 := K.len
  refine f38.calls _ _ _ _ _ _ ?_
  unfold f38.wp
  refine bcF (by simp; omega) ⟨fun x w' => ∃ i : Nat, x = (i : Int) ∧ i ≤ l1 ∧ Chg none_ w w', fun x _ => l1 - x.toNat, ⟨0, rfl, Nat.zero_le _, Chg.refl _ _⟩, ?_⟩
  rintro _ w1 ⟨i, rfl, hi, k1⟩
  refine bc (fun h => ?_) fun h => ⟨rfl, k1⟩
  have h : i < l1 := by have := of_decide_eq_true h; omega
  have k1 := k1.drew
  obtain ⟨a, x, ha, hx, hr⟩ := (H.chg k1).ex h
  obtain ⟨b, y, hb, hy, hr'⟩ := (K.chg k1).ex (i := i) (by omega)
  rw [hx] at hy; cases hy
  rw [wrapS (x := (i : Int) + 1) (by omega) (by omega)]
  exact onPtr_at ha ⟨by omega, by omega, _, _, hr, onPtr_at hb ⟨by omega, by omega, _, _, hr', bcF (by simp) ⟨⟨i + 1, by omega, h, k1⟩, meas h⟩⟩⟩
theorem told32 {w : World} {q1 q2 : Option Addr} {l1 c1 l2 c2 : Nat} (t : Told) (H : RE En.int w q1 l1 t.woken) (K : RE En.int w q2 l2 t.woken) (hl : l1 ≤ 9223372036854775807) :
    Calls Try.prog 32 #[.agg #[.bool t.got, .slice q1 l1 c1, .int .i64 t.n, .int .i64 t.err], .agg #[.bool t.got, .slice q2 l2 c2, .int .i64 t.n, .int .i64 t.err]] w (Ret fun v w' => v = .bool true ∧ Chg none_ w w') := by
  refine f32.calls _ _ _ _ _ _ _ _ _ _ _ _ ?_
  unfold f32.wp
  refine newBox fun w1 B1 k1 _ => newBox fun w2 B2 k2 _ => ?_
  have A2 := k2.blk B1 (fun x => x)
  have k02 := k1.trans k2
  refine ⟨_, (A2.cell 0).trans rfl, _, (B2.cell 0).trans rfl, bcT (by simp) ⟨_, _, _, (A2.cell0 1).trans rfl, _, _, _, (B2.cell0 1).trans rfl, Calls.use (same28 (H.chg k02) (K.chg k02) hl) ?_⟩⟩
  rintro _ w3 ⟨rfl, k3⟩
  have A3 := k3.blk A2 (fun x => x)
  have B3 := k3.blk B2 (fun x => x)
  exact ⟨_, rfl, bcT rfl ⟨_, (A3.cell0 2).trans rfl, _, (B3.cell0 2).trans rfl, bcT (by simp) ⟨_, (A3.cell0 3).trans rfl, _, (B3.cell0 3).trans rfl, by simp, k02.trans k3⟩⟩⟩
theorem begin31 (w : World) (a b c d : Int) : Calls Try.prog 31 #[.agg #[.int .i64 a, .int .i64 b, .int .i64 c, .int .i64 d]] w (Ret fun v w' =>
    (v = .tuple #[.pointer none, .pointer none, .bool true] ∧ Chg none_ w w') ∨ (∃ bl br o1 o2 g s gr r, v = .tuple #[.pointer (some (ad o1)), .pointer (some (ad o2)), .bool true] ∧ Bo w w' bl br 0 0 o1 o2 g s gr r ∧ Chg none_ w w')) := by
  refine f31.calls _ _ _ _ ?_
  unfold f31.wp
  refine newBox fun w1 B1 k1 z1 => ⟨_, _, _, _, B1.reads0, Calls.use (new17 w1 a b c d) ?_⟩
  rintro _ w2 (⟨hno, rfl, k2⟩ | ⟨hok, o1, g, rfl, I2, k2⟩)
  · have B2 := k2.blk B1 (fun x => x)
    refine ⟨_, _, rfl, _, _, _, _, B2.reads0, Calls.use (new58 w2 a b c d) ?_⟩
    rintro _ w3 (⟨_, rfl, k3⟩ | ⟨hok, _⟩)
    · refine ⟨_, _, rfl, Calls.use (awake16 w3) ?_⟩
      rintro _ w4 ⟨rfl, k4⟩
      exact ⟨_, rfl, bcT rfl (bcT rfl ⟨ptrOk_none _ _, ptrOk_none _ _, .inl ⟨rfl, k1.trans (k2.trans (k3.trans k4))⟩⟩)⟩
    · exact absurd hok hno
  · have B2 := k2.blk B1 (fun x => x)
    refine ⟨_, _, rfl, _, _, _, _, B2.reads0, Calls.use (new58 w2 a b c d) ?_⟩
    rintro _ w3 (⟨hno, _⟩ | ⟨_, o2, gr, rfl, I3, k3⟩)
    · exact absurd hok hno
    · refine ⟨_, _, rfl, Calls.use (awake16 w3) ?_⟩
      rintro _ w4 ⟨rfl, k4⟩
      refine ⟨_, rfl, bcT rfl (bcT rfl ⟨ptrOk_none _ _, ptrOk_none _ _, .inr ⟨w1.heap.size, w2.heap.size, o1, o2, g, _, gr, _, rfl, ⟨I2.chgN (k3.trans k4), I3.chgN k4, sim_new _ _ _ _, fun x hx hy => ?_, ?_, k1.size, (k1.trans k2).size⟩, k1.trans (k2.trans (k3.trans k4))⟩⟩)⟩
      · have h1 := (I2.own_lt hx).1
        have h2 := (I3.own_lt hy).2
        omega
      · obtain ⟨h1, h2, h3, _⟩ := hok
        have := h1.2; have := h2.2; have := h3.2
        exact ⟨by show a.toNat ≤ 64; omega, by show b.toNat ≤ 64; omega, by show c.toNat ≤ 64; omega⟩
end
end Full
end Go.Proofs.Ytibpbbjlecohiaa
set_option maxRecDepth 20000
namespace Go.Proofs.Ytibpbbjlecohiaa
namespace Full
open Go Go.Vc Go.RowKit
/-! # what is kept of each op -/
theorem elemH35 : ElemOk Try.prog 30 35 1 24 := ⟨Try.underlying30, .slice none 0 0, by kernel_rfl, rfl⟩
theorem elemH44 : ElemOk Try.prog 72 44 1 24 := ⟨Try.underlying72, .slice none 0 0, by kernel_rfl, rfl⟩
theorem elemH77 : ElemOk Try.prog 73 77 1 24 := ⟨Try.underlying73, .slice none 0 0, by kernel_rfl, rfl⟩
section
variable {α : Type} {E : En α} {f : α → Int} {t : TypeId} {O O' : Nat → Prop} {w w' : World} {hs : List Hd}
theorem SE.mx {b : Nat} {q : Option Addr} {l c : Nat} {xs : List α} (h : SE E w b t q l c xs) : l ≤ 9223372036854775807 := by
  rcases h.ex with ⟨_, rfl, _⟩ | ⟨_, _, _, _, _, _, h1, h2, _⟩
  · omega
  · simp only [maxLen] at h2; omega
/-- slices of which each first cell is minus one, their place less -/
def KO (E : En α) (f : α → Int) (t : TypeId) (O : Nat → Prop) (w : World) (hs : List Hd) : Prop := ∀ (j : Nat) (h : Hd), hs[j]? = some h → ∃ b c xs, SE E w b t h.1 h.2.1 c xs ∧ (∀ b, qB h.1 = some b → ¬ O b) ∧ ∀ x ∈ xs, f x = -1 - (j : Int)
theorem KO.chg (h : KO E f t O w hs) {S : Nat → Prop} (k : Chg S w w') (hS : ∀ b cs, S b → Blk w b t cs → O b) (hO : ∀ b, b < w.heap.size → O' b → O b) : KO E f t O' w' hs := fun j x hx => by
  obtain ⟨b, c, xs, A, hn, hf⟩ := h j x hx
  refine ⟨b, c, xs, A.chg k fun g hg hs => ?_, fun g hg ho => hn g hg (hO g (A.lt hg).1 ho), hf⟩
  obtain ⟨cs, B⟩ := A.blk hg
  exact hn g hg (hS g cs hs B)
theorem KO.chgN (h : KO E f t O w hs) (k : Chg none_ w w') : KO E f t O w' hs := h.chg k (fun _ _ x _ => x.elim) fun _ _ x => x
theorem KO.push (h : KO E f t O w hs) {b : Nat} {q : Option Addr} {l c c' : Nat} {xs : List α} (A : SE E w b t q l c xs) (hn : ∀ b, qB q = some b → ¬ O b) (hf : ∀ x ∈ xs, f x = -1 - (hs.length : Int)) : KO E f t O w (hs ++ [(q, l, c')]) := fun j x hx => by
  by_cases hj : j < hs.length
  · rw [List.getElem?_append_left hj] at hx
    exact h j x hx
  · rw [List.getElem?_append_right (by omega)] at hx
    have h0 := get_lt hx
    have : j - hs.length = 0 := by simpa using h0
    rw [this] at hx
    cases hx
    have : j = hs.length := by omega
    subst this
    exact ⟨b, c, xs, A, hn, hf⟩
theorem KO.nil (E : En α) (f : α → Int) (t : TypeId) (O : Nat → Prop) (w : World) : KO E f t O w [] := fun j x hx => by simp at hx
/-- spoiled up to a place -/
def Sp (E : En α) (f : α → Int) (v : Int) (t : TypeId) (b : Nat) (q : Option Addr) (l c : Nat) (w0 : World) (k : Nat) (w : World) : Prop := ∃ xs, SE E w b t q l c xs ∧ (∀ m x, m < k → xs[m]? = some x → f x = v) ∧ Chg (fun b => some b = qB q) w0 w
theorem Sp.start {b : Nat} {q : Option Addr} {l c : Nat} {xs : List α} (f : α → Int) (v : Int) (A : SE E w b t q l c xs) : Sp E f v t b q l c w 0 w := ⟨xs, A, fun _ _ h => absurd h (Nat.not_lt_zero _), Chg.refl _ _⟩
theorem Sp.step {b : Nat} {q : Option Addr} {l c k : Nat} {v : Int} {w0 : World} (h : Sp E f v t b q l c w0 k w) (hk : k < l) (x' : α) (hx : f x' = v) : ∃ a, q = some a ∧ canStore w (a.add (k * E.k)) E.k ∧ ∀ w', w' = setCells (a.add (k * E.k)) 0 (E.enc x') w → Sp E f v t b q l c w0 (k + 1) w' := by
  obtain ⟨xs, A, hf, c0⟩ := h
  obtain ⟨a, ha, hc⟩ := A.can hk
  refine ⟨a, ha, by have := hc 0 E.k (by omega); rwa [add_zero'] at this, fun w' e => ?_⟩
  obtain ⟨A', c1⟩ := A.set ha hk e
  refine ⟨_, A', fun m x hm hx' => ?_, c0.trans c1⟩
  by_cases h1 : m = k
  · subst h1
    rw [List.getElem?_set_self (by rw [A.len]; exact hk)] at hx'
    cases hx'; exact hx
  · rw [List.getElem?_set_ne (Ne.symm h1)] at hx'
    exact hf m x (by omega) hx'
theorem Sp.all {b : Nat} {q : Option Addr} {l c : Nat} {v : Int} {w0 : World} (h : Sp E f v t b q l c w0 l w) : ∃ xs, SE E w b t q l c xs ∧ (∀ x ∈ xs, f x = v) ∧ Chg (fun b => some b = qB q) w0 w := by
  obtain ⟨xs, A, hf, c0⟩ := h
  refine ⟨xs, A, fun x hx => ?_, c0⟩
  obtain ⟨i, hi⟩ := List.getElem?_of_mem hx
  exact hf i x (by have := get_lt hi; rw [A.len] at this; exact this) hi
end
theorem Bo.ownNot {W w : World} {bl br N Q o1 o2 : Nat} {g : G8} {s : S8} {gr : GR} {r : R8} (B : Bo W w bl br N Q o1 o2 g s gr r) {b : Nat} {t : TypeId} {cs : Array Value} (hb : Own g o1 b ∨ OwnR gr o2 b) (Bk : Blk w b t cs) (he : t = 35 ∨ t = 44 ∨ t = 77 ∨ t = 47 ∨ t = 82) : False := by
  rcases hb with hb | hb
  · have h := B.G.own_blk hb Bk
    rcases he with rfl | rfl | rfl | rfl | rfl <;> rcases h with h | h | h | h | h | h | h <;> exact absurd h (by decide)
  · rcases he with rfl | rfl | rfl | rfl | rfl <;> exact B.R.not_own Bk (by decide) hb
theorem noS {α : Type} {E : En α} {w : World} {b0 : Nat} {e t : TypeId} {q : Option Addr} {l c : Nat} {xs : List α} (A : SE E w b0 e q l c xs) (ht : e ≠ t) {b : Nat} {cs : Array Value} (hb : some b = qB q) (Bk : Blk w b t cs) : False := by
  obtain ⟨cs', B'⟩ := A.blk hb.symm
  exact ht (B'.type Bk).1
abbrev i64 (x : Int) : Value := .int .i64 x
/-- what holds ahead of each op -/
structure Lp (W : World) (bl br o1 o2 i : Nat) (q2 : Option Addr) (l2 c2 : Nat) (q3 : Option Addr) (l3 c3 : Nat) (q4 : Option Addr) (l4 c4 : Nat) (g : G8) (s : S8) (gr : GR) (r : R8) (H2 H3 H4 : List Hd) (w : World) : Prop where
  B : Bo W w bl br (2 * i) i o1 o2 g s gr r
  S2 : SE En.hd w W.heap.size 35 q2 l2 c2 H2
  S3 : SE En.hd w W.heap.size 44 q3 l3 c3 H3
  S4 : SE En.hd w W.heap.size 77 q4 l4 c4 H4
  K2 : KO En.int id 3 (Own g o1) w H2
  K3 : KO En.w3 (·.1) 47 none_ w H3
  K4 : KO En.i2 (·.1) 82 none_ w H4
  n2 : l2 = i
  n3 : l3 = i
  n4 : l4 = i
  k : Chg none_ W w
end Full
end Go.Proofs.Ytibpbbjlecohiaa
set_option maxRecDepth 20000
namespace Go.Proofs.Ytibpbbjlecohiaa
namespace Full
open Go Go.Vc Go.RowKit
theorem own11 {w : World} {q : Option Addr} {l c : Nat} {ops : List OpV} (a1 a2 a3 a4 : Int) (h : RE En.op w q l ops) (hl : l ≤ 4398046511104) :
    Calls Try.prog 11 #[.agg #[.int .i64 a1, .int .i64 a2, .int .i64 a3, .int .i64 a4, .slice q l c]] w (Ret fun v w' => v = .bool true ∧ Chg none_ w w') := by
  refine f11.calls _ _ _ _ _ _ _ ?_
  unfold f11.wp
  have hlen := h.len
  refine newBox fun w1 B1 k1 _ => ⟨_, _, _, _, (B1.reads (o := 0) (vs := [.int .i64 a1, .int .i64 a2, .int .i64 a3, .int .i64 a4]) fun j v hj => ?_), Calls.use (begin31 w1 a1 a2 a3 a4) ?_⟩
  · rcases j with _ | _ | _ | _ | j
    · exact hj
    · exact hj
    · exact hj
    · exact hj
    · simp at hj
  rintro _ w2 (⟨rfl, k2⟩ | ⟨bl, br, o1, o2, g, s, gr, r, rfl, hB2, k2⟩)
  · exact ⟨_, _, _, rfl, bcF rfl ⟨ptrOk_none _ _, bcT rfl ⟨rfl, k1.trans k2⟩⟩⟩
  have B2 := k2.blk B1 (fun x => x)
  refine ⟨_, _, _, rfl, bcF rfl ⟨ptrOk_none _ _, bcF rfl ⟨_, _, _, (B2.cell0 4).trans rfl,
    fun q2 l2 c2 q3 l3 c3 q4 l4 c4 x w' => ∃ i : Nat, x = (i : Int) ∧ i ≤ l ∧ ∃ g s gr r H2 H3 H4, Lp w1 bl br o1 o2 i q2 l2 c2 q3 l3 c3 q4 l4 c4 g s gr r H2 H3 H4 w',
    fun _ _ _ _ _ _ _ _ _ x _ => l - x.toNat,
    ⟨0, rfl, Nat.zero_le _, g, s, gr, r, [], [], [], ⟨hB2, SE.nil _ _ _ _, SE.nil _ _ _ _, SE.nil _ _ _ _, KO.nil _ _ _ _ _, KO.nil _ _ _ _ _, KO.nil _ _ _ _ _, rfl, rfl, rfl, k2⟩⟩, ?_⟩⟩⟩
  clear hB2 B2 g s gr r k2 w2
  rintro q2 l2 c2 q3 l3 c3 q4 l4 c4 _ w3 ⟨i, rfl, hi, g, s, gr, r, H2, H3, H4, P⟩
  have e2 := P.n2
  have e3 := P.n3
  have e4 := P.n4
  subst e2
  refine bc (fun hlt => ?_) (fun hge => ?_)
  rotate_left
  · refine ⟨fun x w' => ∃ j : Nat, x = (j : Int) ∧ j ≤ l2 ∧ Chg none_ w3 w', fun x _ => l2 - x.toNat, ⟨0, rfl, Nat.zero_le _, Chg.refl _ _⟩, ?_⟩
    rintro _ w4 ⟨j, rfl, hj, k4⟩
    refine bc (fun hlt2 => ?_) (fun _ => ⟨rfl, k1.trans (P.k.trans k4)⟩)
    have hj' : j < l2 := by simpa using hlt2
    rw [wrapS (x := (j : Int) + 1) (by omega) (by omega), wrapS (x := (-1) - (j : Int)) (by omega) (by omega)]
    obtain ⟨ha, h2, rfl, hg2, hr2⟩ := (P.S2.chgN k4).re.ex (i := j) hj'
    obtain ⟨_, _, xs, A2, _, f2⟩ := P.K2 j h2 hg2
    have hm2 := SE.mx A2
    refine onPtr_mk ⟨by omega, by omega, _, _, _, reads_one' hr2, fun x w' => ∃ m : Nat, x = (m : Int) ∧ m ≤ h2.2.1 ∧ Chg none_ w3 w', fun x _ => h2.2.1 - x.toNat, ⟨0, rfl, Nat.zero_le _, k4⟩, ?_⟩
    rintro _ w5 ⟨m, rfl, hm, k5⟩
    refine bc (fun hlt3 => ?_) (fun _ => ?_)
    · have hm' : m < h2.2.1 := by simpa using hlt3
      rw [wrapS (x := (m : Int) + 1) (by omega) (by omega)]
      obtain ⟨a, x, ha', hx, hr⟩ := (A2.chgN k5).re.ex (i := m) hm'
      have hfx : x = -1 - (j : Int) := f2 x (List.mem_of_getElem? hx)
      exact onPtr_at ha' ⟨by omega, by omega, _, reads_one' hr, bcF (by simp [hfx]) ⟨⟨m + 1, by omega, hm', k5⟩, meas hm'⟩⟩
    obtain ⟨hb, h3, hq3, hg3, hr3⟩ := (P.S3.chgN k5).re.ex (i := j) (by omega)
    obtain ⟨_, _, xs3, A3, _, f3⟩ := P.K3 j h3 hg3
    have hm3 := SE.mx A3
    refine onPtr_at hq3 ⟨by omega, by omega, _, _, _, reads_one' hr3, fun x w' => ∃ m : Nat, x = (m : Int) ∧ m ≤ h3.2.1 ∧ Chg none_ w3 w', fun x _ => h3.2.1 - x.toNat, ⟨0, rfl, Nat.zero_le _, k5⟩, ?_⟩
    rintro _ w6 ⟨m6, rfl, hm6, k6⟩
    refine bc (fun hlt3 => ?_) (fun _ => ?_)
    · have hm' : m6 < h3.2.1 := by simpa using hlt3
      rw [wrapS (x := (m6 : Int) + 1) (by omega) (by omega)]
      obtain ⟨a, x, ha', hx, hr⟩ := (A3.chgN k6).re.ex (i := m6) hm'
      have hfx : x.1 = -1 - (j : Int) := f3 x (List.mem_of_getElem? hx)
      exact onPtr_at ha' ⟨by omega, by omega, _, _, _, hr, boxed rfl rfl fun w7 B7 k7 s7 => ⟨_, (B7.cell 0).trans rfl, bcF (by simp [hfx]) ⟨⟨m6 + 1, by omega, hm', k6.trans k7⟩, meas hm'⟩⟩⟩
    obtain ⟨hc, h4, hq4, hg4, hr4⟩ := (P.S4.chgN k6).re.ex (i := j) (by omega)
    obtain ⟨_, _, xs4, A4, _, f4⟩ := P.K4 j h4 hg4
    have hm4 := SE.mx A4
    refine onPtr_at hq4 ⟨by omega, by omega, _, _, _, reads_one' hr4, fun x w' => ∃ m : Nat, x = (m : Int) ∧ m ≤ h4.2.1 ∧ Chg none_ w3 w', fun x _ => h4.2.1 - x.toNat, ⟨0, rfl, Nat.zero_le _, k6⟩, ?_⟩
    rintro _ w8 ⟨m8, rfl, hm8, k8⟩
    refine bc (fun hlt3 => ?_) (fun _ => ⟨⟨j + 1, by omega, hj', k8⟩, meas hj'⟩)
    have hm' : m8 < h4.2.1 := by simpa using hlt3
    rw [wrapS (x := (m8 : Int) + 1) (by omega) (by omega)]
    obtain ⟨a, x, ha', hx, hr⟩ := (A4.chgN k8).re.ex (i := m8) hm'
    have hfx : x.1 = -1 - (j : Int) := f4 x (List.mem_of_getElem? hx)
    exact onPtr_at ha' ⟨by omega, by omega, _, _, hr, boxed rfl rfl fun w9 B9 k9 s9 => ⟨_, (B9.cell 0).trans rfl, bcF (by simp [hfx]) ⟨⟨m8 + 1, by omega, hm', k8.trans k9⟩, meas hm'⟩⟩⟩
  have hi' : l2 < l := by simpa using hlt
  have hB := P.B
  obtain ⟨a, op, rfl, hop, hr⟩ := ((h.chg k1).chg P.k).ex hi'
  rw [wrapS (x := (l2 : Int) + 1) (by omega) (by omega), wrapS (x := (-1) - (l2 : Int)) (by omega) (by omega)]
  refine onPtr_mk ⟨by omega, by omega, _, _, _, _, hr, boxed rfl rfl fun w4 B4 k4 s4 => ⟨_, _, _, _, B4.reads0, Calls.use (does20 (hB.G.chgN k4) (by omega) (by omega) op.task op.kind op.n op.m) ?_⟩⟩
  rintro _ w5 ⟨q5, l5, c5, rfl, hMn5, hnew5, g5, G5, st5, hno5⟩
  have z4 : w3.heap.size < w4.heap.size := by omega
  have z5 : w4.heap.size ≤ w5.heap.size := st5.chg.size
  refine ⟨_, _, _, _, _, _, rfl, boxed rfl rfl fun w6 B6 k6 s6 => ?_⟩
  obtain ⟨ht, hS7⟩ := must_sim hB.S op.task op.kind op.n op.m
  have hkm := mustR_keep r op.task op.kind op.n op.m
  have B45 := st5.chg.blk B4 (fun ho => by have := (hB.G.own_lt ho).1; omega)
  have B46 := k6.blk B45 (fun x => x)
  have R6 : InvR w6 br l2 o2 gr r := ((hB.R.chgN k4).chg st5.chg hB.A).chgN k6
  have d6 : Chg none_ w6 w6.drew := (Chg.refl none_ w6).drew
  have hd := must33 (R6.chgN d6) hB.S.condM (by omega) op.task op.kind op.n op.m
  rw [ht] at hd
  generalize (doesF s op.task op.kind op.n op.m).1 = tl at *
  generalize (doesF s op.task op.kind op.n op.m).2 = s' at *
  generalize (mustR r op.task op.kind op.n op.m).2 = r' at *
  refine ⟨fun p => p.block = w5.heap.size ∨ p.block = w3.heap.size, _, _, _, _, _, _, (fun j _ => .inl (add_block _ _)), B6.drew.reads0, _, _, _, _, (fun j _ => .inr (add_block _ _)), B46.drew.reads0, Calls.use hd ?_⟩
  rintro _ w7 ⟨q7, l7, c7, rfl, hRE7, hnew7, gr7, R7, stR7, hno7⟩
  have nB : ∀ b, w3.heap.size ≤ b → ¬ OwnR gr o2 b := fun b hb ho => by have := (hB.R.own_lt ho).1; omega
  have B67 := stR7.chg.blk (B6.drew) (nB _ (by omega))
  have ke : Keeps (fun p => p.block = w5.heap.size ∨ p.block = w3.heap.size) w6.drew w7 := fun p hp => by
    rcases hp with hp | hp
    · exact stR7.chg.cell (by rw [hp]; exact B6.drew.lt) (by rw [hp]; exact nB _ (by omega))
    · exact stR7.chg.cell (by rw [hp]; exact B46.drew.lt) (by rw [hp]; exact nB _ (by omega))
  have M7 : Mn w7 q5 l5 tl.woken := ((hMn5.chg k6).chg d6).chgS stR7.chg fun x hx => nB _ (by have := (hnew5 x.block (by rw [hx]; rfl)).1; omega)
  have hm5 : l5 ≤ 9223372036854775807 := by obtain ⟨b, c', A⟩ := hMn5.ex; exact SE.mx A
  refine ⟨_, _, _, _, _, _, rfl, ke, Calls.use (told32 tl M7.re hRE7 hm5) ?_⟩
  rintro _ w8 ⟨rfl, k8⟩
  have B68 := k8.blk B67 (fun x => x)
  obtain ⟨b5, d5, S8⟩ := (M7.chg k8).ex
  refine ⟨_, rfl, bcF rfl ⟨_, _, _, (B68.cell0 1).trans rfl, fun x w' => ∃ k : Nat, x = (k : Int) ∧ k ≤ l5 ∧ Sp En.int id ((-1) - (l2 : Int)) 3 b5 q5 l5 d5 w8 k w', fun x _ => l5 - x.toNat, ⟨0, rfl, Nat.zero_le _, Sp.start _ _ S8⟩, ?_⟩⟩
  rintro _ w9 ⟨k, rfl, hk, A9⟩
  have nq5 : ∀ b, some b = qB q5 → w4.heap.size ≤ b ∧ b < w5.heap.size := fun b hb => hnew5 b hb.symm
  have B69 := (A9.choose_spec.2.2).blk B68 (fun e => by have := (nq5 _ e).2; omega)
  refine bc (fun hlt2 => ?_) (fun hge2 => ?_)
  · have hk' : k < l5 := by simpa using hlt2
    rw [wrapS (x := (k : Int) + 1) (by omega) (by omega)]
    obtain ⟨a, ha, hcs, hst⟩ := A9.step hk' ((-1) - (l2 : Int)) rfl
    exact ⟨_, _, _, (B69.cell0 1).trans rfl, onPtr_at ha ⟨by omega, by omega, hcs, fun w' e => ⟨⟨k + 1, by omega, hk', hst w' e⟩, meas hk'⟩⟩⟩
  have : k = l5 := by have := of_decide_eq_false hge2; omega
  subst this
  obtain ⟨xs9, S9, hx9, k9⟩ := A9.all
  clear A9
  have hno5' : ∀ b, some b = qB q5 → ¬ Own g5 o1 b := fun b hb => hno5 b hb.symm
  have nr5 : ∀ b, some b = qB q5 → ¬ OwnR gr7 o2 b := fun b hb ho => by
    rcases stR7.grow b ho with h1 | h1
    · exact nB b (by have := (nq5 b hb).1; omega) h1
    · have := (nq5 b hb).2
      have : w6.heap.size ≤ b := h1
      omega
  have G9 : InvG w9 bl (2 * l2 + 2) (l2 + 1) o1 g5 s' := ((((G5.chgN k6).chgN d6).chg stR7.chg (fun b hb ho => by
      rcases st5.grow b ho with h1 | h1
      · exact hB.A b h1 hb
      · exact nB b (by omega) hb)).chgN k8).chg k9 hno5'
  have R9 : InvR w9 br (l2 + 1) o2 gr7 r' := (R7.chgN k8).chg k9 nr5
  have hB9 : Bo w1 w9 bl br (2 * (l2 + 1)) (l2 + 1) o1 o2 g5 s' gr7 r' := by
    refine ⟨G9, R9, hS7, fun b h1 h2 => ?_, ?_, hB.bl, hB.br⟩
    · have h5 := (G5.own_lt h1).1
      rcases st5.grow b h1 with h1 | h1 <;> rcases stR7.grow b h2 with h2 | h2
      · exact hB.A b h1 h2
      · have := (hB.G.own_lt h1).1
        have : w6.heap.size ≤ b := h2
        omega
      · exact nB b (by omega) h2
      · have : w6.heap.size ≤ b := h2
        omega
    · obtain ⟨h1, h2, h3⟩ := hkm
      rw [h1, h2, h3]; exact hB.m
  have k39 : Chg (fun b => Own g o1 b ∨ OwnR gr o2 b) w3 w9 := ((((((k4.of_none _).trans' st5.chg (fun b hb => .inl (.inl hb))).trans' k6 (fun _ x => x.elim)).trans' d6 (fun _ x => x.elim)).trans' stR7.chg (fun b hb => .inl (.inr hb))).trans' k8 (fun _ x => x.elim)).trans' k9 (fun b hb => .inr (by have := (nq5 b hb).1; omega))
  have k19 : Chg none_ w1 w9 := P.k.up k39 fun b hb => by
    rcases hb with hb | hb
    · exact Nat.le_trans hB.bl (hB.G.own_lt hb).2
    · exact Nat.le_trans hB.br (hB.R.own_lt hb).2
  have K29 : KO En.int id 3 (Own g5 o1) w9 H2 := P.K2.chg k39 (fun b cs hs B => hs.resolve_right fun ho => hB.R.not_own B (by decide) ho) (fun b hb ho => (st5.grow b ho).resolve_right (by omega))
  have K39 : KO En.w3 (·.1) 47 none_ w9 H3 := P.K3.chg k39 (fun b cs hs B => (hB.ownNot hs B (by decide)).elim) (fun _ _ x => x)
  have K49 : KO En.i2 (·.1) 82 none_ w9 H4 := P.K4.chg k39 (fun b cs hs B => (hB.ownNot hs B (by decide)).elim) (fun _ _ x => x)
  have S29 := P.S2.chg k39 (fun b hb hs => by obtain ⟨cs, B⟩ := P.S2.blk hb; exact hB.ownNot hs B (by decide))
  have S39 := P.S3.chg k39 (fun b hb hs => by obtain ⟨cs, B⟩ := P.S3.blk hb; exact hB.ownNot hs B (by decide))
  have S49 := P.S4.chg k39 (fun b hb hs => by obtain ⟨cs, B⟩ := P.S4.blk hb; exact hB.ownNot hs B (by decide))
  have L2 := P.S2.len
  have L3 := P.S3.len
  have L4 := P.S4.len
  have B49 : Blk w9 w3.heap.size 32 #[.int .i64 op.task, .int .i64 op.kind, .int .i64 op.n, .int .i64 op.m] := k9.blk (k8.blk (stR7.chg.blk B46.drew (nB _ (by omega))) (fun x => x)) (fun e => by have := (nq5 _ e).1; omega)
  refine ⟨_, _, _, (B69.cell0 1).trans rfl, newBox fun w10 B10 k10 s10 => ?_⟩
  obtain ⟨q11, c11, w11, hrun, S11, k11, _, _⟩ := (S29.chgN k10).append1 (t := 30) (ty := 30) (x := (q5, k, c5)) elemH35 B10 (by simp only [maxLen]; omega) (by show (l2 + 1) * 24 ≤ _; omega) (k19.trans k10).size
  have hB11 := (hB9.chgN k10).chgT (S29.chgN k10) (.inl rfl) k11
  have K2a : KO En.int id 3 (Own g5 o1) w11 (H2 ++ [(q5, k, c5)]) := ((K29.chgN k10).push (c' := c5) (S9.chgN k10) (fun b hb => hno5 b hb) (fun x hx => by rw [hx9 x hx, L2])).chg k11 (fun b cs hb B => (noS (S29.chgN k10) (by decide) hb B).elim) (fun _ _ x => x)
  have K3a : KO En.w3 (·.1) 47 none_ w11 H3 := (K39.chgN k10).chg k11 (fun b cs hb B => (noS (S29.chgN k10) (by decide) hb B).elim) (fun _ _ x => x)
  have K4a : KO En.i2 (·.1) 82 none_ w11 H4 := (K49.chgN k10).chg k11 (fun b cs hb B => (noS (S29.chgN k10) (by decide) hb B).elim) (fun _ _ x => x)
  have S3a := (S39.chgN k10).chg k11 (fun b hb hs => by obtain ⟨cs, B⟩ := (S39.chgN k10).blk hb; exact noS (S29.chgN k10) (by decide) hs B)
  have S4a := (S49.chgN k10).chg k11 (fun b hb hs => by obtain ⟨cs, B⟩ := (S49.chgN k10).blk hb; exact noS (S29.chgN k10) (by decide) hs B)
  have B4a := k11.blk (k10.blk B49 (fun x => x)) (fun e => noS (S29.chgN k10) (by decide) e (k10.blk B49 (fun x => x)))
  have k1a : Chg none_ w1 w11 := (k19.trans k10).up k11 fun b hb => ((S29.chgN k10).lt hb.symm).2
  refine ⟨_, _, _, w11, hrun, Calls.use (waits34 hB11.G hB11.S.hf) ?_⟩
  rintro _ w12 ⟨q12, l12, c12, rfl, S12, hl12, k12⟩
  refine ⟨_, _, _, rfl, Calls.use (arcs35 (hB11.chgN k12).G hB11.S.small8 hB11.S.hf hB11.S.val) ?_⟩
  rintro _ w13 ⟨q13, l13, c13, rfl, S13, hl13, k13⟩
  refine ⟨_, _, _, rfl, Calls.use (rWaits37 ((hB11.chgN k12).chgN k13).R hB11.small) ?_⟩
  rintro _ w14 ⟨q14, l14, c14, rfl, S14, _, k14⟩
  rw [waits_same hB11.S] at S14
  refine ⟨_, _, _, rfl, Calls.use (same36 ((S12.chgN k13).chgN k14).re S14.re (by omega)) ?_⟩
  rintro _ w15 ⟨rfl, k15⟩
  have k1115 := k12.trans (k13.trans (k14.trans k15))
  refine ⟨_, rfl, bcF rfl (Calls.use (rArcs39 (hB11.chgN k1115).R hB11.small) ?_)⟩
  rintro _ w16 ⟨q15, l15, c15, rfl, S15, _, k16⟩
  rw [arcs_same hB11.S] at S15
  refine ⟨_, _, _, rfl, Calls.use (same38 (S13.chgN (k14.trans (k15.trans k16))).re S15.re (by omega)) ?_⟩
  rintro _ w17 ⟨rfl, k17⟩
  have k1317 := k14.trans (k15.trans (k16.trans k17))
  have S12a := S12.chgN (k13.trans k1317)
  have S13a := S13.chgN k1317
  have k1117 := k12.trans (k13.trans k1317)
  refine ⟨_, rfl, bcF rfl ⟨fun x w' => ∃ k : Nat, x = (k : Int) ∧ k ≤ l12 ∧ Sp En.w3 (·.1) ((-1) - (l2 : Int)) 47 w11.heap.size q12 l12 c12 w17 k w', fun x _ => l12 - x.toNat, ⟨0, rfl, Nat.zero_le _, Sp.start _ _ S12a⟩, ?_⟩⟩
  rintro _ w18 ⟨j, rfl, hj, A18⟩
  refine bc (fun hlt3 => ?_) (fun hge3 => ?_)
  · have hj' : j < l12 := by simpa using hlt3
    rw [wrapS (x := (j : Int) + 1) (by omega) (by omega)]
    obtain ⟨a, ha, hcs, hst⟩ := A18.step hj' ((-1) - (l2 : Int), 0, 0) rfl
    exact onPtr_at ha ⟨by omega, by omega, hcs, fun w' e => ⟨⟨j + 1, by omega, hj', hst w' e⟩, meas hj'⟩⟩
  have : j = l12 := by have := of_decide_eq_false hge3; omega
  subst this
  obtain ⟨xs18, S18, hx18, k18⟩ := A18.all
  clear A18
  have S13b := S13a.chg k18 (fun b hb hs => by obtain ⟨cs, B⟩ := S13a.blk hb; exact noS S12a (by decide) hs B)
  refine ⟨fun x w' => ∃ k : Nat, x = (k : Int) ∧ k ≤ l13 ∧ Sp En.i2 (·.1) ((-1) - (l2 : Int)) 82 w12.heap.size q13 l13 c13 w18 k w', fun x _ => l13 - x.toNat, ⟨0, rfl, Nat.zero_le _, Sp.start _ _ S13b⟩, ?_⟩
  rintro _ w19 ⟨m, rfl, hm, A19⟩
  refine bc (fun hlt4 => ?_) (fun hge4 => ?_)
  · have hm' : m < l13 := by simpa using hlt4
    rw [wrapS (x := (m : Int) + 1) (by omega) (by omega)]
    obtain ⟨a, ha, hcs, hst⟩ := A19.step hm' ((-1) - (l2 : Int), 0) rfl
    exact onPtr_at ha ⟨by omega, by omega, hcs, fun w' e => ⟨⟨m + 1, by omega, hm', hst w' e⟩, meas hm'⟩⟩
  have : m = l13 := by have := of_decide_eq_false hge4; omega
  subst this
  obtain ⟨xs19, S19, hx19, k19b⟩ := A19.all
  clear A19
  have S18b := S18.chg k19b (fun b hb hs => by obtain ⟨cs, B⟩ := S18.blk hb; exact noS S13b (by decide) hs B)
  have k1119 : Chg none_ w11 w19 := (k1117.up k18 fun b hb => (S12a.lt hb.symm).2).up k19b fun b hb => Nat.le_trans k12.size (S13b.lt hb.symm).2
  refine newBox fun w20 B20 k20 s20 => ?_
  have k1120 := k1119.trans k20
  obtain ⟨q21, c21, w21, hrun3, S21, k21, _, _⟩ := (S3a.chgN k1120).append1 (t := 72) (ty := 72) (x := (q12, j, c12)) elemH44 B20 (by simp only [maxLen]; omega) (by show (l3 + 1) * 24 ≤ _; omega) (k1a.trans k1120).size
  refine ⟨_, _, _, w21, hrun3, newBox fun w22 B22 k22 s22 => ?_⟩
  have h44 : ∀ {b : Nat} {t : TypeId} {cs : Array Value}, (44 : TypeId) ≠ t → some b = qB q3 → Blk w20 b t cs → False := fun ht hb B => noS (S3a.chgN k1120) ht hb B
  have S4b := ((S4a.chgN k1120).chg k21 (fun b hb hs => by obtain ⟨cs, B⟩ := (S4a.chgN k1120).blk hb; exact h44 (by decide) hs B)).chgN k22
  have S2b := ((S11.chgN k1120).chg k21 (fun b hb hs => by obtain ⟨cs, B⟩ := (S11.chgN k1120).blk hb; exact h44 (by decide) hs B)).chgN k22
  have k1a22 : Chg none_ w1 w22 := ((k1a.trans k1120).up k21 fun b hb => ((S3a.chgN k1120).lt hb.symm).2).trans k22
  obtain ⟨q23, c23, w23, hrun4, S23, k23, _, _⟩ := S4b.append1 (t := 73) (ty := 73) (x := (q13, m, c13)) elemH77 B22 (by simp only [maxLen]; omega) (by show (l4 + 1) * 24 ≤ _; omega) k1a22.size
  have h77 : ∀ {b : Nat} {t : TypeId} {cs : Array Value}, (77 : TypeId) ≠ t → some b = qB q4 → Blk w22 b t cs → False := fun ht hb B => noS S4b ht hb B
  have hB23 := (((hB11.chgN k1120).chgT (S3a.chgN k1120) (.inr (.inl rfl)) k21).chgN k22).chgT S4b (.inr (.inr (.inl rfl))) k23
  have S2c := S2b.chg k23 (fun b hb hs => by obtain ⟨cs, B⟩ := S2b.blk hb; exact h77 (by decide) hs B)
  have S3c := (S21.chgN k22).chg k23 (fun b hb hs => by obtain ⟨cs, B⟩ := (S21.chgN k22).blk hb; exact h77 (by decide) hs B)
  have K2c := (((K2a.chgN k1120).chg k21 (fun b cs hb B => (h44 (by decide) hb B).elim) (fun _ _ x => x)).chgN k22).chg k23 (fun b cs hb B => (h77 (by decide) hb B).elim) (fun _ _ x => x)
  have K3c : KO En.w3 (·.1) 47 none_ w23 (H3 ++ [(q12, j, c12)]) := ((((K3a.chgN k1120).push (c' := c12) (S18b.chgN k20) (fun _ _ x => x) (fun x hx => by rw [hx18 x hx, L3, e3])).chg k21 (fun b cs hb B => (h44 (by decide) hb B).elim) (fun _ _ x => x)).chgN k22).chg k23 (fun b cs hb B => (h77 (by decide) hb B).elim) (fun _ _ x => x)
  have K4c : KO En.i2 (·.1) 82 none_ w23 (H4 ++ [(q13, m, c13)]) := ((((K4a.chgN k1120).push (c' := c13) (S19.chgN k20) (fun _ _ x => x) (fun x hx => by rw [hx19 x hx, L4, e4])).chg k21 (fun b cs hb B => (h44 (by decide) hb B).elim) (fun _ _ x => x)).chgN k22).chg k23 (fun b cs hb B => (h77 (by decide) hb B).elim) (fun _ _ x => x)
  have k123 : Chg none_ w1 w23 := k1a22.up k23 fun b hb => (S4b.lt hb.symm).2
  have B4b := k22.blk (k21.blk (k1120.blk B4a (fun x => x)) (fun e => h44 (by decide) e (k1120.blk B4a (fun x => x)))) (fun x => x)
  have B4c := k23.blk B4b (fun e => h77 (by decide) e B4b)
  have d23 : Chg none_ w23 w23.drew := (Chg.refl none_ w23).drew
  have hBd := hB23.chgN d23
  refine ⟨_, _, _, w23, hrun4, fun p => p.block < w23.drew.heap.size, Calls.use (waits34 hBd.G hBd.S.hf) ?_⟩
  rintro _ w24 ⟨q24, l24, c24, rfl, S24, hl24, k24⟩
  refine ⟨_, _, _, rfl, k24.keeps, Calls.use (rWaits37 (hBd.chgN k24).R hBd.small) ?_⟩
  rintro _ w25 ⟨q25, l25, c25, rfl, S25, _, k25⟩
  rw [waits_same hBd.S] at S25
  have k2425 := k24.trans k25
  refine ⟨_, _, _, rfl, k2425.keeps, Calls.use (same36 (S24.chgN k25).re S25.re (by omega)) ?_⟩
  rintro _ w26 ⟨rfl, k26⟩
  have k2426 := k2425.trans k26
  refine ⟨_, rfl, k2426.keeps, bcF rfl (Calls.use (arcs35 (hBd.chgN k2426).G hBd.S.small8 hBd.S.hf hBd.S.val) ?_)⟩
  rintro _ w27 ⟨q27, l27, c27, rfl, S27, hl27, k27⟩
  have k2427 := k2426.trans k27
  refine ⟨_, _, _, rfl, k2427.keeps, Calls.use (rArcs39 (hBd.chgN k2427).R hBd.small) ?_⟩
  rintro _ w28 ⟨q28, l28, c28, rfl, S28, _, k28⟩
  rw [arcs_same hBd.S] at S28
  have k2428 := k2427.trans k28
  refine ⟨_, _, _, rfl, k2428.keeps, Calls.use (same38 (S27.chgN k28).re S28.re (by omega)) ?_⟩
  rintro _ w29 ⟨rfl, k29⟩
  have k2429 := k2428.trans k29
  have hB29 := hBd.chgN k2429
  refine ⟨_, rfl, k2429.keeps, bcF rfl ⟨_, B4c.drew.lt, (B4c.drew.cell 0).trans rfl, _, B4c.drew.lt, (B4c.drew.cell 0).trans rfl, Calls.use (holds21 hB29.G (by omega) (by rw [← hB29.S.rel.eM]; exact hB29.m.1) (by rw [← hB29.S.rel.eL]; exact hB29.m.2.1) op.task) ?_⟩⟩
  rintro _ w30 ⟨q30, l30, c30, rfl, S30, hl30, k30⟩
  have k2430 := k2429.trans k30
  refine ⟨_, _, _, rfl, k2430.keeps, Calls.use (rHolds40 (hBd.chgN k2430).R hBd.small op.task) ?_⟩
  rintro _ w31 ⟨q31, l31, c31, rfl, S31, _, k31⟩
  rw [holds_same hBd.S] at S31
  refine ⟨_, _, _, rfl, Calls.use (same36 (S30.chgN k31).re S31.re (by omega)) ?_⟩
  rintro _ w32 ⟨rfl, k32⟩
  have k2332 := d23.trans (k2430.trans (k31.trans k32))
  exact ⟨_, rfl, bcF rfl ⟨⟨l2 + 1, by omega, hi', g5, s', gr7, r', _, _, _, ⟨hB23.chgN k2332, S2c.chgN k2332, S3c.chgN k2332, S23.chgN k2332, K2c.chgN k2332, K3c.chgN k2332, K4c.chgN k2332, rfl, by omega, by omega, k123.trans k2332⟩⟩, meas hi'⟩⟩
end Full
end Go.Proofs.Ytibpbbjlecohiaa
