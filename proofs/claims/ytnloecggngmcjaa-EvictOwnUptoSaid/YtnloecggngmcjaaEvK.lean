import Derived.Test.YtnloecggngmcjaaEvI
set_option maxRecDepth 20000
namespace Go.Proofs.Ytnloecggngmcjaa
open Go Go.Vc Go.RowKit Go.Vc.Ring
theorem Ints.sl {w : World} {base l c : Nat} {e : TypeId} {q : Option Addr} {xs : List Int} (h : Sl w base e q l c (xs.map iv)) : Ints w q l xs :=
  ⟨by have := h.1; simpa using this, fun i x hx => by
    obtain ⟨a, rfl, hc⟩ := h.cell (i := i) (x := iv x) (by simp [hx])
    exact ⟨_, rfl, hc⟩⟩
theorem Good.chgS {W : World} {B : Nat} {v : Vi} {w w' : World} (h : Good W B v w) {S : Nat → Prop} (c : Chg S w w') (hS : ∀ k, S k → W.heap.size ≤ k ∧ ¬ v.own k) : Good W B v w' :=
  ⟨h.inv.chg c (fun k hk hs => (hS k hs).2 hk), h.B, h.own, h.chg.trans' c (fun k hk => .inr (hS k hk).1)⟩
theorem Inv.notOwn {v : Vi} {w : World} (h : Inv v w) {b : Nat} {t : TypeId} {cs : Array Value} (hb : Blk w b t cs) (h1 : t ≠ 53) (h2 : t ≠ 50) (h3 : t ≠ 60) : ¬ v.own b := by
  rintro (rfl | rfl | hk)
  · exact h1 (hb.type h.hv).1
  · exact h2 (hb.type h.ha).1
  · exact h3 (hb.type (h.hn b hk)).1
theorem Sl.blk {w : World} {base l c : Nat} {e : TypeId} {q : Option Addr} {xs : List Value} (h : Sl w base e q l c xs) {g : Nat} (hg : qBlock q = some g) : ∃ cs, Blk w g e cs := by
  rcases h.2 with ⟨rfl, _⟩ | ⟨g', off, cur, rfl, hb, hc, _⟩
  · simp [qBlock] at hg
  · simp [qBlock] at hg
    subst hg
    exact ⟨_, hc⟩
theorem Inv.slOwn {v : Vi} {w : World} (h : Inv v w) {base l c : Nat} {q : Option Addr} {xs : List Value} (s : Sl w base 3 q l c xs) : ∀ g, qBlock q = some g → ¬ v.own g := fun g hg => by
  obtain ⟨cs, hc⟩ := Sl.blk s hg
  exact h.notOwn hc (by decide) (by decide) (by decide)
abbrev un (xs : List Int) : Ln := xs.map fun x => (x, false)
theorem rot_un (xs : List Int) : rotL (un xs) = un xs := by cases xs <;> simp [rotL, un]
structure Old (W : World) (B : Nat) (v : Vi) (xs : List Int) (q : Option Addr) (l c : Nat) (w : World) : Prop where
  G : Good W B v w
  kind : v.kind = 1
  line : v.line = un xs
  sl : Sl w W.heap.size 3 q l c (xs.map iv)
theorem Old.chg {W : World} {B : Nat} {v : Vi} {xs : List Int} {q : Option Addr} {l c : Nat} {w w' : World} (h : Old W B v xs q l c w) (k : Chg none_ w w') : Old W B v xs q l c w' :=
  ⟨h.G.next k, h.kind, h.line, h.sl.chg k (fun _ _ hf => hf)⟩
theorem Old.step {W : World} {B : Nat} {v v' : Vi} {xs ys : List Int} {q : Option Addr} {l c : Nat} {w w' : World} (h : Old W B v xs q l c w) (g : Good W B v' w') (s : Step v w v' w') (hl : v'.line = un ys) :
    Good W B v' w' ∧ v'.kind = 1 ∧ v'.line = un ys ∧ Sl w' W.heap.size 3 q l c (xs.map iv) :=
  ⟨g, s.kind.trans h.kind, hl, h.sl.chg s.chg (h.G.inv.slOwn h.sl)⟩
theorem Old.len {W : World} {B : Nat} {v : Vi} {xs : List Int} {q : Option Addr} {l c : Nat} {w : World} (h : Old W B v xs q l c w) : xs.length = l ∧ l ≤ 256 := by
  have h1 := h.sl.1
  have h2 := congrArg List.length h.line
  have h3 := h.G.inv.few
  have h4 := h.G.inv.small
  simp [Vi.line] at h1 h2
  omega
theorem oldest4 (w : World) (z : Int) (q : Option Addr) (l c : Nat) (ho : Ops w q l) (hl : l ≤ 9223372036854775807) : Calls Try.prog 4 #[.int .i64 z, .slice q l c] w (Ret fun u w' => u = .bool true ∧ Chg none_ w w') := by
  refine f4.calls _ _ _ _ ?_
  unfold f4.wp
  refine Calls.use (new16 w 1 z 0) ?_
  rintro _ w1 (⟨hk, rfl, rfl⟩ | ⟨_, v0, b, rfl⟩)
  · refine ⟨_, _, rfl, Calls.use (awake17 w) ?_⟩
    rintro _ w2 ⟨rfl, c2⟩
    refine ⟨_, rfl, bcF rfl ⟨ptrOk_none _ _, bcF (by decide) ⟨ptrOk_none _ _, bcT (by simp) (bc (fun _ => ⟨rfl, c2⟩) (fun h => ⟨?_, c2⟩))⟩⟩⟩
    simp [okNew] at hk h ⊢
    omega
  refine ⟨_, _, rfl, Calls.use (awake17 w1) ?_⟩
  rintro _ w2 ⟨rfl, c2⟩
  refine ⟨_, rfl, bcF rfl ⟨ptrOk_none _ _, bcF (by simp) ⟨ptrOk_none _ _, bcF (by simp) ?_⟩⟩⟩
  have O0 : Old w v0.B v0 [] none 0 0 w2 := ⟨⟨b.inv.chg c2 (fun _ _ hf => hf), rfl, b.own, b.chg.trans c2⟩, b.kind, b.line, Sl.nil _ _ _⟩
  generalize v0.B = B at *
  clear b c2
  refine ⟨fun q1 l1 c1 x w3 => ∃ (i : Nat) (v : Vi) (xs : List Int), x = i ∧ i ≤ l ∧ Old w B v xs q1 l1 c1 w3, fun _ _ _ x _ => l - x.toNat, ⟨0, v0, [], rfl, Nat.zero_le _, O0⟩, ?_⟩
  clear O0
  rintro q1 l1 c1 x w3 ⟨i, v, xs, rfl, hi, O⟩
  refine bc (fun hlt => ?_) (fun _ => ?_)
  · have hi' : i < l := by simpa using hlt
    obtain ⟨a, x, y, rfl, hr⟩ := ho.chg O.G.chg i hi'
    simp only [Int.toNat_natCast]
    have hM : l - ((i : Int) + 1).toNat < l - i := by omega
    refine onPtr_mk ⟨by omega, by omega, _, _, hr, fun w4 e4 => ?_⟩
    have X4 := new_blk e4
    have O4 := O.chg ((Chg.refl none_ w3).new' e4)
    refine ⟨X4.canStore (by simp), fun w5 e5 => ?_⟩
    have X5 := X4.over e5 rfl
    have nb : ∀ g, qBlock q1 = some g → g ≠ w3.heap.size := fun g hg h => by have := (O.sl.lt hg).1; omega
    have c5 : Chg (fun k => k = w3.heap.size) w4 w5 := (Chg.refl _ w4).sets' e5 (.inl rfl)
    have O5 : Old w B v xs q1 l1 c1 w5 := ⟨O4.G.chgS c5 (fun k (hk : k = _) => ⟨hk ▸ O.G.chg.size, fun hc => by have := O.G.inv.lt hc; omega⟩), O.kind, O.line, O4.sl.chg c5 (fun g hg (h : g = _) => nb g hg h)⟩
    clear e4 e5 X4 O4 c5
    generalize w3.heap.size = xb at *
    rw [wrap1 (by omega) (by omega)]
    refine ⟨_, (X5.cell 0).trans rfl, bc (fun _ => ⟨_, (X5.cell0 1).trans rfl, Calls.use (O5.G.putIn y) ?_⟩) (fun _ => bc (fun _ => ⟨_, (X5.cell0 1).trans rfl, Calls.use (O5.G.hit y) ?_⟩) (fun _ => Calls.use O5.G.nxt ?_))⟩
    · rintro _ w6 ⟨rfl, v6, G6, s6, l6⟩
      have X6 := s6.chg.blk X5 (O5.G.inv.notOwn X5 (by decide) (by decide) (by decide))
      refine ⟨_, rfl, bc (fun h0 => ?_) (fun h0 => ?_)⟩
      · have hl6 : v6.line = un (xs ++ [y]) := by
          rw [l6, O5.line]
          rw [O5.line] at h0
          simp only [sealL] at h0 ⊢
          split
          · split
            · simp_all
            · simp [un]
          · simp_all
        obtain ⟨_, k6, _, t6⟩ := O5.step G6 s6 hl6
        refine ⟨_, (X6.cell0 1).trans rfl, fun w7 e7 => ?_⟩
        have t7 := t6.chg ((Chg.refl none_ w6).new' e7) (fun _ _ hf => hf)
        have G7 := G6.next ((Chg.refl none_ w6).new' e7)
        have hlen : l1 + 1 ≤ 256 := by
          have h1 := congrArg List.length hl6
          have h2 := G6.inv.few
          have h3 := G6.inv.small
          have h4 := t6.1
          simp [Vi.line] at h1 h4
          omega
        obtain ⟨q', c', w8, hrun, t8, c8, _⟩ := t7.append1 (P := Try.prog) (t := 36) (ty := 36) (z := .int .i64 0) (bytes := 8) Try.underlying36 (by kernel_rfl) rfl (new_blk e7) rfl (by simp only [maxLen]; omega) (by omega) G7.chg.size
        exact ⟨q', _, c', w8, hrun, ⟨i + 1, v6, xs ++ [y], by omega, hi', G7.chgS c8 (fun k hk => ⟨(t7.lt hk.symm).2, G7.inv.slOwn t7 k hk.symm⟩), k6, hl6, by simpa using t8⟩, hM⟩
      · have hl6 : v6.line = un xs := by
          rw [l6, O5.line]
          rw [O5.line] at h0
          simp only [sealL] at h0 ⊢
          split
          · split
            · rfl
            · simp_all
          · rfl
        obtain ⟨_, k6, _, t6⟩ := O5.step G6 s6 hl6
        exact ⟨⟨i + 1, v6, xs, by omega, hi', G6, k6, hl6, t6⟩, hM⟩
    · rintro _ w6 ⟨rfl, v6, G6, s6, l6⟩
      have hl6 : v6.line = un xs := by
        rw [l6, O5.line, O5.kind]
        simp only [hitL]
        split
        · rw [if_neg (by decide), if_neg (by decide)]
        · rfl
      obtain ⟨_, k6, _, t6⟩ := O5.step G6 s6 hl6
      exact ⟨_, rfl, ⟨i + 1, v6, xs, by omega, hi', G6, k6, hl6, t6⟩, hM⟩
    · rintro _ w6 ⟨rfl, v6, G6, s6, l6⟩
      have hl6 : v6.line = un xs := by rw [l6, O5.line, rot_un]
      obtain ⟨_, k6, _, t6⟩ := O5.step G6 s6 hl6
      have O6 : Old w B v6 xs q1 l1 c1 w6 := ⟨G6, k6, hl6, t6⟩
      obtain ⟨hx1, hx2⟩ := O6.len
      rw [O5.line, nextL, rot_un]
      cases xs with
      | nil =>
        subst hx1
        exact ⟨_, _, rfl, bcF (by simp) (bcF (by simp) (bcF (by simp) ⟨⟨i + 1, v6, [], by omega, hi', O6⟩, hM⟩))⟩
      | cons a t =>
        simp at hx1
        obtain ⟨a2, rfl, hc⟩ := t6.cell (i := 0) (x := iv a) (by simp)
        refine ⟨_, _, rfl, bcF (by simp; omega) (bcT (by simp) (onPtr_mk ⟨by omega, by omega, _, hc, bcF (by simp) (Calls.use (G6.free a) ?_)⟩))⟩
        rintro _ w7 ⟨rfl, v7, G7, s7, l7⟩
        have hbs : ∃ b tl, v6.bs = b :: tl ∧ v6.g.rg b = a ∧ tl.map v6.f = un t := by
          have := hl6
          simp only [Vi.line] at this
          cases hb : v6.bs with
          | nil => rw [hb] at this; simp [un] at this
          | cons b tl =>
            rw [hb] at this
            simp [un] at this
            exact ⟨b, tl, rfl, this.1.1, this.2⟩
        obtain ⟨b, tl, hb, hra, htl⟩ := hbs
        obtain ⟨j, hj, hrj⟩ := G6.inv.tabI b (by rw [hb]; simp)
        have hjn : j < v6.n := by
          rw [← G6.inv.len]
          rcases Nat.lt_or_ge j v6.arr.length with h1 | h1
          · exact h1
          · rw [List.getElem?_eq_none h1] at hj; cases hj
        have hfree : freeL v6.n v6.line a = (0, un t) := by
          have e1 : inR v6.n a = true := by simp [inR]; omega
          have e2 : has v6.line a = true := by rw [hl6]; simp [Ytnloecggngmcjaa.has, un]
          have e3 : rem v6.line a = un t := by
            rw [hl6]
            show rem ((a, false) :: un t) a = un t
            rw [rem, List.filter_cons_of_neg (by simp), ← htl]
            refine rem_none fun e he => ?_
            obtain ⟨y, hy, rfl⟩ := List.mem_map.1 he
            intro hc
            have := G6.inv.uniq (a := y) (b := b) (by rw [hb]; simp [hy]) (by rw [hb]; simp) (hc.trans hra.symm)
            subst this
            have hnd := (List.nodup_cons.1 G6.inv.ring.nodup).2
            rw [hb] at hnd
            exact (List.nodup_cons.1 hnd).1 hy
          simp only [freeL, e1, e2, e3, if_true]
        rw [hfree] at l7 ⊢
        obtain ⟨_, k7, _, t7⟩ := O6.step G7 s7 l7
        have t8 := t7.cut (n := 1) (by omega)
        refine ⟨_, rfl, bcF (by simp) (bcT (by simp) ⟨by omega, by omega, ⟨i + 1, v7, t, by omega, hi', G7, k7, l7, by simpa using t8⟩, hM⟩)⟩
  · refine Calls.use O.G.ln ?_
    rintro _ w4 ⟨⟨q4, c4, rfl⟩, ho4, hc4, G4⟩
    have O4 := O.chg hc4
    have f1 := O4.G.inv.few; have f2 := O4.G.inv.small
    refine ⟨_, _, _, rfl, Calls.use (same18 (Ints.own ho4) (Ints.sl O4.sl) (by omega)) ?_⟩
    rintro _ w5 ⟨rfl, c5⟩
    refine ⟨_, rfl, ?_, O4.G.chg.trans c5⟩
    simp [Vi.regs, O4.line, un, Function.comp_def]
end Go.Proofs.Ytnloecggngmcjaa
