import Derived.Test.YtnloecggngmcjaaEvQ
set_option maxRecDepth 20000
namespace Go.Proofs.Ytnloecggngmcjaa
open Go Go.Vc Go.RowKit Go.Vc.Ring
theorem Began.both {w w1 w2 : World} {v : Vi} {rb : Nat} {k n kp : Int} (b : Began w1 v rb w2 k n kp) (hk : okNew k n kp = true) (c : Chg none_ w w1) : Both w v.B rb v ⟨rb, k, n, kp, none, 0, 0, none, 0, 0, []⟩ w2 :=
  ⟨⟨b.inv, rfl, fun x hx => Nat.le_trans c.size (b.own x hx), c.trans b.chg⟩, ⟨b.ref, Sl.nil _ _ _, Sl.nil _ _ _, Nat.le_trans c.size b.rown, Nat.zero_le _, by show 1 ≤ n ∧ n ≤ 256; simp [okNew] at hk; omega⟩, rfl, b.kind, b.keep, b.num, b.line.symm⟩
section
variable {W : World} {B rb : Nat} {v : Vi} {r : Rs} {w : World}
theorem Both.blk (h : Both W B rb v r w) {b : Nat} {t : TypeId} {cs : Array Value} (hb : Blk w b t cs) (h1 : t ≠ 53 := by decide) (h2 : t ≠ 50 := by decide) (h3 : t ≠ 60 := by decide) (h4 : t ≠ 64 := by decide) (h5 : t ≠ 3 := by decide) (h6 : t ≠ 4 := by decide) {w' : World} (c : Chg (fun k => v.own k ∨ r.own k) w w') : Blk w' b t cs := by
  refine c.blk hb ?_
  rintro (hk | hk | hk | hk)
  · exact h.G.inv.notOwn hb h1 h2 h3 hk
  · exact h4 (hb.type (hk ▸ h.R.hb)).1
  · obtain ⟨cs', hc⟩ := Sl.blk h.R.s1 hk
    exact h5 (hb.type hc).1
  · obtain ⟨cs', hc⟩ := Sl.blk h.R.s2 hk
    exact h6 (hb.type hc).1
/-- a new block that is written over keeps both -/
theorem Both.put (h : Both W B rb v r w) {b o : Nat} {t : TypeId} {cs : Array Value} (hb : Blk w b t cs) {vs : List Value} {w' : World} (e : w' = setCells (⟨b, o, none⟩ : Addr) 0 vs w) (hw : W.heap.size ≤ b) (h1 : t ≠ 53 := by decide) (h2 : t ≠ 50 := by decide) (h3 : t ≠ 60 := by decide) (h4 : t ≠ 64 := by decide) (h5 : t ≠ 3 := by decide) (h6 : t ≠ 4 := by decide) : Both W B rb v r w' := by
  have c : Chg (fun k => k = b) w w' := (Chg.refl _ w).sets' e (.inl rfl)
  have n1 := h.G.inv.notOwn hb h1 h2 h3
  refine ⟨h.G.chgS c (fun k hk => by subst hk; exact ⟨hw, n1⟩), h.R.chg c (fun k hk hc => ?_), h.rb, h.kind, h.keep, h.n, h.line⟩
  subst hc
  rcases hk with hk | hk | hk
  · exact h4 (hb.type (hk ▸ h.R.hb)).1
  · obtain ⟨cs', hc⟩ := Sl.blk h.R.s1 hk
    exact h5 (hb.type hc).1
  · obtain ⟨cs', hc⟩ := Sl.blk h.R.s2 hk
    exact h6 (hb.type hc).1
theorem Both.lines (h : Both W B rb v r w) : Calls Try.prog 15 #[.pointer (some (ad B))] w (Ret fun u w1 => ∃ q c, u = .slice q v.bs.length c ∧ Ints w1 q v.bs.length v.regs ∧ Both W B rb v r w1 ∧ Chg none_ w w1) := by
  refine Calls.mono h.G.ln ?_
  rintro _ w1 ⟨_, rfl, ⟨q, c, rfl⟩, ho, hc, _⟩
  exact ⟨_, rfl, q, c, rfl, Ints.own ho, h.next hc, hc⟩
theorem Both.rlines (h : Both W B rb v r w) : Calls Try.prog 21 #[.pointer (some (ad rb))] w (Ret fun u w1 => ∃ q c, u = .slice q r.line.length c ∧ Ints w1 q r.line.length v.regs ∧ Both W B rb v r w1 ∧ Chg none_ w w1) := by
  have := rline21 h.R
  rw [h.rb] at this
  refine Calls.mono this ?_
  rintro _ w1 ⟨_, rfl, ⟨q, c, rfl, hi⟩, hc⟩
  exact ⟨_, rfl, q, c, rfl, by rw [h.line] at hi ⊢; exact hi, h.next hc, hc⟩
theorem Both.marks (h : Both W B rb v r w) : Calls Try.prog 19 #[.pointer (some (ad B))] w (Ret fun u w1 => ∃ q c, u = .slice q (marksTo v.line v.n).length c ∧ Ints w1 q (marksTo v.line v.n).length (marksTo v.line v.n) ∧ Both W B rb v r w1 ∧ Chg none_ w w1) := by
  refine Calls.mono h.G.mks ?_
  rintro _ w1 ⟨_, rfl, ⟨q, c, rfl⟩, ho, hc, _⟩
  exact ⟨_, rfl, q, c, rfl, Ints.own ho, h.next hc, hc⟩
theorem Both.rmarks (h : Both W B rb v r w) : Calls Try.prog 22 #[.pointer (some (ad rb))] w (Ret fun u w1 => ∃ q c, u = .slice q (marksTo v.line v.n).length c ∧ Ints w1 q (marksTo v.line v.n).length (marksTo v.line v.n) ∧ Both W B rb v r w1 ∧ Chg none_ w w1) := by
  have := rmarks22 h.R h.nd
  rw [h.rb, h.line, ← h.n] at this
  refine Calls.mono this ?_
  rintro _ w1 ⟨_, rfl, ⟨q, c, rfl, hi⟩, hc⟩
  exact ⟨_, rfl, q, c, rfl, hi, h.next hc, hc⟩
theorem Both.small (h : Both W B rb v r w) : v.bs.length ≤ 256 ∧ r.line.length ≤ 256 ∧ (marksTo v.line v.n).length ≤ 256 :=
  ⟨Nat.le_trans h.G.inv.few h.G.inv.small, h.R.few, Nat.le_trans (marksTo_len _ _) h.G.inv.small⟩
end
theorem does6 (w : World) (k n kp : Int) (q : Option Addr) (l c : Nat) (ho : Ops w q l) (hl : l ≤ 9223372036854775807) : Calls Try.prog 6 #[.agg #[.int .i64 k, .int .i64 n, .int .i64 kp, .slice q l c]] w (Ret fun u w' => u = .bool true ∧ Chg none_ w w') := by
  refine f6.calls _ _ _ _ _ _ ?_
  unfold f6.wp
  intro w1 e1
  have X1 := new_blk e1
  have c1 := (Chg.refl none_ w).new' e1
  refine ⟨_, _, _, _, _, _, X1.reads0, Calls.use (begin10 w1 k n kp q l c) ?_⟩
  clear e1
  rintro _ w2 (⟨_, rfl, c2⟩ | ⟨hk, v0, rb, b, rfl⟩)
  · exact ⟨_, _, _, rfl, bcF rfl ⟨ptrOk_none _ _, bcT (by simp) ⟨rfl, c1.trans c2⟩⟩⟩
  refine ⟨_, _, _, rfl, bcF rfl ⟨ptrOk_none _ _, bcF (by simp) ⟨_, _, _, ((b.chg.blk X1 (fun x => x)).cell0 3).trans rfl, ?_⟩⟩⟩
  have H0 := b.both hk c1
  generalize v0.B = B at *
  clear b X1 c1
  refine ⟨fun x w3 => ∃ (i : Nat) (v : Vi) (r : Rs), x = i ∧ i ≤ l ∧ Both w B rb v r w3, fun x _ => l - x.toNat, ⟨0, v0, _, rfl, Nat.zero_le _, H0⟩, ?_⟩
  clear H0
  rintro x w3 ⟨i, v, r, rfl, hi, H⟩
  refine bc (fun hlt => ?_) (fun _ => ?_)
  · have hi' : i < l := by simpa using hlt
    obtain ⟨a, x, y, rfl, hr⟩ := ho.chg H.G.chg i hi'
    simp only [Int.toNat_natCast]
    have hM : l - ((i : Int) + 1).toNat < l - i := by omega
    refine onPtr_mk ⟨by omega, by omega, _, _, hr, fun w4 e4 => ?_⟩
    have X4 := new_blk e4
    have H4 := H.next ((Chg.refl none_ w3).new' e4)
    refine ⟨X4.canStore (by simp), fun w5 e5 => ?_⟩
    have X5 := X4.over e5 rfl
    have H5 := H4.put X4 e5 H.G.chg.size
    clear e4 e5 X4 H4
    rw [wrap1 (by omega) (by omega)]
    refine ⟨_, _, X5.reads0, Calls.use (does20 H5 x y) ?_⟩
    rintro _ w6 ⟨rfl, v', r', H6, _⟩
    exact ⟨_, rfl, bcF rfl ⟨⟨i + 1, v', r', by omega, hi', H6⟩, hM⟩⟩
  · obtain ⟨b1, b2, b3⟩ := H.small
    refine Calls.use H.lines ?_
    rintro _ w4 ⟨q4, c4, rfl, i4, H4, k4⟩
    refine ⟨_, _, _, rfl, Calls.use H4.rlines ?_⟩
    rintro _ w5 ⟨q5, c5, rfl, i5, H5, k5⟩
    refine ⟨_, _, _, rfl, Calls.use (same18 (i4.chg k5) i5 (by omega)) ?_⟩
    rintro _ w6 ⟨rfl, k6⟩
    have H6 := H5.next k6
    refine ⟨_, rfl, bcT (by simp) (Calls.use H6.marks ?_)⟩
    rintro _ w7 ⟨q7, c7, rfl, i7, H7, k7⟩
    refine ⟨_, _, _, rfl, Calls.use H7.rmarks ?_⟩
    rintro _ w8 ⟨q8, c8, rfl, i8, H8, k8⟩
    refine ⟨_, _, _, rfl, Calls.use (same18 (i7.chg k8) i8 (by omega)) ?_⟩
    rintro _ w9 ⟨rfl, k9⟩
    exact ⟨_, rfl, by simp, (H8.next k9).G.chg⟩
end Go.Proofs.Ytnloecggngmcjaa
