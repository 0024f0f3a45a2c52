import Derived.Test.YtnloecggngmcjaaEvT
set_option maxRecDepth 20000
namespace Go.Proofs.Ytnloecggngmcjaa
open Go Go.Vc Go.RowKit Go.Vc.Ring
section
variable {W : World} {B rb B2 rb2 : Nat} {v v2 : Vi} {r r2 : Rs} {w : World}
theorem Both.lt (h : Both W B rb v r w) : ∀ k, v.own k ∨ r.own k → k < w.heap.size := fun _ hk => hk.elim h.G.inv.lt (fun h1 => (h.R.lt h1).1)
theorem Both.ge (h : Both W B rb v r w) : ∀ k, v.own k ∨ r.own k → W.heap.size ≤ k := fun k hk => hk.elim (h.G.own k) (fun h1 => (h.R.lt h1).2)
theorem Both.chgS (h : Both W B rb v r w) {S : Nat → Prop} {w' : World} (c : Chg S w w') (h1 : ∀ k, S k → W.heap.size ≤ k) (h2 : ∀ k, v.own k ∨ r.own k → ¬ S k) : Both W B rb v r w' :=
  ⟨h.G.chgS c (fun k hk => ⟨h1 k hk, fun hc => h2 k (.inl hc) hk⟩), h.R.chg c (fun k hk => h2 k (.inr hk)), h.rb, h.kind, h.keep, h.n, h.line⟩
structure Pair (W : World) (B rb B2 rb2 : Nat) (v : Vi) (r : Rs) (v2 : Vi) (r2 : Rs) (w : World) : Prop where
  one : Both W B rb v r w
  two : Both W B2 rb2 v2 r2 w
  apart : ∀ k, v2.own k ∨ r2.own k → ¬ (v.own k ∨ r.own k)
theorem Pair.next (h : Pair W B rb B2 rb2 v r v2 r2 w) {w' : World} (c : Chg none_ w w') : Pair W B rb B2 rb2 v r v2 r2 w' := ⟨h.one.next c, h.two.next c, h.apart⟩
theorem Pair.swap (h : Pair W B rb B2 rb2 v r v2 r2 w) : Pair W B2 rb2 B rb v2 r2 v r w := ⟨h.two, h.one, fun k h1 h2 => h.apart k h2 h1⟩
theorem Pair.does (h : Pair W B rb B2 rb2 v r v2 r2 w) (a b : Int) : Calls Try.prog 20 #[.pointer (some (ad B)), .pointer (some (ad rb)), .agg #[.int .i64 a, .int .i64 b]] w (Ret fun u w' => u = .bool true ∧ ∃ v' r', Pair W B rb B2 rb2 v' r' v2 r2 w' ∧ Moves v r w v' r' w') := by
  refine Calls.mono (does20 h.one a b) ?_
  rintro _ w' ⟨_, rfl, rfl, v', r', H, m⟩
  refine ⟨_, rfl, rfl, v', r', ⟨H, h.two.chgS m.chg h.one.ge h.apart, fun k h1 h2 => ?_⟩, m⟩
  rcases m.own k h2 with h3 | h3
  · exact h.apart k h1 h3
  · have := h.two.lt k h1
    omega
theorem Moves.blk {v' : Vi} {r' : Rs} {w' : World} (m : Moves v r w v' r' w') (h : Both W B rb v r w) {b : Nat} {cs : Array Value} (hb : Blk w b 30 cs) : Blk w' b 30 cs := h.blk hb (by decide) (by decide) (by decide) (by decide) (by decide) (by decide) m.chg
end
theorem forks8 (w : World) (k n kp : Int) (q : Option Addr) (l c : Nat) (qm : Option Addr) (lm cm : Nat) (ho : Ops w q l) (hl : l ≤ 9223372036854775807) (hom : Ops w qm lm) (hlm : lm ≤ 9223372036854775807) :
    Calls Try.prog 8 #[.agg #[.int .i64 k, .int .i64 n, .int .i64 kp, .slice q l c], .slice qm lm cm] w (Ret fun u w' => u = .bool true ∧ Chg none_ w w') := by
  refine f8.calls _ _ _ _ _ _ _ _ _ ?_
  unfold f8.wp
  intro w1 e1
  have X1 := new_blk e1
  have c1 := (Chg.refl none_ w).new' e1
  refine ⟨_, _, _, _, _, _, X1.reads0, Calls.use (begin10 w1 k n kp q l c) ?_⟩
  clear e1
  rintro _ w2 (⟨_, rfl, c2⟩ | ⟨hk, v0, rb, b, rfl⟩)
  · exact ⟨_, _, _, rfl, bcF rfl ⟨ptrOk_none _ _, bcT (by simp) ⟨rfl, c1.trans c2⟩⟩⟩
  refine ⟨_, _, _, rfl, bcF rfl ⟨ptrOk_none _ _, bcF (by simp) ⟨_, _, _, ((b.chg.blk X1 (fun x => x)).cell0 3).trans rfl, ?_⟩⟩⟩
  have H0 := b.both hk c1
  generalize v0.B = B at *
  clear b X1 c1
  refine ⟨fun x w3 => ∃ (i : Nat) (v : Vi) (r : Rs), x = i ∧ i ≤ l ∧ Both w B rb v r w3 ∧ okNew r.k r.n r.kp = true, fun x _ => l - x.toNat, ⟨0, v0, _, rfl, Nat.zero_le _, H0, hk⟩, ?_⟩
  clear H0 hk
  rintro x w3 ⟨i, v, r, rfl, hi, H, hk⟩
  refine bc (fun hlt => ?_) (fun _ => ?_)
  · have hi' : i < l := by simpa using hlt
    obtain ⟨a, x, y, rfl, hr⟩ := ho.chg H.G.chg i hi'
    simp only [Int.toNat_natCast]
    have hM : l - ((i : Int) + 1).toNat < l - i := by omega
    refine onPtr_mk ⟨by omega, by omega, _, _, hr, fun w4 e4 => ?_⟩
    have X4 := new_blk e4
    have H4 := H.next ((Chg.refl none_ w3).new' e4)
    refine ⟨X4.canStore (by simp), fun w5 e5 => ?_⟩
    have X5 := X4.over e5 rfl
    have H5 := H4.put X4 e5 H.G.chg.size
    clear e4 e5 X4 H4
    rw [wrap1 (by omega) (by omega)]
    refine ⟨_, _, X5.reads0, Calls.use (does20 H5 x y) ?_⟩
    rintro _ w6 ⟨rfl, v', r', H6, m6⟩
    exact ⟨_, rfl, bcF rfl ⟨⟨i + 1, v', r', by omega, hi', H6, by rw [m6.same.1, m6.same.2.1, m6.same.2.2]; exact hk⟩, hM⟩⟩
  · have hkv : okNew v.kind v.n v.keep = true := by
      have hn := H.R.num
      rw [H.kind, H.keep, H.n, show ((r.n.toNat : Nat) : Int) = r.n by omega]; exact hk
    have fk := fork23 H.G.inv hkv
    rw [H.G.B] at fk
    refine Calls.use fk ?_
    rintro _ w4 ⟨v2, rfl, F, lf, kf, pf, nf⟩
    have H4 := H.next F.chg
    have fr := rfork24 H4.R
    rw [H4.rb] at fr
    refine ⟨_, rfl, Calls.use fr ?_⟩
    rintro _ w5 ⟨r2, rfl, R, lr, kr, nr, pr, k5⟩
    have H5 := H4.next k5
    have F5 := F.next k5
    have w34 := F.chg.size
    have P5 : Pair w B rb v2.B r2.rb v r v2 r2 w5 := ⟨H5, ⟨⟨F5.inv, rfl, fun x hx => Nat.le_trans H.G.chg.size (F.own x hx), H.G.chg.trans F5.chg⟩, R.lower H4.G.chg.size, rfl, by rw [kf, kr, H.kind], by rw [pf, pr, H.keep], by rw [nf, nr, H.n], by rw [lr, lf, H.line]⟩, fun x hx hy => by
      have h1 := H.lt x hy
      rcases hx with hx | hx
      · have := F.own x hx; omega
      · have := (R.lt hx).2; omega⟩
    generalize v2.B = B2 at *
    generalize r2.rb = rb2 at *
    clear F R F5 H5 H4 fk fr lf kf pf nf lr kr nr pr k5 w34 hkv hk H
    refine ⟨_, rfl, ptrOk_none _ _, bcF (by simp) ⟨fun x w9 => ∃ (i : Nat) (v : Vi) (r : Rs) (v2 : Vi) (r2 : Rs), x = i ∧ i ≤ lm ∧ Pair w B rb B2 rb2 v r v2 r2 w9, fun x _ => lm - x.toNat, ⟨0, v, r, v2, r2, rfl, Nat.zero_le _, P5⟩, ?_⟩⟩
    clear P5
    rintro x w9 ⟨i, v, r, v2, r2, rfl, hi, P⟩
    refine bc (fun hlt => ?_) (fun _ => ?_)
    · have hi' : i < lm := by simpa using hlt
      obtain ⟨a, x, y, rfl, hr⟩ := hom.chg P.one.G.chg i hi'
      simp only [Int.toNat_natCast]
      have hM : lm - ((i : Int) + 1).toNat < lm - i := by omega
      refine onPtr_mk ⟨by omega, by omega, _, _, hr, fun w10 e10 => ?_⟩
      have X10 := new_blk e10
      have P10 := P.next ((Chg.refl none_ w9).new' e10)
      refine ⟨X10.canStore (by simp), fun w11 e11 => ?_⟩
      have X11 := X10.over e11 rfl
      have P11 : Pair w B rb B2 rb2 v r v2 r2 w11 := ⟨P10.one.put X10 e11 P.one.G.chg.size, P10.two.put X10 e11 P.one.G.chg.size, P.apart⟩
      clear e10 e11 X10 P10
      rw [wrap1 (by omega) (by omega)]
      refine ⟨by decide, bc (fun h0 => ?_) (fun h0 => ?_)⟩
      · have h0' : Int.tmod (i : Int) 2 = 0 := by simpa using h0
        refine ⟨_, _, X11.reads0, Calls.use (P11.does x y) ?_⟩
        rintro _ w12 ⟨rfl, v', r', P12, _⟩
        exact ⟨_, rfl, bcF rfl ⟨by decide, bcF (by rw [h0']; decide) ⟨⟨i + 1, v', r', v2, r2, by omega, hi', P12⟩, hM⟩⟩⟩
      · refine ⟨by decide, bc (fun _ => ⟨_, _, X11.reads0, Calls.use (P11.swap.does x y) ?_⟩) (fun _ => ⟨⟨i + 1, v, r, v2, r2, by omega, hi', P11⟩, hM⟩)⟩
        rintro _ w12 ⟨rfl, v', r', P12, _⟩
        exact ⟨_, rfl, bcF rfl ⟨⟨i + 1, v, r, v', r', by omega, hi', P12.swap⟩, hM⟩⟩
    · obtain ⟨a1, a2, a3⟩ := P.one.small
      obtain ⟨b1, b2, b3⟩ := P.two.small
      refine Calls.use P.one.lines ?_
      rintro _ w10 ⟨q10, c10, rfl, i10, H10, k10⟩
      refine ⟨_, _, _, rfl, Calls.use H10.rlines ?_⟩
      rintro _ w11 ⟨q11, c11, rfl, i11, H11, k11⟩
      refine ⟨_, _, _, rfl, Calls.use (same18 (i10.chg k11) i11 (by omega)) ?_⟩
      rintro _ w12 ⟨rfl, k12⟩
      have P12 := P.next ((k10.trans k11).trans k12)
      refine ⟨_, rfl, bcT (by simp) (Calls.use P12.two.lines ?_)⟩
      rintro _ w13 ⟨q13, c13, rfl, i13, H13, k13⟩
      refine ⟨_, _, _, rfl, Calls.use H13.rlines ?_⟩
      rintro _ w14 ⟨q14, c14, rfl, i14, H14, k14⟩
      refine ⟨_, _, _, rfl, Calls.use (same18 (i13.chg k14) i14 (by omega)) ?_⟩
      rintro _ w15 ⟨rfl, k15⟩
      have P15 := P12.next ((k13.trans k14).trans k15)
      refine ⟨_, rfl, bcT (by simp) (Calls.use P15.one.marks ?_)⟩
      rintro _ w16 ⟨q16, c16, rfl, i16, H16, k16⟩
      refine ⟨_, _, _, rfl, Calls.use H16.rmarks ?_⟩
      rintro _ w17 ⟨q17, c17, rfl, i17, H17, k17⟩
      refine ⟨_, _, _, rfl, Calls.use (same18 (i16.chg k17) i17 (by omega)) ?_⟩
      rintro _ w18 ⟨rfl, k18⟩
      have P18 := P15.next ((k16.trans k17).trans k18)
      refine ⟨_, rfl, bcT (by simp) (Calls.use P18.two.marks ?_)⟩
      rintro _ w19 ⟨q19, c19, rfl, i19, H19, k19⟩
      refine ⟨_, _, _, rfl, Calls.use H19.rmarks ?_⟩
      rintro _ w20 ⟨q20, c20, rfl, i20, H20, k20⟩
      refine ⟨_, _, _, rfl, Calls.use (same18 (i19.chg k20) i20 (by omega)) ?_⟩
      rintro _ w21 ⟨rfl, k21⟩
      exact ⟨_, rfl, by simp, (H20.next k21).G.chg⟩
end Go.Proofs.Ytnloecggngmcjaa
