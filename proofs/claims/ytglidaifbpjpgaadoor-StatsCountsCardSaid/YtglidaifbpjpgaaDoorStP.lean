import Derived.Test.YtglidaifbpjpgaaDoorStO
set_option maxRecDepth 20000
namespace Go.Proofs.YtglidaifbpjpgaaDoor
open Go Go.Vc Go.RowKit
/-! # two histograms, and the document's -/
structure Eqs (h r : Hs) : Prop where
  bs : r.bs = h.bs
  cs : r.cs = h.cs
  tot : r.tot = h.tot
  sum : r.sum = h.sum
section
variable {h r k q : Hs}
theorem Eqs.can (e : Eqs h r) (n : Int) : r.can n = h.can n := by simp [Hs.can, e.tot]
theorem Eqs.add (e : Eqs h r) (n : Int) : Eqs (h.add n) (r.add n) := by
  have hc := e.can n
  unfold Hs.add
  rw [hc]
  split
  · exact ⟨e.bs, by simp [e.bs, e.cs], by simp [e.tot], by simp [e.sum]⟩
  · exact e
theorem Eqs.mer (e : Eqs h r) (f : Eqs k q) : mergeE r q = mergeE h k := by simp [mergeE, e.bs, f.bs, e.tot, f.tot]
theorem Eqs.merge (e : Eqs h r) (f : Eqs k q) : Eqs (h.merge k) (r.merge q) := by
  have hc := e.mer f
  unfold Hs.merge
  rw [hc]
  split
  · exact ⟨e.bs, by simp [e.cs, f.cs], by simp [e.tot, f.tot], by simp [e.sum, f.sum]⟩
  · exact e
theorem rown_own {k : Nat} (h : Hs) (hk : h.rown k) : h.own k := by
  rcases hk with hk | hk
  · exact .inl hk
  · exact .inr (.inr hk)
end
structure Pair (W w : World) (h r : Hs) : Prop where
  H : HI w W.heap.size h
  R : RI w W.heap.size r
  e : Eqs h r
  d : ∀ x, h.own x → ¬ r.own x
structure Quad (W w : World) (h r k q : Hs) : Prop where
  a : Pair W w h r
  b : Pair W w k q
  d : ∀ x, (h.own x ∨ r.own x) → ¬ (k.own x ∨ q.own x)
  chg : Chg none_ W w
section
variable {W w w' : World} {h r k q h' r' : Hs}
theorem Pair.chg (p : Pair W w h r) {S : Nat → Prop} (c : Chg S w w') (hS : ∀ x, (h.own x ∨ r.own x) → ¬ S x) : Pair W w' h r :=
  ⟨p.H.chg c fun x hx => hS x (.inl hx), p.R.chg c fun x hx => hS x (.inr hx), p.e, p.d⟩
theorem Pair.lt (p : Pair W w h r) {x : Nat} (hx : h.own x ∨ r.own x) : x < w.heap.size ∧ W.heap.size ≤ x := by
  rcases hx with hx | hx
  · exact p.H.ownLt hx
  · exact p.R.ownLt hx
theorem Quad.swap (T : Quad W w h r k q) : Quad W w k q h r := ⟨T.b, T.a, fun x h1 h2 => T.d x h2 h1, T.chg⟩
theorem Quad.next (T : Quad W w h r k q) (c : Chg none_ w w') : Quad W w' h r k q := ⟨T.a.chg c fun _ _ x => x, T.b.chg c fun _ _ x => x, T.d, T.chg.trans c⟩
theorem Quad.setA (T : Quad W w h r k q) (H : HI w' W.heap.size h') (R : RI w' W.heap.size r') (eh : h'.own = h.own) (er : r'.own = r.own) (e : Eqs h' r') (c : Chg (fun x => h.own x ∨ r.own x) w w') : Quad W w' h' r' k q :=
  ⟨⟨H, R, e, by rw [eh, er]; exact T.a.d⟩, T.b.chg c fun x hx hs => T.d x hs hx, by rw [eh, er]; exact T.d, T.chg.up c fun g hg => (T.a.lt hg).2⟩
theorem Quad.box (T : Quad W w h r k q) {b : Nat} (hb : w.heap.size ≤ b) : ¬ (h.own b ∨ r.own b) := fun hx => by have := (T.a.lt hx).1; omega
end
/-- a call: of one of the two -/
structure OpE where
  kind : Int
  other : Bool
  n : Int
  m : Int
def En.op : En OpE := ⟨4, fun x => [.int .i64 x.kind, .bool x.other, .int .i64 x.n, .int .i64 x.m], fun _ => rfl, fun _ v hv => by simp at hv; rcases hv with rfl | rfl | rfl | rfl <;> rfl, by decide⟩
theorem counts6 {w : World} {q1 q2 q3 : Option Addr} {l1 c1 l2 c2 l3 c3 : Nat} {xs ys : List Int} {os : List OpE} (h1 : RE En.int w q1 l1 xs) (h2 : RE En.int w q2 l2 ys) (h3 : RE En.op w q3 l3 os) (hl1 : l1 ≤ 17592186044416) (hl2 : l2 ≤ 17592186044416) (hl3 : l3 ≤ 17592186044416) (hw : ∀ o ∈ os, -9223372036854775808 ≤ o.n ∧ o.n ≤ 9223372036854775807) :
    Calls Tryd.prog 6 #[.agg #[.slice q1 l1 c1, .slice q2 l2 c2, .slice q3 l3 c3]] w (Ret fun v w' => v = .bool true ∧ Chg none_ w w') := by
  refine f6.calls _ _ _ _ _ _ _ _ _ ?_
  unfold f6.wp
  refine newBox fun w1 A1 k1 z1 w2 e2 => ?_
  have k12 := (Chg.refl none_ w1).new' e2
  have A2 := k12.blk A1 (fun x => x)
  have k2 := k1.trans k12
  obtain ⟨q4, c4, w3, hr3, s3, k23, hq4, hn4⟩ := append_lit (c := c1) (empty_lit e2) (Chg.refl none_ w2) (h1.chg k2) hl1 k12.size
  have k13 : Chg none_ w1 w3 := k12.up k23 (fun g hg => by omega)
  have A3 := k13.blk A1 (fun x => x)
  have k3 := k1.trans k13
  refine ⟨_, _, _, (A2.cell 0).trans rfl, q4, l1, c4, w3, hr3, Calls.use (new18 s3.re (by omega) (fun hq => absurd hq hn4)) ?_⟩
  rintro _ w4 ⟨k34, r4⟩
  have A4 := k34.blk A3 (fun x => x)
  have k4 := k3.trans k34
  have z3 := k3.size
  obtain ⟨p1, n1, hv1, hp1⟩ : ∃ (p1 : Option Addr) (n1 : Int), _ = Value.tuple #[.pointer p1, .int .i64 n1] ∧ ((¬ OkB xs ∧ p1 = none ∧ n1 = 280) ∨ (OkB xs ∧ n1 = 0 ∧ ∃ s : Hs, HI w4 w3.heap.size s ∧ p1 = some (ad s.b) ∧ s.bs = xs ∧ s.cs = List.replicate (l1 + 1) 0 ∧ s.tot = 0 ∧ s.sum = 0)) := by
    rcases r4 with ⟨h, e⟩ | ⟨h, s, hs, a, b, c, d, e⟩
    · exact ⟨none, 280, e, .inl ⟨h, rfl, rfl⟩⟩
    · exact ⟨_, _, e, .inr ⟨h, rfl, s, hs, rfl, a, b, c, d⟩⟩
  clear r4
  subst hv1
  refine ⟨_, _, rfl, _, _, _, (A4.cell 0).trans rfl, Calls.use (refNew19 (h1.chg k4) (by omega)) ?_⟩
  rintro _ w5 ⟨k45, r5⟩
  obtain ⟨p2, n2, hv2, hp2⟩ : ∃ (p2 : Option Addr) (n2 : Int), _ = Value.tuple #[.pointer p2, .int .i64 n2] ∧ ((¬ OkB xs ∧ p2 = none ∧ n2 = 280) ∨ (OkB xs ∧ n2 = 0 ∧ ∃ s : Hs, RI w5 w4.heap.size s ∧ p2 = some (ad s.b) ∧ s.bs = xs ∧ s.cs = List.replicate (l1 + 1) 0 ∧ s.tot = 0 ∧ s.sum = 0)) := by
    rcases r5 with ⟨h, e⟩ | ⟨h, s, hs, a, b, c, d, e⟩
    · exact ⟨none, 280, e, .inl ⟨h, rfl, rfl⟩⟩
    · exact ⟨_, _, e, .inr ⟨h, rfl, s, hs, rfl, a, b, c, d⟩⟩
  clear r5
  subst hv2
  have A5 := k45.blk A4 (fun x => x)
  have k5 := k4.trans k45
  refine ⟨_, _, rfl, fun w6 e6 => ?_⟩
  have k56 := (Chg.refl none_ w5).new' e6
  have A6 := k56.blk A5 (fun x => x)
  obtain ⟨q7, c7, w7, hr7, s7, k67, hq7, hn7⟩ := append_lit (c := c2) (empty_lit e6) (Chg.refl none_ w6) (h2.chg (k5.trans k56)) hl2 k56.size
  have k57 : Chg none_ w5 w7 := k56.up k67 (fun g hg => by omega)
  have A7 := k57.blk A5 (fun x => x)
  have k7 := k5.trans k57
  refine ⟨_, _, _, (A6.cell0 1).trans rfl, q7, l2, c7, w7, hr7, Calls.use (new18 s7.re (by omega) (fun hq => absurd hq hn7)) ?_⟩
  rintro _ w8 ⟨k78, r8⟩
  obtain ⟨p3, n3, hv3, hp3⟩ : ∃ (p3 : Option Addr) (n3 : Int), _ = Value.tuple #[.pointer p3, .int .i64 n3] ∧ ((¬ OkB ys ∧ p3 = none ∧ n3 = 280) ∨ (OkB ys ∧ n3 = 0 ∧ ∃ s : Hs, HI w8 w7.heap.size s ∧ p3 = some (ad s.b) ∧ s.bs = ys ∧ s.cs = List.replicate (l2 + 1) 0 ∧ s.tot = 0 ∧ s.sum = 0)) := by
    rcases r8 with ⟨h, e⟩ | ⟨h, s, hs, a, b, c, d, e⟩
    · exact ⟨none, 280, e, .inl ⟨h, rfl, rfl⟩⟩
    · exact ⟨_, _, e, .inr ⟨h, rfl, s, hs, rfl, a, b, c, d⟩⟩
  clear r8
  subst hv3
  have A8 := k78.blk A7 (fun x => x)
  have k8 := k7.trans k78
  refine ⟨_, _, rfl, _, _, _, (A8.cell0 1).trans rfl, Calls.use (refNew19 (h2.chg k8) (by omega)) ?_⟩
  rintro _ w9 ⟨k89, r9⟩
  obtain ⟨p4, n4, hv4, hp4⟩ : ∃ (p4 : Option Addr) (n4 : Int), _ = Value.tuple #[.pointer p4, .int .i64 n4] ∧ ((¬ OkB ys ∧ p4 = none ∧ n4 = 280) ∨ (OkB ys ∧ n4 = 0 ∧ ∃ s : Hs, RI w9 w8.heap.size s ∧ p4 = some (ad s.b) ∧ s.bs = ys ∧ s.cs = List.replicate (l2 + 1) 0 ∧ s.tot = 0 ∧ s.sum = 0)) := by
    rcases r9 with ⟨h, e⟩ | ⟨h, s, hs, a, b, c, d, e⟩
    · exact ⟨none, 280, e, .inl ⟨h, rfl, rfl⟩⟩
    · exact ⟨_, _, e, .inr ⟨h, rfl, s, hs, rfl, a, b, c, d⟩⟩
  clear r9
  subst hv4
  have A9 := k89.blk A8 (fun x => x)
  have k9 := k8.trans k89
  refine ⟨_, _, rfl, Calls.use (awake12 w9) ?_⟩
  rintro _ w10 ⟨rfl, k910⟩
  have A10 := k910.blk A9 (fun x => x)
  have k10 := k9.trans k910
  have e12 : n1 = n2 ∧ (p1 = none ↔ p2 = none) := by
    rcases hp1 with ⟨a, b, c⟩ | ⟨a, b, _, _, c, _⟩ <;> rcases hp2 with ⟨a', b', c'⟩ | ⟨a', b', _, _, c', _⟩
    · subst b c b' c'; exact ⟨rfl, by simp⟩
    · exact absurd a' a
    · exact absurd a a'
    · subst b c b' c'; exact ⟨rfl, by simp⟩
  have e34 : n3 = n4 ∧ (p3 = none ↔ p4 = none) := by
    rcases hp3 with ⟨a, b, c⟩ | ⟨a, b, _, _, c, _⟩ <;> rcases hp4 with ⟨a', b', c'⟩ | ⟨a', b', _, _, c', _⟩
    · subst b c b' c'; exact ⟨rfl, by simp⟩
    · exact absurd a' a
    · exact absurd a a'
    · subst b c b' c'; exact ⟨rfl, by simp⟩
  obtain ⟨f1, f2⟩ := e12
  obtain ⟨f3, f4⟩ := e34
  refine ⟨_, rfl, bcF rfl (bcF (by simp [f1]) (bcF (by simp [f3]) ⟨ptrOk_none _ _, ptrOk_none _ _, bcF (by simp [f2]) ⟨ptrOk_none _ _, ptrOk_none _ _, bcF (by simp [f4]) ⟨ptrOk_none _ _, bc (fun _ => ⟨rfl, k10⟩) (fun g2 => ⟨ptrOk_none _ _, bc (fun _ => ⟨rfl, k10⟩) (fun g4 => ?_)⟩)⟩⟩⟩))⟩
  have g2 : p2 ≠ none := of_decide_eq_false g2
  have g4 : p4 ≠ none := of_decide_eq_false g4
  clear hr3 hr7 hq4 hq7 hn4 hn7 s3 s7 f1 f2 f3 f4
  rcases hp2 with ⟨_, hb, _⟩ | ⟨okx, _, r, Rr, rfl, rb, rc, rt, rs⟩
  · exact absurd hb g2
  rcases hp4 with ⟨_, hb, _⟩ | ⟨oky, _, q, Rq, rfl, qb, qc, qt, qs⟩
  · exact absurd hb g4
  rcases hp1 with ⟨hno, _⟩ | ⟨_, _, h, Hh, rfl, hb, hc, ht, hs⟩
  · exact absurd okx hno
  rcases hp3 with ⟨hno, _⟩ | ⟨_, _, k, Hk, rfl, kb, kc, kt, ks⟩
  · exact absurd oky hno
  have k510 := ((k57.trans k78).trans k89).trans k910
  have k810 := k89.trans k910
  have zz4 := k4.size
  have zz5 := k45.size
  have zz7 := k57.size
  have zz8 := k78.size
  have zz9 := k89.size
  have Q10 : Quad w w10 h r k q := by
    refine ⟨⟨(Hh.chgN (k45.trans k510)).lower (by omega), (Rr.chgN k510).lower (by omega), ⟨rb.trans hb.symm, rc.trans hc.symm, rt.trans ht.symm, rs.trans hs.symm⟩, fun x h1 h2 => ?_⟩, ⟨(Hk.chgN k810).lower (by omega), (Rq.chgN k910).lower (by omega), ⟨qb.trans kb.symm, qc.trans kc.symm, qt.trans kt.symm, qs.trans ks.symm⟩, fun x h1 h2 => ?_⟩, fun x h1 h2 => ?_, k10⟩
    · have := (Hh.ownLt h1).1; have := (Rr.ownLt h2).2; omega
    · have := (Hk.ownLt h1).1; have := (Rq.ownLt h2).2; omega
    · have a1 : x < w5.heap.size := by
        rcases h1 with h1 | h1
        · have := (Hh.ownLt h1).1; omega
        · exact (Rr.ownLt h1).1
      have a2 : w7.heap.size ≤ x := by
        rcases h2 with h2 | h2
        · exact (Hk.ownLt h2).2
        · have := (Rq.ownLt h2).2; omega
      omega
  obtain ⟨b1, hb1⟩ : ∃ b1, h.b = b1 := ⟨_, rfl⟩
  obtain ⟨b2, hb2⟩ : ∃ b2, r.b = b2 := ⟨_, rfl⟩
  obtain ⟨b3, hb3⟩ : ∃ b3, k.b = b3 := ⟨_, rfl⟩
  obtain ⟨b4, hb4⟩ : ∃ b4, q.b = b4 := ⟨_, rfl⟩
  rw [hb1, hb2, hb3, hb4]
  clear Hh Rr Hk Rq rb rc rt rs hb hc ht hs qb qc qt qs kb kc kt ks A2 A3 A4 A5 A6 A7 A8 A9 k1 k12 k2 k23 k13 k3 k34 k4 k45 k5 k56 k67 k57 k7 k78 k8 k89 k9 k910 k510 k810 zz4 zz5 zz7 zz8 zz9 z1 z3 e2 e6 g2 g4
  refine ⟨_, _, _, (A10.cell0 2).trans rfl, fun x w' => ∃ (i : Nat) (h r k q : Hs), x = i ∧ i ≤ l3 ∧ Quad w w' h r k q ∧ h.b = b1 ∧ r.b = b2 ∧ k.b = b3 ∧ q.b = b4, fun x _ => l3 - x.toNat, ⟨0, h, r, k, q, rfl, Nat.zero_le _, Q10, hb1, hb2, hb3, hb4⟩, ?_⟩
  clear Q10 hb1 hb2 hb3 hb4 A10 k10 okx oky
  rintro x w11 ⟨i, h, r, k, q, rfl, hi, T, hb1, hb2, hb3, hb4⟩
  refine bc (fun hlt => ?_) (fun _ => ?_)
  · have hi' : i < l3 := by have := of_decide_eq_true hlt; omega
    obtain ⟨a, o, rfl, ho, hro⟩ := (h3.chg T.chg).ex hi'
    have hwo := hw o (List.mem_of_getElem? ho)
    refine onPtr_mk ⟨by omega, of_decide_eq_true hlt, _, _, _, _, hro, boxed rfl rfl fun w13 B13 k13 z13 => ?_⟩
    have T13 := T.next k13
    rw [wrapS (x := (i : Int) + 1) (by omega) (by omega)]
    have ms : l3 - ((i : Int) + 1).toNat < l3 - (i : Int).toNat := meas hi'
    -- what is left to show when the chosen pair and the other one are as they were
    have back : ∀ {w' : World} {h' r' k' q' : Hs}, Quad w w' h' r' k' q' → ((h'.b = b1 ∧ r'.b = b2 ∧ k'.b = b3 ∧ q'.b = b4) ∨ (h'.b = b3 ∧ r'.b = b4 ∧ k'.b = b1 ∧ q'.b = b2)) →
        ∃ (j : Nat) (h r k q : Hs), ((i : Int) + 1) = j ∧ j ≤ l3 ∧ Quad w w' h r k q ∧ h.b = b1 ∧ r.b = b2 ∧ k.b = b3 ∧ q.b = b4 := fun {w' h' r' k' q'} Q hq => by
      rcases hq with ⟨x1, x2, x3, x4⟩ | ⟨x1, x2, x3, x4⟩
      · exact ⟨i + 1, h', r', k', q', rfl, hi', Q, x1, x2, x3, x4⟩
      · exact ⟨i + 1, k', q', h', r', rfl, hi', Q.swap, x3, x4, x1, x2⟩
    refine ⟨fun x2 x3 x4 x5 w' => ∃ h r k q : Hs, Quad w w' h r k q ∧ Blk w' w11.heap.size 50 #[.int .i64 o.kind, .bool o.other, .int .i64 o.n, .int .i64 o.m] ∧ (∀ y, (h.own y ∨ r.own y) → y ≠ w11.heap.size) ∧ x2 = some (ad h.b) ∧ x3 = some (ad r.b) ∧ x4 = some (ad k.b) ∧ x5 = some (ad q.b) ∧ ((h.b = b1 ∧ r.b = b2 ∧ k.b = b3 ∧ q.b = b4) ∨ (h.b = b3 ∧ r.b = b4 ∧ k.b = b1 ∧ q.b = b2)), ?_, _, (B13.cell0 1).trans rfl,
      bc (fun _ => ⟨k, q, h, r, T13.swap, B13, fun y hy e => by have := (T.b.lt hy).1; omega, by rw [hb3], by rw [hb4], by rw [hb1], by rw [hb2], .inr ⟨hb3, hb4, hb1, hb2⟩⟩) (fun _ => ⟨h, r, k, q, T13, B13, fun y hy e => by have := (T.a.lt hy).1; omega, by rw [hb1], by rw [hb2], by rw [hb3], by rw [hb4], .inl ⟨hb1, hb2, hb3, hb4⟩⟩)⟩
    clear T T13 B13 hb1 hb2 hb3 hb4 k13 z13
    rintro _ _ _ _ w14 ⟨h, r, k, q, T, B, hB, rfl, rfl, rfl, rfl, hq⟩
    refine ⟨_, (B.cell 0).trans rfl, bc (fun _ => ?_) (fun _ => ?_)⟩
    · -- Add
      have kd : Chg none_ w14 w14.drew := (Chg.refl none_ w14).drew
      have Td := T.next kd
      have Bd := kd.blk B (fun x => x)
      generalize w14.drew = wd at *
      refine ⟨fun p => p.block = w11.heap.size, _, by show (Addr.add _ _).block = _; rw [add_block], (Bd.cell0 2).trans rfl, _, by show (Addr.add _ _).block = _; rw [add_block], (Bd.cell0 2).trans rfl, Calls.use (add20 Td.a.H o.n) ?_⟩
      rintro _ w15 ⟨rfl, H15, c15⟩
      refine ⟨_, rfl, fun p hp => c15.cell (by rw [hp]; exact Bd.lt) (fun hs => hB _ (.inl hs) hp), Calls.use (refAdd26 (Td.a.R.chg c15 fun x hx hs => Td.a.d x hs hx) o.n) ?_⟩
      rintro _ w16 ⟨rfl, R16, c16⟩
      have Q16 := Td.setA (H15.chg c16 (fun x hx hs => Td.a.d x (by rw [← add_own h o.n]; exact hx) (rown_own r hs))) R16 (add_own h o.n) (add_own r o.n) (Td.a.e.add o.n) ((c15.mono fun _ _ hx => .inl hx).trans (c16.mono fun _ _ hx => .inr (rown_own r hx)))
      refine ⟨_, rfl, bcF (by simp [Td.a.e.can]) ⟨back Q16 (by rw [add_b, add_b]; exact hq), ms⟩⟩
    · refine ⟨fun _ w' => w' = w14, ?_, bc (fun _ => rfl) (fun _ => rfl)⟩
      rintro x6 w17 rfl
      refine bc (fun _ => ⟨_, (B.cell0 2).trans rfl, Calls.use (same27 T.a.H T.a.R T.a.e.bs T.a.e.cs T.a.e.tot T.a.e.sum o.n) ?_⟩) (fun _ => bc (fun _ => ?_) (fun _ => bc (fun _ => ?_) (fun _ => bc (fun _ => ?_) (fun _ => ⟨back T hq, ms⟩))))
      · rintro _ w18 ⟨rfl, k18⟩
        exact ⟨_, rfl, bcF rfl ⟨back (T.next k18) hq, ms⟩⟩
      · -- Quantile
        refine ⟨_, (B.cell0 2).trans rfl, _, (B.cell0 3).trans rfl, Calls.use (quantile25 T.a.H o.n o.m hwo) ?_⟩
        rintro _ _ ⟨rfl, rfl⟩
        refine ⟨_, _, rfl, _, (B.cell0 2).trans rfl, _, (B.cell0 3).trans rfl, Calls.use (refQuantile28 T.a.R o.n o.m hwo) ?_⟩
        rintro _ _ ⟨rfl, rfl⟩
        rw [T.a.e.bs, T.a.e.cs, T.a.e.tot]
        exact ⟨_, _, rfl, bcF (by simp) (bcF (by simp) ⟨back T hq, ms⟩)⟩
      · -- Merge
        refine Calls.use (merge21 T.a.H T.b.H) ?_
        rintro _ w21 ⟨rfl, H21, c21⟩
        have hRQ : ∀ x, q.own x → ¬ r.rown x := fun x h1 h2 => T.d x (.inr (rown_own r h2)) (.inr h1)
        refine ⟨_, rfl, Calls.use (refMerge29 (T.a.R.chg c21 fun x hx hs => T.a.d x hs hx) (T.b.R.chg c21 fun x hx hs => T.d x (.inl hs) (.inr hx)) hRQ) ?_⟩
        rintro _ w22 ⟨rfl, R22, c22⟩
        have Q22 := T.setA (H21.chg c22 (fun x hx hs => T.a.d x (by rw [← merge_own h k]; exact hx) (rown_own r hs))) R22 (merge_own h k) (merge_own r q) (T.a.e.merge T.b.e) ((c21.mono fun _ _ hx => .inl hx).trans (c22.mono fun _ _ hx => .inr (rown_own r hx)))
        refine ⟨_, rfl, bcF (by simp [T.a.e.mer T.b.e]) ⟨back Q22 (by rw [merge_b, merge_b]; exact hq), ms⟩⟩
      · -- Fork
        refine Calls.use (fork30 T.a.H) ?_
        rintro _ w23 ⟨s, rfl, Hs23, sb, sc, st, ss, k23⟩
        have T23 := T.next k23
        refine ⟨_, rfl, Calls.use (refFork31 T23.a.R T23.chg.size) ?_⟩
        rintro _ w24 ⟨t, rfl, Rt, tb, tc, tt, ts, tw, tow, k24⟩
        have H24 := Hs23.chgN k24
        have T24 := T23.next k24
        have B24 := k24.blk (k23.blk B (fun x => x)) (fun x => x)
        have hso : ∀ x, s.own x → w17.heap.size ≤ x ∧ x < w23.heap.size := fun x hx => ⟨(Hs23.ownLt hx).2, (Hs23.ownLt hx).1⟩
        have Bl := B.lt
        refine ⟨_, rfl, ptrOk_none _ _, bcF (by simp) ⟨_, (B24.cell0 2).trans rfl, Calls.use (add20 H24 o.n) ?_⟩⟩
        rintro _ w25 ⟨rfl, H25, c25⟩
        have B25 := c25.blk B24 (fun hs => by have := hso _ hs; omega)
        have Rt25 := Rt.chg c25 (fun x hx hs => by
          have := hso x hs
          rcases tow x hx with h1 | h1
          · have := (T.a.R.ownLt h1).1; omega
          · omega)
        refine ⟨_, rfl, _, (B25.cell0 2).trans rfl, Calls.use (refAdd26 Rt25 o.n) ?_⟩
        rintro _ w26 ⟨rfl, R26, c26⟩
        have H26 := H25.chg c26 (fun x hx hs => by
          rw [add_own] at hx
          have := hso x hx
          have := tw x hs
          omega)
        have es : Eqs s t := ⟨(tb.trans T.a.e.bs).trans sb.symm, (tc.trans T.a.e.cs).trans sc.symm, (tt.trans T.a.e.tot).trans st.symm, (ts.trans T.a.e.sum).trans ss.symm⟩
        have es' := es.add o.n
        have sm := same27 H26 R26 es'.bs es'.cs es'.tot es'.sum 1
        rw [add_b, add_b] at sm
        refine ⟨_, rfl, Calls.use sm ?_⟩
        rintro _ w27 ⟨rfl, k27⟩
        have z23 := k23.size
        have k1726 : Chg none_ w17 w26 := ((k23.trans k24).up c25 (fun g hg => (hso g hg).1)).up c26 (fun g hg => by have := tw g hg; omega)
        exact ⟨_, rfl, bcF rfl ⟨back (T.next (k1726.trans k27)) hq, ms⟩⟩
  · have s1 := same27 T.a.H T.a.R T.a.e.bs T.a.e.cs T.a.e.tot T.a.e.sum 1
    rw [hb1, hb2] at s1
    refine Calls.use s1 ?_
    rintro _ w28 ⟨rfl, k28⟩
    have T28 := T.next k28
    have s2 := same27 T28.b.H T28.b.R T28.b.e.bs T28.b.e.cs T28.b.e.tot T28.b.e.sum 1
    rw [hb3, hb4] at s2
    refine ⟨_, rfl, bcT rfl (Calls.use s2 ?_)⟩
    rintro _ w29 ⟨rfl, k29⟩
    exact ⟨_, rfl, rfl, (T28.next k29).chg⟩
end Go.Proofs.YtglidaifbpjpgaaDoor
