import Derived.Test.YtibpbbjlecohiaaLbS
import Derived.Test.YtibpbbjlecohiaaLaF
set_option maxRecDepth 20000
namespace Go.Proofs.Ytibpbbjlecohiaa
namespace Full
open Go Go.Vc Go.RowKit
theorem pair_at {l : List W3} (h : l.Pairwise Rk) {i j : Nat} {x y : W3} (hij : i < j) (hx : l[i]? = some x) (hy : l[j]? = some y) : Rk x y := by
  have hi := get_lt hx
  have hj := get_lt hy
  have := List.pairwise_iff_getElem.1 h i j hi hj hij
  rw [List.getElem?_eq_getElem hi] at hx
  rw [List.getElem?_eq_getElem hj] at hy
  cases hx; cases hy
  exact this
theorem alone5 {w : World} {q : Option Addr} {l c : Nat} {ops : List OpV} (a1 a2 a3 a4 : Int) (h : RE En.op w q l ops) (hl : l ≤ 4398046511104) :
    Calls Try.prog 5 #[.agg #[.int .i64 a1, .int .i64 a2, .int .i64 a3, .int .i64 a4, .slice q l c]] w (Ret fun v w' => v = .bool true ∧ Chg none_ w w') := by
  refine f5.calls _ _ _ _ _ _ _ ?_
  unfold f5.wp
  have hlen := h.len
  refine newBox fun w1 B1 k1 _ => ⟨_, _, _, _, (B1.reads (o := 0) (vs := [.int .i64 a1, .int .i64 a2, .int .i64 a3, .int .i64 a4]) fun j v hj => ?_), Calls.use (new17 w1 a1 a2 a3 a4) ?_⟩
  · rcases j with _ | _ | _ | _ | j
    · exact hj
    · exact hj
    · exact hj
    · exact hj
    · simp at hj
  rintro _ w2 (⟨_, rfl, k2⟩ | ⟨hok, o, g0, rfl, I2, k2⟩)
  · refine ⟨_, _, rfl, Calls.use (awake16 w2) ?_⟩
    rintro _ w3 ⟨rfl, k3⟩
    exact ⟨_, rfl, bcF rfl ⟨fun _ _ h => (by cases h), bcF rfl (bcT rfl ⟨rfl, k1.trans (k2.trans k3)⟩)⟩⟩
  refine ⟨_, _, rfl, Calls.use (awake16 w2) ?_⟩
  rintro _ w3 ⟨rfl, k3⟩
  have I3 := I2.chgN k3
  have k13 := k2.trans k3
  have B3 := k13.blk B1 (fun x => x)
  have m64 : (new8 a1.toNat a2.toNat a3.toNat a4.toNat).ms.length ≤ 64 := by simp only [new8, free, List.length_replicate]; have := hok.1.2; have := hok.1.1; omega
  have l64 : (new8 a1.toNat a2.toNat a3.toNat a4.toNat).ls.length ≤ 64 := by simp only [new8, List.length_replicate]; have := hok.2.1.2; have := hok.2.1.1; omega
  have wf0 : WF (new8 a1.toNat a2.toNat a3.toNat a4.toNat) := fun x hx => by
    have hx : x ∈ List.replicate a2.toNat (⟨[], -1, []⟩ : Lk) := hx
    rw [List.eq_of_mem_replicate hx]
    intro _; rfl
  have hb01 : w.heap.size ≤ w1.heap.size := k1.size
  refine ⟨_, rfl, bcF rfl ⟨ptrOk_none _ _, bcF rfl (bcF rfl ⟨_, _, _, (B3.cell0 4).trans rfl, fun x w' => ∃ (i : Nat) (g : G8) (s : S8), x = i ∧ i ≤ l ∧ InvG w' w1.heap.size (2 * i) i o g s ∧ WF s ∧ s.ms.length ≤ 64 ∧ s.ls.length ≤ 64 ∧ Chg none_ w w', fun x _ => l - x.toNat, ⟨0, g0, _, rfl, Nat.zero_le _, I3, wf0, m64, l64, k1.trans k13⟩, ?_⟩)⟩⟩
  rintro x w4 ⟨i, g, s, rfl, hi, I4, wf4, m4, l4, k04⟩
  refine bc (fun hlt => ?_) (fun hge => ⟨rfl, k04⟩)
  have hi' : i < l := by simpa using hlt
  obtain ⟨a, op, rfl, hop, hr⟩ := (h.chg k04).ex hi'
  rw [wrapS (x := (i : Int) + 1) (by omega) (by omega)]
  refine onPtr_mk ⟨by omega, by omega, _, _, _, _, hr, boxed rfl rfl fun w6 B6 k6 s6 => ⟨_, _, _, _, B6.reads0, Calls.use (does20 (I4.chgN k6) (by omega) (by omega) op.task op.kind op.n op.m) ?_⟩⟩
  rintro _ w7 ⟨qd, ld, cd, rfl, hW⟩
  obtain ⟨_, _, g7, I7, st7, _⟩ := hW
  obtain ⟨wf7, ll7, ml7⟩ := does_wf wf4 op.task op.kind op.n op.m
  generalize (doesF s op.task op.kind op.n op.m).2 = s7 at *
  have k07 : Chg none_ w w7 := st7.up (k04.trans k6) (I4.chgN k6) hb01
  refine ⟨_, _, _, _, _, _, rfl, fun q3 l3 c3 x2 w8 => ∃ k : Nat, x2 = k ∧ k ≤ 16 ∧ SE En.w3 w8 w7.heap.size 47 q3 l3 c3 (allH s7 k) ∧ l3 ≤ 200 * k ∧ Chg none_ w7 w8, fun _ _ _ x2 _ => 16 - x2.toNat, ⟨0, rfl, by decide, SE.nil _ _ _ _, by decide, Chg.refl _ _⟩, ?_⟩
  rintro q3 l3 c3 x2 w8 ⟨k, rfl, hk, A8, hl3, k78⟩
  refine bc (fun hlt2 => ?_) (fun hge2 => ?_)
  · have hk' : k < 16 := by have := of_decide_eq_true hlt2; omega
    rw [wrapS (x := (k : Int) + 1) (by omega) (by omega)]
    refine Calls.use (holds21 (I7.chgN k78) (by omega) (by omega) (by omega) (k : Int)) ?_
    rintro _ w9 ⟨q4, l4', c4, rfl, A9, hl4, k9⟩
    obtain ⟨q5, c5, w10, hrun, A10, k10, _, _, _, _⟩ := (A8.chgN k9).append (t := 44) (ty := 44) (c2 := c4) elemW3 A9.re (by simp only [maxLen]; omega) (by show (l3 + l4') * 24 ≤ _; omega) (k78.trans k9).size
    refine ⟨_, _, _, rfl, _, _, _, w10, hrun, ⟨k + 1, rfl, hk', by rw [allH_succ]; exact A10, by omega, (k78.trans k9).up k10 fun b hb => ((A8.chgN k9).lt hb.symm).2⟩, ?_⟩
    show 16 - ((k : Int) + 1).toNat < 16 - (k : Int).toNat
    omega
  · have hk16 : k = 16 := by have := of_decide_eq_false hge2; omega
    subst hk16
    have hp := allH_pair wf7 16
    have hAl := A8.len
    have hAle := A8.le
    refine ⟨fun x3 w11 => ∃ j : Nat, x3 = j ∧ j ≤ l3 ∧ Chg none_ w8 w11, fun x3 _ => l3 - x3.toNat, ⟨0, rfl, Nat.zero_le _, Chg.refl _ _⟩, ?_⟩
    rintro x3 w11 ⟨j, rfl, hj, k11⟩
    refine bc (fun hlt3 => ?_) (fun hge3 => ?_)
    · have hj' : j < l3 := by simpa using hlt3
      rw [wrapS (x := (j : Int) + 1) (by omega) (by omega)]
      obtain ⟨b, y, rfl, hy, hry⟩ := (A8.chgN k11).re.ex (i := j) hj'
      refine onPtr_mk ⟨by omega, by omega, _, _, _, hry, boxed rfl rfl fun w13 B13 k13' s13 => ⟨by omega, by omega, ?_⟩⟩
      rw [Int.toNat_natCast]
      refine ⟨fun x4 w14 => ∃ e : Nat, x4 = e ∧ e ≤ j ∧ Chg none_ w13 w14, fun x4 _ => j - x4.toNat, ⟨0, rfl, Nat.zero_le _, Chg.refl _ _⟩, ?_⟩
      rintro x4 w14 ⟨e, rfl, he, k14⟩
      refine bc (fun hlt4 => ?_) (fun hge4 => ⟨⟨j + 1, rfl, hj', k11.trans (k13'.trans k14)⟩, meas hj'⟩)
      have he' : e < j := by simpa using hlt4
      rw [wrapS (x := (e : Int) + 1) (by omega) (by omega)]
      obtain ⟨b', z, hb', hz, hrz⟩ := (A8.chgN (k11.trans (k13'.trans k14))).re.ex (i := e) (by omega)
      cases hb'
      refine onPtr_mk ⟨by omega, by omega, _, _, _, hrz, boxed rfl rfl fun w16 B16 k16 s16 => ?_⟩
      have BY := (k14.trans k16).blk B13 (fun x => x)
      have hR : Rk z y := pair_at hp he' hz hy
      refine ⟨fun x5 w17 => w16 = w17 ∧ (x5 = true → y.2.1 = 1 ∧ z.2.1 = 1), ?_, _, (BY.cell0 1).trans rfl, bc (fun h1 => ⟨_, (B16.cell0 1).trans rfl, rfl, fun h2 => ⟨by simpa using h1, by simpa using h2⟩⟩) (fun h1 => ⟨rfl, fun h2 => (by cases h2)⟩)⟩
      rintro x5 _ ⟨rfl, hx5⟩
      refine ⟨fun x6 w18 => w16 = w18 ∧ (x6 = true → y.2.1 ≠ 1 ∧ z.2.1 ≠ 1 ∧ (y.2.1 = 5 ∨ z.2.1 = 5)), ?_, _, (BY.cell0 1).trans rfl, bc (fun h1 => ⟨_, (B16.cell0 1).trans rfl, bc (fun h2 => ⟨_, (BY.cell0 1).trans rfl, bc (fun h3 => ⟨rfl, fun _ => ⟨by simpa using h1, by simpa using h2, .inl (by simpa using h3)⟩⟩) (fun h3 => ⟨_, (B16.cell0 1).trans rfl, rfl, fun h4 => ⟨by simpa using h1, by simpa using h2, .inr (by simpa using h4)⟩⟩)⟩) (fun h2 => ⟨rfl, fun h => (by cases h)⟩)⟩) (fun h1 => ⟨rfl, fun h => (by cases h)⟩)⟩
      rintro x6 _ ⟨rfl, hx6⟩
      have nxt : (∃ e' : Nat, ((e : Int) + 1) = e' ∧ e' ≤ j ∧ Chg none_ w13 w16) ∧ j - ((e : Int) + 1).toNat < j - ((e : Int)).toNat := ⟨⟨e + 1, rfl, he', k14.trans k16⟩, meas he'⟩
      refine ⟨_, (BY.cell0 2).trans rfl, _, (B16.cell0 2).trans rfl, bc (fun hn => ?_) (fun _ => nxt)⟩
      have hn : y.2.2 = z.2.2 := by simpa using hn
      exact bc (fun h5 => (hR ⟨hn, .inl (hx5 h5)⟩).elim) (fun _ => bc (fun h6 => (hR ⟨hn, .inr (hx6 h6)⟩).elim) (fun _ => nxt))
    · refine ⟨⟨i + 1, g7, s7, rfl, hi', ?_, wf7, by omega, by omega, k07.trans (k78.trans k11)⟩, meas hi'⟩
      exact (I7.chgN (k78.trans k11)).up (by omega) (Nat.le_refl _)
end Full
end Go.Proofs.Ytibpbbjlecohiaa
