import Derived.Test.YtdlbmmodlkmofaaDoorPlP
import Derived.Test.YtdlbmmodlkmofaaDoorRws
set_option maxRecDepth 20000
namespace Go.Proofs.YtdlbmmodlkmofaaDoor
open Go Go.Vc Go.RowKit
/-! # no two outcomes are the same -/
theorem elemHd : ElemOk Tryd.prog 59 40 1 24 := ⟨Tryd.underlying59, .slice none 0 0, by kernel_rfl, rfl⟩
theorem elemFate' : ElemOk Tryd.prog 40 44 3 24 := ⟨Tryd.underlying40, .agg #[.int .i64 0, .int .i64 0, .int .i64 0], by kernel_rfl, rfl⟩
theorem sameFatesD {w : World} {q1 q2 : Option Addr} {l c1 m c2 : Nat} {xs ys : List T3} (h1 : RE En.t3 w q1 l xs) (h2 : RE En.t3 w q2 m ys) (hl : l ≤ 9223372036854775807) :
    Calls Tryd.prog 25 #[.slice q1 l c1, .slice q2 m c2] w (Ret fun v w' => v = .bool (decide (xs = ys)) ∧ Chg none_ w w') := by
  refine f25.calls _ _ _ _ _ _ ?_
  unfold f25.wp
  have e1 := h1.len
  have e2 := h2.len
  refine bc (fun hne => ⟨?_, Chg.refl _ _⟩) (fun heq => ?_)
  · have : l ≠ m := fun e => by rw [e] at hne; simp at hne
    rw [decide_eq_false (fun e => by subst e; omega)]
  have hlm : l = m := by simp at heq; omega
  subst hlm
  refine ⟨fun x w' => ∃ i : Nat, x = i ∧ i ≤ l ∧ (∀ j, j < i → xs[j]? = ys[j]?) ∧ Chg none_ w w', fun x _ => l - x.toNat, ⟨0, rfl, Nat.zero_le _, fun j hj => by omega, Chg.refl _ _⟩, ?_⟩
  rintro x w1 ⟨i, rfl, hi, hj, k1⟩
  refine bc (fun hlt => ?_) (fun hge => ⟨?_, k1⟩)
  · have hi' : i < l := by simpa using hlt
    obtain ⟨a, u, rfl, hu, hru⟩ := (h1.chg k1.drew).ex hi'
    obtain ⟨b, v, rfl, hv, hrv⟩ := (h2.chg k1.drew).ex hi'
    rw [wrapS (x := (i : Int) + 1) (by omega) (by omega)]
    refine onPtr_mk ⟨by omega, by omega, _, _, _, hru, onPtr_mk ⟨by omega, by omega, _, _, _, hrv, bc (fun hne => ⟨?_, k1.drew⟩) (fun heq => ⟨⟨i + 1, by omega, hi', fun j hj' => ?_, k1.drew⟩, meas hi'⟩)⟩⟩
    · rw [decide_eq_false (fun e => ?_)]
      subst e
      rw [hu] at hv
      cases hv
      simp at hne
    · rcases Nat.lt_or_ge j i with h | h
      · exact hj j h
      · have : j = i := by omega
        subst this
        have : u = v := by
          obtain ⟨u1, u2, u3⟩ := u
          obtain ⟨v1, v2, v3⟩ := v
          simp at heq
          obtain ⟨e1, e2, e3⟩ := heq
          rw [e1, e2, e3]
        rw [hu, hv, this]
  · have hil : i = l := by have := of_decide_eq_false hge; omega
    subst hil
    rw [decide_eq_true]
    apply List.ext_getElem?
    intro j
    rcases Nat.lt_or_ge j i with h | h
    · exact hj j h
    · rw [List.getElem?_eq_none (by omega), List.getElem?_eq_none (by omega)]
def Apart (ts : List Int) : Prop := ∀ (i j : Nat) (a : Int), i < j → ts[i]? = some a → ts[j]? ≠ some a
theorem fateOf_inj {p : Int} {ts : List Int} {m d d' : Nat} (hts : ts.length = m) (ha : Apart ts) (h : d < 2 + m) (h' : d' < 2 + m) (e : fateOf p ts d = fateOf p ts d') : d = d' := by
  unfold fateOf at e
  split at e
  · split at e
    · omega
    · split at e <;> simp at e
  · split at e
    · split at e
      · simp at e
      · split at e
        · omega
        · simp at e
    · split at e
      · simp at e
      · split at e
        · simp at e
        · rename_i h0 h1 h2 h3
          simp only [Prod.mk.injEq, true_and] at e
          obtain ⟨a, hta⟩ := get_ex (l := ts) (i := d - 2) (by omega)
          obtain ⟨b, htb⟩ := get_ex (l := ts) (i := d' - 2) (by omega)
          rw [hta, htb] at e
          simp at e
          subst e
          rcases Nat.lt_trichotomy (d - 2) (d' - 2) with h5 | h5 | h5
          · exact absurd htb (ha _ _ _ h5 hta)
          · omega
          · exact absurd hta (ha _ _ _ h5 htb)
theorem outI_above (ps ts : List Int) (m : Nat) : ∀ (i k : Nat) (out : List T3) (j : Nat), i ≤ j → (outI ps ts m k i out)[j]? = out[j]?
  | 0, _, _, _, _ => rfl
  | i + 1, k, out, j, h => by rw [outI, outI_above ps ts m i _ _ j (by omega), List.getElem?_set_ne (by omega)]
theorem outI_inj {ps ts : List Int} {m : Nat} (hts : ts.length = m) (ha : Apart ts) : ∀ (i k k' : Nat) (out out' : List T3), i ≤ out.length → i ≤ out'.length → k < (2 + m) ^ i → k' < (2 + m) ^ i → outI ps ts m k i out = outI ps ts m k' i out' → k = k'
  | 0, k, k', _, _, _, _, h, h', _ => by simp at h h'; omega
  | i + 1, k, k', out, out', hl, hl', h, h', e => by
    have hb : 0 < 2 + m := by omega
    rw [Nat.pow_succ] at h h'
    have q1 : k / (2 + m) < (2 + m) ^ i := Nat.div_lt_of_lt_mul (by rw [Nat.mul_comm]; exact h)
    have q2 : k' / (2 + m) < (2 + m) ^ i := Nat.div_lt_of_lt_mul (by rw [Nat.mul_comm]; exact h')
    have m1 : k % (2 + m) < 2 + m := Nat.mod_lt _ hb
    have m2 : k' % (2 + m) < 2 + m := Nat.mod_lt _ hb
    rw [outI, outI] at e
    have hd : k % (2 + m) = k' % (2 + m) := by
      have := congrArg (fun l : List T3 => l[i]?) e
      simp only [outI_above ps ts m i _ _ i (Nat.le_refl _)] at this
      rw [List.getElem?_set_self (by omega), List.getElem?_set_self (by omega)] at this
      exact fateOf_inj hts ha m1 m2 (Option.some.inj this)
    have hq := outI_inj hts ha i _ _ _ _ (by simp; omega) (by simp; omega) q1 q2 e
    have d1 := Nat.div_add_mod k (2 + m)
    have d2 := Nat.div_add_mod k' (2 + m)
    rw [hq, hd] at d1
    omega
theorem outc_inj {ps ts : List Int} {l m i j : Nat} (hps : ps.length = l) (hts : ts.length = m) (ha : Apart ts) (hi : i < (cnt m l).1) (hj : j < (cnt m l).1) (e : outc ps ts m i = outc ps ts m j) : i = j := by
  have : (cnt m l).1 ≤ (2 + m) ^ l := by unfold cnt; split <;> simp
  unfold outc at e
  exact outI_inj hts ha ps.length i j _ _ (by simp) (by simp) (by rw [hps]; omega) (by rw [hps]; omega) e
section
variable {α : Type} {E : En α} {w w' : World} {base : Nat} {e : TypeId} {hs : List Hd} {xss : List (List α)}
/-- one more, in a block that is new -/
theorem _root_.Go.Vc.RowsE.push (r : RowsE E w base e hs xss) {h : Hd} {ys : List α} (n : SE E w base e h.1 h.2.1 h.2.2 ys) {lo : Nat} (hlo : ∀ x ∈ hs, ∀ g, qB x.1 = some g → g < lo) (hn : ∀ g, qB h.1 = some g → lo ≤ g) : RowsE E w base e (hs ++ [h]) (xss ++ [ys]) := by
  have hl := r.len
  refine ⟨by simp [hl], fun i x xs hi hx => ?_, fun i j x y g hi hj hg hg' => ?_⟩
  · rcases Nat.lt_or_ge i hs.length with h1 | h1
    · rw [List.getElem?_append_left h1] at hi
      rw [List.getElem?_append_left (by omega)] at hx
      exact r.se i x xs hi hx
    · rw [List.getElem?_append_right h1] at hi
      rw [List.getElem?_append_right (by omega)] at hx
      rw [← hl] at hx
      have h0 : i - hs.length = 0 := by
        have := get_lt hi; simp at this; omega
      rw [h0] at hi hx
      simp at hi hx
      subst hi hx
      exact n
  · have cas : ∀ {i : Nat} {x : Hd}, (hs ++ [h])[i]? = some x → (hs[i]? = some x ∧ i < hs.length) ∨ (i = hs.length ∧ x = h) := fun {i x} hi => by
      rcases Nat.lt_or_ge i hs.length with h1 | h1
      · rw [List.getElem?_append_left h1] at hi; exact .inl ⟨hi, h1⟩
      · rw [List.getElem?_append_right h1] at hi
        have h2 := get_lt hi
        simp at h2
        have : i = hs.length := by omega
        subst this
        simp at hi
        exact .inr ⟨rfl, hi.symm⟩
    rcases cas hi with ⟨h1, _⟩ | ⟨h1, rfl⟩ <;> rcases cas hj with ⟨h2, _⟩ | ⟨h2, rfl⟩
    · exact r.ap i j x y g h1 h2 hg hg'
    · have := hlo x (List.mem_of_getElem? h1) g hg
      have := hn g hg'
      omega
    · have := hlo y (List.mem_of_getElem? h2) g hg'
      have := hn g hg
      omega
    · omega
theorem _root_.Go.Vc.RowsE.lt (r : RowsE E w base e hs xss) : ∀ x ∈ hs, ∀ g, qB x.1 = some g → g < w.heap.size := fun x hx g hg => by
  obtain ⟨i, hi⟩ := List.getElem?_of_mem hx
  obtain ⟨xs, _, s⟩ := r.at' hi
  exact (s.lt hg).1
end
/-- the outcomes up to a number -/
def upTo (ps ts : List Int) (m i : Nat) : List (List T3) := (List.range i).map (outc ps ts m)
theorem upTo_succ (ps ts : List Int) (m i : Nat) : upTo ps ts m (i + 1) = upTo ps ts m i ++ [outc ps ts m i] := by
  unfold upTo; rw [List.range_succ]; simp
/-- the law's state while it goes over them -/
structure A8 (W w : World) (a r sb : Nat) (acs : Array Value) (ps ts : List Int) (m i : Nat) (dm N : Nat) : Prop where
  chg : Chg none_ W w
  A : Blk w a 49 acs
  R : Blk w r 4 #[.bool false]
  o : W.heap.size ≤ a ∧ a < r ∧ r < sb ∧ sb < dm
  d : w.heap[dm]? = some (.deferred (some []))
  seen : ∃ (q : Option Addr) (c : Nat) (hs : List Hd), Blk w sb 59 #[.slice q i c] ∧ SE En.hd w N 40 q i c hs ∧ RowsE En.t3 w N 44 hs (upTo ps ts m i)
section
variable {W w w' : World} {a r sb m i dm N : Nat} {acs : Array Value} {ps ts : List Int}
theorem A8.stepL (h : A8 W w a r sb acs ps ts m i dm N) (c : Chg (fun k => k = dm + 1) w w') {rc : Loop} {st : LoopState} {pd : Option Code} (hr : RecOk w (dm + 1) rc st pd) : A8 W w' a r sb acs ps ts m i dm N := by
  obtain ⟨o1, o2, o3, o4⟩ := h.o
  obtain ⟨q, cc, hs, b, s, rr⟩ := h.seen
  obtain ⟨rc1, hl, _⟩ := hr
  have nb : ∀ {g : Nat} {t : TypeId} {cs : Array Value}, Blk w g t cs → g ≠ dm + 1 := fun hb e => by rw [← e] at hl; rw [Blk, hl] at hb; cases hb
  refine ⟨h.chg.up c (fun g hg => by omega), c.blk h.A (by omega), c.blk h.R (by omega), h.o, c.at' h.d (by omega), q, cc, hs, c.blk b (by omega), s.chg c (fun g hg hk => ?_), rr.chg c (fun x hx g hg hk => ?_)⟩
  · obtain ⟨cur, hb⟩ := s.blk hg
    exact nb hb hk
  · obtain ⟨j, hj⟩ := List.getElem?_of_mem hx
    obtain ⟨xs, _, s'⟩ := rr.at' hj
    obtain ⟨cur, hb⟩ := s'.blk hg
    exact nb hb hk
theorem A8.stepN (h : A8 W w a r sb acs ps ts m i dm N) (c : Chg none_ w w') : A8 W w' a r sb acs ps ts m i dm N := by
  obtain ⟨q, cc, hs, b, s, rr⟩ := h.seen
  exact ⟨h.chg.trans c, c.blk h.A (fun x => x), c.blk h.R (fun x => x), h.o, c.at' h.d (fun x => x), q, cc, hs, c.blk b (fun x => x), s.chgN c, rr.chgN c⟩
end
/-- what is left when a round has ended the law -/
structure B8 (W w : World) (r : Nat) (dm : Nat) : Prop where
  chg : Chg none_ W w
  R : Blk w r 4 #[.bool true]
  o : W.heap.size ≤ r ∧ r < dm
  d : w.heap[dm]? = some (.deferred (some []))
theorem round8 {W w w0 : World} {a r sb i dm N lo : Nat} {k st : Int} {q1 q2 q : Option Addr} {l c1 m c2 : Nat} {ps ts : List Int} {rc : Loop} (hps : ps.length = l) (hts : ts.length = m) (ha : Apart ts)
    (G : A8 W w a r sb #[.slice q1 l c1, .slice q2 m c2, .int .i64 k, .int .i64 st] ps ts m i dm N) (hi : i < (cnt m l).1) (hl : l ≤ 64)
    (hrc : Laid 101 [(1, (.pointer (some (ad a)))), (2, (.pointer (some (ad r)))), (7, (.pointer (some (ad sb))))] #[42] (rangeA Tryd.f8 0) (rangeB Tryd.f8 0) rc)
    (hr : RecOk w (dm + 1) rc .ready none) (s : SE En.t3 w w0.heap.size 44 q l l (outc ps ts m i)) (hw0 : dm + 1 < w0.heap.size) (hlo : sb < lo) (hN : N ≤ dm) (hWN : W.heap.size ≤ N) :
    YieldTo Tryd.prog (dm + 1) #[.slice q l l] w fun b w3 => Chg (fun k => k < lo ∨ N ≤ k) w w3 ∧
      (b = true → i ≤ 60 ∧ A8 W w3 a r sb #[.slice q1 l c1, .slice q2 m c2, .int .i64 k, .int .i64 st] ps ts m (i + 1) dm N ∧ RecOk w3 (dm + 1) rc .ready none) ∧
      (b = false → B8 W w3 r dm ∧ RecOk w3 (dm + 1) rc .done (some .ret)) := by
  obtain ⟨rc1, hl1, hrest⟩ := id hr
  refine f8.round0.yields _ _ _ _ _ _ hrc hl1 hrest.2.2 ?_
  unfold f8.round0.wp
  obtain ⟨o1, o2, o3, o4⟩ := G.o
  have hc : (cnt m l).1 ≤ 65536 := by
    unfold cnt
    split
    · rename_i hh; exact hh.2
    · simp
  refine hr.begin fun w1 r1 c1' => ?_
  have G1 := G.stepL c1' hr
  have s1 := s.chg c1' (fun x hx hs => by have := (s.lt hx).2; omega)
  have N1 : Chg (fun k => k < lo ∨ N ≤ k) w w1 := c1'.mono fun k _ hk => .inr (by omega)
  obtain ⟨Q, C, hs, B, S, RR⟩ := G1.seen
  refine ⟨fun x w' => w' = w1 ∧ x = decide ((i : Int) > 60), ?_, _, _, _, (G1.A.cell 0).trans rfl, bcF (by simp) ⟨_, _, _, (B.cell 0).trans rfl, rfl, rfl⟩⟩
  rintro x w2 ⟨rfl, hx⟩
  rw [hx]
  refine bc (fun hgt => ?_) (fun hle => ?_)
  · refine ⟨_, _, _, (G1.A.cell 0).trans rfl, G1.R.canStore (by simp), fun w3 e3 => ?_⟩
    have R3 : Blk w3 r 4 #[.bool true] := by have := G1.R.over e3 rfl; simpa using this
    have c3 : Chg (fun k => k = r) w2 w3 := (Chg.refl _ w2).sets' e3 (.inl rfl)
    have r3 := r1.chg c3 (by omega)
    refine r3.ret fun w4 r4 c4 => ⟨(N1.trans (c3.mono fun k _ hk => .inl (by omega))).trans (c4.mono fun k _ hk => .inr (by omega)), fun h => by (cases h), fun _ => ⟨⟨(G1.chg.up c3 (fun g hg => by omega)).up c4 (fun g hg => by have := G1.chg.size; have := G.chg.size; omega), c4.blk R3 (by omega), by omega, c4.at' (c3.at' G1.d (by omega)) (by omega)⟩, r4⟩⟩
  have h60 : i ≤ 60 := by have := of_decide_eq_false hle; omega
  refine ⟨_, _, _, (B.cell 0).trans rfl, fun x w' => ∃ j : Nat, x = j ∧ j ≤ i ∧ Chg none_ w2 w', fun x _ => i - x.toNat, ⟨0, rfl, Nat.zero_le _, Chg.refl _ _⟩, ?_⟩
  rintro x w4 ⟨j, rfl, hj, k4⟩
  refine bc (fun hlt => ?_) (fun _ => ?_)
  · have hj' : j < i := by have := of_decide_eq_true hlt; omega
    have S4 := S.chgN k4
    have RR4 := RR.chgN k4
    obtain ⟨p, h, rfl, hh, hrd⟩ := S4.re.ex hj'
    obtain ⟨xs, hxs, sx⟩ := RR4.at' hh
    have exs : xs = outc ps ts m j := by
      unfold upTo at hxs
      rw [List.getElem?_map, List.getElem?_range hj'] at hxs
      simpa using hxs.symm
    subst exs
    have hhl : h.2.1 = l := by rw [← sx.len, outc, outI_len]; simp [hps]
    refine onPtr_mk ⟨by omega, of_decide_eq_true hlt, _, _, _, reads_one' hrd, Calls.use (sameFatesD sx.re (s1.chgN k4).re (by omega)) ?_⟩
    rintro _ w5 ⟨rfl, k5⟩
    have hne : outc ps ts m j ≠ outc ps ts m i := fun e => by have := outc_inj hps hts ha (by omega) hi e; omega
    rw [wrapS (x := (j : Int) + 1) (by omega) (by omega)]
    exact ⟨_, rfl, bcF (decide_eq_false hne) ⟨⟨j + 1, rfl, hj', k4.trans k5⟩, meas hj'⟩⟩
  · have k4d := k4.drew
    have zd : w4.drew.heap.size = w4.heap.size := rfl
    generalize w4.drew = w5 at *
    have G5 := G1.stepN k4d
    have B5 := k4d.blk B (fun x => x)
    have S5 := S.chgN k4d
    have RR5 := RR.chgN k4d
    have s5 := s1.chgN k4d
    have r5 := r1.chg k4d (fun x => x)
    have N5 := N1.trans (k4d.mono fun _ _ h => h.elim)
    have hr5 := r5.lt
    refine ⟨fun p => p.block < w5.heap.size, _, _, _, B5.lt, (B5.cell 0).trans rfl, fun w7 e7 => ?_⟩
    have k7 := (Chg.refl none_ w5).new' e7
    have z7 := new_size e7
    have e0 : SE En.t3 w7 w5.heap.size 44 (some ⟨w5.heap.size, 0, none⟩) 0 0 [] := SE.lit (new_blk e7) (Nat.le_refl _) (fun n v hv => by simp [En.flat] at hv) rfl (Nat.le_refl _) (Nat.zero_le _) (by simp)
    obtain ⟨q7, c7, w8, hr8, s8, k8, hq8, _⟩ := e0.append (t := 40) (ty := 40) (m := l) (c2 := l) elemFate' (s5.chgN k7).re (by simp only [maxLen]; omega) (by omega) (by omega)
    simp only [Nat.zero_add, List.nil_append] at hr8 s8
    have k8' : Chg (fun g => g = w5.heap.size) w7 w8 := k8.mono (fun g _ hg => by simpa [qB] using hg)
    have k58 : Chg none_ w5 w8 := k7.up k8' (fun g hg => by omega)
    refine ⟨k7.keeps, q7, l, c7, w8, hr8, k58.keeps, fun w9 e9 => ?_⟩
    have k59 := k58.new' e9
    have k89 := (Chg.refl none_ w8).new' e9
    have z9 := new_size e9
    have B9 := k59.blk B5 (fun x => x)
    have S9 := S5.chgN k59
    have RR9 := RR5.chgN k59
    have s9 := s8.chgN k89
    have G9 := G5.stepN k59
    have r9 := r5.chg k59 (fun x => x)
    have z8 := k58.size
    obtain ⟨q10, c10, w10, hr10, S10, k10, hq10, _⟩ := S9.append1 (t := 59) (ty := 59) (x := ((q7, l, c7) : Hd)) elemHd (new_blk e9) (by simp only [maxLen]; omega) (by omega) (by omega)
    refine ⟨k59.keeps, q10, i + 1, c10, w10, hr10, ?_⟩
    have nS : ∀ {g : Nat} {t : TypeId} {cs : Array Value}, Blk w9 g t cs → t ≠ 40 → ¬ (some g = qB Q) := fun hb ht e => by
      obtain ⟨cur, hb'⟩ := S9.blk e.symm
      rw [Blk, hb] at hb'; cases hb'; exact ht rfl
    have nL : ∀ {g : Nat} {o : Obj}, w9.heap[g]? = some o → (∀ cs t x, o ≠ .cells cs t x) → ¬ (some g = qB Q) := fun hb ht e => by
      obtain ⟨cur, hb'⟩ := S9.blk e.symm
      rw [Blk, hb] at hb'; exact ht _ _ _ (Option.some.inj hb')
    have B10 := k10.blk B9 (nS B9 (by decide))
    have A10 := k10.blk G9.A (nS G9.A (by decide))
    have R10 := k10.blk G9.R (nS G9.R (by decide))
    have d10 := k10.at' G9.d (nL G9.d (fun _ _ _ h => by cases h))
    have r10 := r9.chg k10 (by obtain ⟨rc2, h2, _⟩ := id r9; exact nL h2 (fun _ _ _ h => by cases h))
    have RR10 := RR9.chgS S9 (by decide) k10
    have s10 := s9.chg k10 (fun g hg => s9.ne2 S9 (by decide) g hg)
    have P10 := RR10.push (h := ((q7, l, c7) : Hd)) (s10.lower (b := N) (by omega)) (lo := w5.heap.size) RR5.lt (fun g hg => (s9.lt hg).2)
    rw [← upTo_succ] at P10
    have qN : ∀ g, some g = qB Q → N ≤ g := fun g hg => (S9.lt hg.symm).2
    have N10 : Chg (fun k => k < lo ∨ N ≤ k) w w10 := (N5.trans (k59.mono fun _ _ h => h.elim)).trans (k10.mono fun g _ hg => .inr (qN g hg))
    refine ⟨B10.canStore (by simp), fun w11 e11 => ?_⟩
    have B11 := B10.over e11 rfl
    have c11 : Chg (fun k => k = sb) w10 w11 := (Chg.refl _ w10).sets' e11 (.inl rfl)
    have A11 := c11.blk A10 (by omega)
    have R11 := c11.blk R10 (by omega)
    have S11 := S10.chg c11 (fun g hg => S10.ne B10 (by decide) g hg)
    have RR11 := P10.chgB B10 (by decide) c11
    have r11 := r10.chg c11 (by omega)
    have N11 := N10.trans (c11.mono fun k _ hk => .inl (by omega))
    have oW : W.heap.size ≤ w9.heap.size := by have := G9.chg.size; omega
    have G11 : A8 W w11 a r sb #[.slice q1 l c1, .slice q2 m c2, .int .i64 k, .int .i64 st] ps ts m (i + 1) dm N :=
      ⟨(G9.chg.up k10 (fun g hg => by have := qN g hg; omega)).up c11 (fun g hg => by omega), A11, R11, G.o, c11.at' d10 (by omega), q10, c10, _, B11, S11, RR11⟩
    exact r11.normal fun w12 r12 c12 => ⟨N11.trans (c12.mono fun k _ hk => .inr (by omega)), fun _ => ⟨h60, G11.stepL c12 r11, r12⟩, fun h => by (cases h)⟩
section
variable {w w' : World} {b5 b2 b3 : Nat} {q1 q2 : Option Addr} {c1 c2 l m : Nat} {ps ts : List Int}
theorem OutS.chgLo (O : OutS w b5 b2 b3 q1 c1 q2 c2 l m ps ts) {S : Nat → Prop} (c : Chg S w w') {lo N : Nat} (hN : ∀ k, S k → k < lo ∨ N ≤ k) (h5 : lo ≤ b5 ∧ b5 < N) (h2 : lo ≤ b2 ∧ b2 < N) (h3 : lo ≤ b3 ∧ b3 < N) (hp : ∀ g, qB q1 = some g → lo ≤ g ∧ g < N) (ht : ∀ g, qB q2 = some g → lo ≤ g ∧ g < N) : OutS w' b5 b2 b3 q1 c1 q2 c2 l m ps ts :=
  have no : ∀ k, lo ≤ k ∧ k < N → ¬ S k := fun k hk hs => by have := hN k hs; omega
  ⟨c.blk O.n (no _ h5), c.blk O.p (no _ h2), c.blk O.t (no _ h3), O.sp.chg c (fun g hg => no g (hp g hg)), O.st.chg c (fun g hg => no g (ht g hg))⟩
theorem goneLo (O : OutS w b5 b2 b3 q1 c1 q2 c2 l m ps ts) {lo N : Nat} (h5 : lo ≤ b5 ∧ b5 < N) (h2 : lo ≤ b2 ∧ b2 < N) (h3 : lo ≤ b3 ∧ b3 < N) (hp : ∀ g, qB q1 = some g → lo ≤ g ∧ g < N) (ht : ∀ g, qB q2 = some g → lo ≤ g ∧ g < N) (hm : m ≤ 17592186044416)
    (lp : Nat) (J : Nat → World → Prop) (Jx : World → Prop) (hJ : J 0 w)
    (hy : ∀ i w1 w2 q, i < (cnt m l).1 → l ≤ 64 → J i w1 → Chg none_ w1 w2 → SE En.t3 w2 w1.heap.size 44 q l l (outc ps ts m i) →
      YieldTo Tryd.prog lp #[.slice q l l] w2 fun b w3 => Chg (fun k => k < lo ∨ N ≤ k) w2 w3 ∧ (b = true → J (i + 1) w3) ∧ (b = false → Jx w3)) :
    Calls Tryd.prog 53 #[.func (.yield lp) #[] #[], .pointer (some (ad b5)), .pointer (some (ad b2)), .pointer (some (ad b3))] w (Ret fun _ w' => J (cnt m l).1 w' ∨ Jx w') := by
  refine f53_y.calls _ _ _ _ ?_
  unfold f53_y.wp
  refine onPtr_mk ⟨_, (O.n.cell 0).trans rfl, fun x w' => ∃ i : Nat, x = i ∧ i ≤ (cnt m l).1 ∧ J i w' ∧ OutS w' b5 b2 b3 q1 c1 q2 c2 l m ps ts, fun x _ => (cnt m l).1 - x.toNat, ⟨0, rfl, Nat.zero_le _, hJ, O⟩, ?_⟩
  rintro x w1 ⟨i, rfl, hi, hj, O1⟩
  refine bc (fun hlt => ?_) (fun hge => ?_)
  · have hi' : i < (cnt m l).1 := by have := of_decide_eq_true hlt; omega
    have hc : (cnt m l).2 = 0 := by
      unfold cnt at hi' ⊢
      split
      · rfl
      · rename_i hh; rw [if_neg hh] at hi'; simp at hi'
    have hb := cnt_ok hc
    refine onPtr_mk ⟨_, _, _, (O1.p.cell 0).trans rfl, onPtr_mk ⟨_, _, _, (O1.t.cell 0).trans rfl, Calls.use (outcome51S O1.sp.re O1.st.re hb.1 hm (by omega)) ?_⟩⟩
    rintro _ w2 ⟨q, rfl, s2, k2⟩
    refine ⟨_, _, _, rfl, (hy i w1 w2 q hi' hb.1 hj k2 s2).mono fun b w3 ⟨c3, ht', hf'⟩ => ?_⟩
    cases b with
    | false => exact bcT rfl (.inr (hf' rfl))
    | true =>
      have O3 := (O1.chgLo (S := none_) k2 (lo := lo) (N := N) (fun _ h => h.elim) h5 h2 h3 hp ht).chgLo c3 (fun _ h => h) h5 h2 h3 hp ht
      rw [wrapS (x := (i : Int) + 1) (by omega) (by omega)]
      exact bcF rfl ⟨⟨i + 1, rfl, hi', ht' rfl, O3⟩, meas hi'⟩
  · have : i = (cnt m l).1 := by have := of_decide_eq_false hge; omega
    subst this
    exact .inl hj
end
theorem apart8 {w : World} {q1 q2 : Option Addr} {l c1 m c2 : Nat} (k st : Int) {ps ts : List Int} (h1 : RE En.int w q1 l ps) (h2 : RE En.int w q2 m ts) (hl : l ≤ 17592186043904) (hm : m ≤ 17592186043904) (hmc : m ≤ c2) :
    Calls Tryd.prog 8 #[.agg #[.slice q1 l c1, .slice q2 m c2, .int .i64 k, .int .i64 st]] w (Ret fun v w' => v = .bool true ∧ Chg none_ w w') := by
  refine f8.calls _ _ _ _ _ _ _ _ ?_
  unfold f8.wp
  refine newBox fun w1 A1 k1 z1 => newBox fun w2 R2 k2 z2 => Calls.use (awake12 w2) ?_
  rintro _ w3 ⟨rfl, k3⟩
  have k03 := (k1.trans k2).trans k3
  have A3 := k3.blk (k2.blk A1 (fun x => x)) (fun x => x)
  have R3 := k3.blk R2 (fun x => x)
  have z3 := k3.size
  have fin0 : ∀ {w' : World}, Chg none_ w3 w' → ∀ (b : Bool), b = true → canStore w' (⟨w1.heap.size, 0, none⟩ : Addr) 1 ∧ ∀ w7 : World, w7 = setCells (⟨w1.heap.size, 0, none⟩ : Addr) 0 [.bool b] w' → marksOk ([] : List Nat) w7 ∧ ∃ b3 : Bool, (takeAll ([] : List Nat) w7).cell? (⟨w1.heap.size, 0, none⟩ : Addr) = some (.bool b3) ∧
      ((.bool b3 : Value) = .bool true ∧ Chg none_ w (takeAll ([] : List Nat) w7)) := fun k b hb => by
    have R' := k.blk R3 (fun x => x)
    refine ⟨R'.canStore (by simp), fun w7 e7 => ⟨⟨List.nodup_nil, fun _ h => by simp at h⟩, b, ((R'.over e7 rfl).cell 0).trans rfl, by rw [hb], (k03.trans k).sets' e7 (.inr (show w.heap.size ≤ w1.heap.size by omega))⟩⟩
  refine ⟨_, rfl, bcF rfl ⟨_, _, _, (A3.cell0 1).trans rfl, fun x w' => ∃ i : Nat, x = i ∧ i ≤ m ∧ (∀ (a b : Nat) (y : Int), a < b → b < i → ts[a]? = some y → ts[b]? ≠ some y) ∧ Chg none_ w3 w', fun x _ => m - x.toNat, ⟨0, rfl, Nat.zero_le _, fun a b y hab hb => by omega, Chg.refl _ _⟩, ?_⟩⟩
  rintro x w5 ⟨i, rfl, hi, hap, k5⟩
  have A5 := k5.blk A3 (fun x => x)
  have R5 := k5.blk R3 (fun x => x)
  have k05 := k03.trans k5
  refine bc (fun hlt => ?_) (fun hge => ?_)
  · have hi' : i < m := by have := of_decide_eq_true hlt; omega
    obtain ⟨p, u, rfl, hu, hru⟩ := (h2.chg k05).ex hi'
    refine onPtr_mk ⟨by omega, of_decide_eq_true hlt, u, reads_one' hru, _, _, _, (A5.cell0 1).trans rfl, by omega, by omega, fun x w' => ∃ j : Nat, x = j ∧ j ≤ i ∧ (∀ a : Nat, a < j → ts[a]? ≠ some u) ∧ Chg none_ w5 w', fun x _ => i - x.toNat, ⟨0, rfl, Nat.zero_le _, fun a ha => by omega, Chg.refl _ _⟩, ?_⟩
    rintro x w6 ⟨j, rfl, hj, hne, k6⟩
    rw [Int.toNat_natCast]
    refine bc (fun hlt' => ?_) (fun hge' => ?_)
    · have hj' : j < i := by have := of_decide_eq_true hlt'; omega
      obtain ⟨p', v, hp', hv, hrv⟩ := (h2.chg (k05.trans k6)).ex (i := j) (by omega)
      cases hp'
      refine onPtr_mk ⟨by omega, of_decide_eq_true hlt', v, reads_one' hrv, bc (fun _ => fin0 (k5.trans k6) true rfl) (fun hnev => ?_)⟩
      rw [wrapS (x := (j : Int) + 1) (by omega) (by omega)]
      refine ⟨⟨j + 1, rfl, hj', fun a ha => ?_, k6⟩, meas hj'⟩
      rcases Nat.lt_or_ge a j with h | h
      · exact hne a h
      · have : a = j := by omega
        subst this
        intro e
        rw [hv] at e
        cases e
        simp at hnev
    · have hji : j = i := by have := of_decide_eq_false hge'; omega
      subst hji
      rw [wrapS (x := (j : Int) + 1) (by omega) (by omega)]
      refine ⟨⟨j + 1, rfl, hi', fun a b y hab hb ha hbb => ?_, k5.trans k6⟩, meas hi'⟩
      rcases Nat.lt_or_ge b j with h | h
      · exact hap a b y hab h ha hbb
      · have : b = j := by omega
        subst this
        rw [hu] at hbb
        cases hbb
        exact hne a hab ha
  have him : i = m := by have := of_decide_eq_false hge; omega
  subst him
  have ap : Apart ts := fun a b y hab ha hb => hap a b y hab (by have := get_lt hb; have := h2.len; omega) ha hb
  clear fin0 hap hi hge
  refine newBox fun w8 S8 k8 z8 => ?_
  have A8' := k8.blk A5 (fun x => x)
  have R8 := k8.blk R5 (fun x => x)
  have k08 := k05.trans k8
  have z5 := k5.size
  refine ⟨_, _, _, (A8'.cell 0).trans rfl, _, _, _, (A8'.cell0 1).trans rfl, Calls.use (outcomes26 (h1.chg k08) (h2.chg k08) (by omega) (by omega)) ?_⟩
  rintro _ w9 ⟨b5, b2, b3, p1, e1, p2, e2, rfl, O, k9, o5, o2, o3, op, ot⟩
  refine ⟨_, rfl, 53, #[], #[.pointer (some (ad b5)), .pointer (some (ad b2)), .pointer (some (ad b3))], rfl, rfl, fun rc hrc w10 e10 => ?_⟩
  obtain ⟨z10, d10, r10⟩ := entered e10
  have k10 : Chg none_ w9 w10 := (Chg.refl none_ w9).entered e10
  have k810 := k9.trans k10
  have h5 : w8.heap.size ≤ b5 ∧ b5 < w9.heap.size := ⟨o5, O.n.lt⟩
  have h2' : w8.heap.size ≤ b2 ∧ b2 < w9.heap.size := ⟨o2, O.p.lt⟩
  have h3 : w8.heap.size ≤ b3 ∧ b3 < w9.heap.size := ⟨o3, O.t.lt⟩
  have hp := fun g hg => And.intro (op g hg) (O.sp.lt (g := g) hg).1
  have ht := fun g hg => And.intro (ot g hg) (O.st.lt (g := g) hg).1
  have z9 := k9.size
  have O10 := O.chgLo (S := none_) k10 (lo := w8.heap.size) (N := w9.heap.size) (fun _ h => h.elim) h5 h2' h3 hp ht
  have G10 : A8 w w10 w.heap.size w1.heap.size w5.heap.size #[.slice q1 l c1, .slice q2 i c2, .int .i64 k, .int .i64 st] ps ts i 0 w9.heap.size w9.heap.size :=
    ⟨k08.trans k810, k810.blk A8' (fun x => x), k810.blk R8 (fun x => x), ⟨Nat.le_refl _, by omega, by omega, by omega⟩, d10, none, 0, [], k810.blk S8 (fun x => x), SE.nil _ _ _ _, ⟨rfl, fun _ _ _ h => by simp at h, fun _ _ _ _ _ h => by simp at h⟩⟩
  refine Calls.use (goneLo O10 h5 h2' h3 hp ht (by omega) (w9.heap.size + 1)
    (fun j w' => A8 w w' w.heap.size w1.heap.size w5.heap.size #[.slice q1 l c1, .slice q2 i c2, .int .i64 k, .int .i64 st] ps ts i j w9.heap.size w9.heap.size ∧ RecOk w' (w9.heap.size + 1) rc .ready none ∧ w10.heap.size ≤ w'.heap.size)
    (fun w' => B8 w w' w1.heap.size w9.heap.size ∧ RecOk w' (w9.heap.size + 1) rc .done (some .ret))
    ⟨G10, RecOk.new hrc r10, Nat.le_refl _⟩ ?_) ?_
  · rintro j wa wb q hj hl64 ⟨Ga, ra, za⟩ kab sq
    refine (round8 (lo := w8.heap.size) h1.len h2.len ap (Ga.stepN kab) hj hl64 hrc (ra.chg kab (fun x => x)) sq (by omega) (by omega) (Nat.le_refl _) (by have := k08.size; omega)).mono ?_
    rintro b wc ⟨cc, hT, hF⟩
    exact ⟨cc, fun h => ⟨(hT h).2.1, (hT h).2.2, by have := kab.size; have := cc.size; omega⟩, hF⟩
  · have fin : ∀ {w' : World} {b : Bool}, b = true → A8 w w' w.heap.size w1.heap.size w5.heap.size #[.slice q1 l c1, .slice q2 i c2, .int .i64 k, .int .i64 st] ps ts i (cnt i l).1 w9.heap.size w9.heap.size → canStore w' (⟨w1.heap.size, 0, none⟩ : Addr) 1 ∧ ∀ w14 : World, w14 = setCells (⟨w1.heap.size, 0, none⟩ : Addr) 0 [.bool b] w' →
        marksOk (w9.heap.size :: ([] : List Nat)) w14 ∧ ∃ b4 : Bool, (takeAll (w9.heap.size :: ([] : List Nat)) w14).cell? (⟨w1.heap.size, 0, none⟩ : Addr) = some (.bool b4) ∧ ((.bool b4 : Value) = .bool true ∧ Chg none_ w (takeAll (w9.heap.size :: ([] : List Nat)) w14)) := fun {w' b} hb G => by
      obtain ⟨_, oa, ob, oc⟩ := G.o
      refine ⟨G.R.canStore (by simp), fun w14 e14 => ?_⟩
      have R14 := G.R.over e14 rfl
      have c14 : Chg (fun k => k = w1.heap.size) w' w14 := (Chg.refl _ w').sets' e14 (.inl rfl)
      have M14 : Marks w [w9.heap.size] w14 := ⟨by simp, fun r hr => by simp at hr; subst hr; exact c14.at' G.d (by omega), fun r hr => by simp at hr; omega⟩
      exact ⟨M14.ok, b, ((R14.take (M14.not R14)).cell 0).trans rfl, by rw [hb], M14.take (G.chg.up c14 (fun g hg => by omega))⟩
    rintro v w11 (⟨G11, r11, z11⟩ | ⟨B11, r11⟩)
    · refine ⟨v, rfl, r11.after (by decide) fun w12 c12 => ?_⟩
      have G12 := G11.stepL c12 r11
      obtain ⟨Q, C, hs, B, S, RR⟩ := G12.seen
      refine ⟨_, _, _, (G12.A.cell 0).trans rfl, _, _, _, (G12.A.cell0 1).trans rfl, Calls.use (count21 w12 (by omega) (by omega)) ?_⟩
      rintro _ _ ⟨rfl, rfl⟩
      refine ⟨_, _, rfl, bc (fun hne => ⟨_, _, _, (B.cell 0).trans rfl, bc (fun _ => fin rfl G12) (fun hz => ?_)⟩) (fun heq => bc (fun _ => ⟨_, _, _, (B.cell 0).trans rfl, fin (by simp) G12⟩) (fun hne => ?_))⟩
      · exfalso
        have h0 : (cnt i l).2 ≠ 0 := by simpa using hne
        have : (cnt i l).1 = 0 := by
          unfold cnt at h0 ⊢
          split at h0
          · exact absurd rfl h0
          · rename_i hh; rw [if_neg hh]
        rw [this] at hz
        simp at hz
      · exfalso
        simp at heq hne
        exact hne heq
    · refine ⟨v, rfl, r11.afterRet (by decide) fun w12 c12 => ?_⟩
      obtain ⟨oa, ob⟩ := B11.o
      have R12 := c12.blk B11.R (by omega)
      have M12 : Marks w [w9.heap.size] w12 := ⟨by simp, fun r hr => by simp at hr; subst hr; exact c12.at' B11.d (by omega), fun r hr => by simp at hr; omega⟩
      exact ⟨M12.ok, true, ((R12.take (M12.not R12)).cell 0).trans rfl, rfl, M12.take (B11.chg.up c12 (fun g hg => by omega))⟩
end Go.Proofs.YtdlbmmodlkmofaaDoor
