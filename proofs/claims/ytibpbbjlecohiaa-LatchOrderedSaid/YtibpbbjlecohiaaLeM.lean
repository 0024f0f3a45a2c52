import Derived.Test.YtibpbbjlecohiaaLeH
set_option maxRecDepth 20000
namespace Go.Proofs.Ytibpbbjlecohiaa
namespace Full
open Go Go.Vc Go.RowKit
/-! # pairs: which mutexes stand ahead of which -/
def mutF (a : Act) : Int × Bool := if a.1 = 1 ∨ a.1 = 2 then (a.2.1, true) else if a.1 = 7 then (a.2.2, true) else (0, false)
theorem mutexOf61 (a : Act) (w : World) : Calls Try.prog 61 #[.agg #[.int .i64 a.1, .int .i64 a.2.1, .int .i64 a.2.2]] w (Ret fun v w' => v = .tuple #[.int .i64 (mutF a).1, .bool (mutF a).2] ∧ Chg none_ w w') := by
  refine f61.calls _ _ _ ?_
  unfold f61.wp
  refine newBox fun w1 B1 k1 _ => ⟨_, (B1.cell 0).trans rfl, fun x w' => x = decide (a.1 = 1 ∨ a.1 = 2) ∧ w' = w1, ?_, ?_⟩
  · rintro x _ ⟨rfl, rfl⟩
    by_cases h : a.1 = 1 ∨ a.1 = 2
    · refine bcT (decide_eq_true h) ⟨_, (B1.cell0 1).trans rfl, ?_, k1⟩
      rw [mutF, if_pos h]
    · refine bcF (decide_eq_false h) (bc (fun h7 => ⟨_, (B1.cell0 2).trans rfl, ?_, k1⟩) fun h7 => ⟨?_, k1⟩)
      · have h7 : a.1 = 7 := by simpa using h7
        rw [mutF, if_neg h, if_pos h7]
      · have h7 : ¬ a.1 = 7 := by simpa using h7
        rw [mutF, if_neg h, if_neg h7]
  · refine bc (fun h => ⟨?_, rfl⟩) fun h => ⟨?_, rfl⟩
    · have h' : a.1 = 1 := by simpa using h
      rw [h, decide_eq_true (.inl h')]
    · have h' : ¬ a.1 = 1 := by simpa using h
      cases h2 : (a.1 == 2) with
      | true => exact (decide_eq_true (.inr (by simpa using h2))).symm
      | false => exact (decide_eq_false fun hh => hh.elim h' (by simpa using h2)).symm
/-- what stands ahead of what, as it lies -/
structure PrL (w0 w : World) (m1 : Nat) (L : List KV) (there : Int → Bool) (must : Int → Int → Bool) (xs : List Nat) : Prop where
  mv : Mv w m1 L
  th : ∀ m, (lkL L m).isSome = there m
  inn : ∀ m v, lkL L m = some v → ∃ (b : Nat) (Lb : List KV), v = .map (some b) ∧ Mv w b Lb ∧ w0.heap.size ≤ b ∧ b ≠ m1 ∧ b ∉ xs ∧ (∀ h, (lkL Lb h).isSome = must h m) ∧ ∀ h u, lkL Lb h = some u → ∃ x : Int, u = .int .i64 x
  one : ∀ m m' b, lkL L m = some (.map (some b)) → lkL L m' = some (.map (some b)) → m = m'
  no : ∀ m h, there m = false → must h m = false
  lo : w0.heap.size ≤ m1
  nx : m1 ∉ xs
section
variable {w0 w w' : World} {m1 : Nat} {L : List KV} {there : Int → Bool} {must : Int → Int → Bool} {xs : List Nat}
theorem PrL.chg (h : PrL w0 w m1 L there must xs) {T : Nat → Prop} (k : Chg T w w') (h1 : ¬ T m1) (h2 : ∀ m b, lkL L m = some (.map (some b)) → ¬ T b) : PrL w0 w' m1 L there must xs :=
  ⟨h.mv.chg k h1, h.th, fun m v hv => by
    obtain ⟨b, Lb, rfl, M, r⟩ := h.inn m v hv
    exact ⟨b, Lb, rfl, M.chg k (h2 m b hv), r⟩, h.one, h.no, h.lo, h.nx⟩
theorem PrL.chgN (h : PrL w0 w m1 L there must xs) (k : Chg none_ w w') : PrL w0 w' m1 L there must xs := h.chg k (fun x => x) fun _ _ _ x => x
/-- what is turned of excluded blocks is nothing of it -/
theorem PrL.chgX (h : PrL w0 w m1 L there must xs) {x : Nat} (hx : x ∈ xs) (k : Chg (fun g => g = x) w w') : PrL w0 w' m1 L there must xs :=
  h.chg k (fun e => h.nx (by rw [e]; exact hx)) fun m b hb e => by
    obtain ⟨b', Lb, hv, _, _, _, hn, _⟩ := h.inn m _ hb
    cases hv
    exact hn (by rw [e]; exact hx)
theorem PrL.lt (h : PrL w0 w m1 L there must xs) {m : Int} {b : Nat} (hb : lkL L m = some (.map (some b))) : b < w.heap.size := by
  obtain ⟨b', Lb, hv, M, _⟩ := h.inn m _ hb
  cases hv
  exact M.lt
/-- a new block is none of its -/
theorem PrL.also (h : PrL w0 w m1 L there must xs) {x : Nat} (hx : w.heap.size ≤ x) : PrL w0 w m1 L there must (x :: xs) :=
  ⟨h.mv, h.th, fun m v hv => by
    obtain ⟨b, Lb, rfl, M, a1, a2, a3, a4⟩ := h.inn m v hv
    refine ⟨b, Lb, rfl, M, a1, a2, fun hm => ?_, a4⟩
    rcases List.mem_cons.1 hm with e | hm
    · have := M.lt; omega
    · exact a3 hm, h.one, h.no, h.lo, fun hm => by
    rcases List.mem_cons.1 hm with e | hm
    · have := h.mv.lt; omega
    · exact h.nx hm⟩
theorem PrL.less (h : PrL w0 w m1 L there must xs) {ys : List Nat} (hs : ∀ y ∈ ys, y ∈ xs) : PrL w0 w m1 L there must ys :=
  { h with inn := fun m v hv => (by
      obtain ⟨b, Lb, rfl, M, a1, a2, a3, a4⟩ := h.inn m v hv
      exact ⟨b, Lb, rfl, M, a1, a2, fun hm => a3 (hs _ hm), a4⟩), nx := fun hm => h.nx (hs _ hm) }
def setF {α : Type} (f : Int → α) (x : Int) (v : α) : Int → α := fun y => if y = x then v else f y
/-- a mutex more -/
theorem PrL.new (h : PrL w0 w m1 L there must xs) {m : Int} (hm : ok64 m) (ht : there m = false) (hxs : ∀ x ∈ xs, x < w.heap.size) (hw : w0.heap.size ≤ w.heap.size) :
    (Instr.makeMap 138 none).run Try.prog w = .ok (.map (some w.heap.size)) (w.alloc (.map #[] 0)) ∧ ∃ w', (Instr.mapUpdate 136 (.map (some m1)) (.int .i64 m) (.map (some w.heap.size))).run Try.prog (w.alloc (.map #[] 0)) = .ok () w' ∧ (∃ L', PrL w0 w' m1 L' (setF there m true) must xs) ∧ Chg (fun g => g = m1) w w' := by
  have k1 : Chg none_ w (w.alloc (.map #[] 0)) := (Chg.refl none_ w).alloc _
  have hml := h.mv.lt
  have M0 := Mv.made w
  have h1 := h.chgN k1
  obtain ⟨w', L', hr, M', c, hl, _⟩ := h1.mv.put key3 Try.underlying136 hm (.map (some w.heap.size))
  have kk : Chg (fun g => g = m1) w w' := (k1.mono fun _ _ h => h.elim).trans' c fun g hg => .inl hg
  have nm : ∀ m' v, lkL L m' = some v → m' ≠ m := fun m' v hv e => by
    have := h.th m'
    rw [hv, e, ht] at this; cases this
  refine ⟨rfl, w', hr, ⟨L', M', fun y => ?_, fun y v hv => ?_, fun y y' b hb hb' => ?_, fun y x hy => ?_, h.lo, h.nx⟩, kk⟩
  · rw [hl, setF]
    by_cases e : y = m
    · rw [if_pos e, if_pos e]; rfl
    · rw [if_neg e, if_neg e]; exact h.th y
  · rw [hl] at hv
    by_cases e : y = m
    · rw [if_pos e] at hv
      cases hv
      refine ⟨_, [], rfl, M0.chg c (by omega), hw, by omega, fun hx => by have := hxs _ hx; omega, fun x => ?_, fun x u hu => by simp [lkL] at hu⟩
      rw [e, h.no m x ht]; rfl
    · rw [if_neg e] at hv
      obtain ⟨b, Lb, rfl, M, a1, a2, a3, a4, a5⟩ := h1.inn y v hv
      exact ⟨b, Lb, rfl, M.chg c a2, a1, a2, a3, a4, a5⟩
  · rw [hl] at hb hb'
    by_cases e : y = m <;> by_cases e' : y' = m
    · rw [e, e']
    · rw [if_pos e] at hb
      rw [if_neg e'] at hb'
      cases hb
      have := h.lt hb'
      omega
    · rw [if_neg e] at hb
      rw [if_pos e'] at hb'
      cases hb'
      have := h.lt hb
      omega
    · rw [if_neg e] at hb
      rw [if_neg e'] at hb'
      exact h.one y y' b hb hb'
  · rw [setF] at hy
    by_cases e : y = m
    · rw [if_pos e] at hy; cases hy
    · rw [if_neg e] at hy; exact h.no y x hy
/-- what is found of a mutex -/
theorem PrL.look (h : PrL w0 w m1 L there must xs) {m : Int} (hm : ok64 m) : (there m = false ∧ (Instr.lookup 136 (.map (some m1)) (.int .i64 m) false).run Try.prog w = .ok (.map none) w) ∨
    (there m = true ∧ ∃ b, lkL L m = some (.map (some b)) ∧ (Instr.lookup 136 (.map (some m1)) (.int .i64 m) false).run Try.prog w = .ok (.map (some b)) w) := by
  have hr := h.mv.look (t := 136) (z := .map none) key3 Try.underlying136 (by kernel_rfl) hm
  have ht := h.th m
  cases hl : lkL L m with
  | none =>
    rw [hl] at hr ht
    exact .inl ⟨ht.symm, hr⟩
  | some v =>
    obtain ⟨b, Lb, rfl, _⟩ := h.inn m v hl
    rw [hl] at hr ht
    exact .inr ⟨ht.symm, b, rfl, hr⟩
def must1 (must : Int → Int → Bool) (x m : Int) : Int → Int → Bool := fun h y => if h = x ∧ y = m then true else must h y
/-- one more ahead of a mutex -/
theorem PrL.inc (h : PrL w0 w m1 L there must xs) {m x : Int} (hx : ok64 x) {b : Nat} (hb : lkL L m = some (.map (some b))) :
    ∃ n : Int, (Instr.lookup 138 (.map (some b)) (.int .i64 x) false).run Try.prog w = .ok (.int .i64 n) w ∧ ∀ n' : Int, ∃ w', (Instr.mapUpdate 138 (.map (some b)) (.int .i64 x) (.int .i64 n')).run Try.prog w = .ok () w' ∧ PrL w0 w' m1 L there (must1 must x m) xs ∧ Chg (fun g => g = b) w w' := by
  obtain ⟨b', Lb, hv, M, a1, a2, a3, a4, a5⟩ := h.inn m _ hb
  cases hv
  have hr := M.look (t := 138) (z := .int .i64 0) key3 Try.underlying138 (by kernel_rfl) hx
  have hn : ∃ n : Int, (lkL Lb x).getD (.int .i64 0) = .int .i64 n := by
    cases hl : lkL Lb x with
    | none => exact ⟨0, rfl⟩
    | some u =>
      obtain ⟨n, rfl⟩ := a5 x u hl
      exact ⟨n, rfl⟩
  obtain ⟨n, hn⟩ := hn
  rw [hn] at hr
  refine ⟨n, hr, fun n' => ?_⟩
  obtain ⟨w', L', hr', M', c, hl, _⟩ := M.put key3 Try.underlying138 hx (.int .i64 n')
  refine ⟨w', hr', ⟨h.mv.chg c (Ne.symm a2), h.th, fun y v hv => ?_, h.one, fun y z hy => ?_, h.lo, h.nx⟩, c⟩
  · obtain ⟨b2, Lb2, rfl, M2, c1, c2, c3, c4, c5⟩ := h.inn y v hv
    by_cases e : y = m
    · subst e
      rw [hb] at hv
      cases hv
      refine ⟨b, L', rfl, M', a1, a2, a3, fun z => ?_, fun z u hu => ?_⟩
      · rw [hl, must1]
        by_cases ez : z = x
        · rw [if_pos ez, if_pos ⟨ez, rfl⟩]; rfl
        · rw [if_neg ez, if_neg fun hh => ez hh.1]; exact a4 z
      · rw [hl] at hu
        by_cases ez : z = x
        · rw [if_pos ez] at hu; cases hu; exact ⟨n', rfl⟩
        · rw [if_neg ez] at hu; exact a5 z u hu
    · refine ⟨b2, Lb2, rfl, M2.chg c fun eb => e (h.one y m b (by rw [hv, eb]) hb), c1, c2, c3, fun z => ?_, c5⟩
      rw [must1, if_neg fun hh => e hh.2]; exact c4 z
  · rw [must1, if_neg fun hh => ?_]
    · exact h.no y z hy
    · have := h.th y
      rw [hh.2, hb] at this
      rw [hh.2, ← this] at hy; cases hy
theorem PrL.mid (h : PrL w0 w m1 L there must xs) {must' : Int → Int → Bool} (e : ∀ h m, must h m = must' h m) : PrL w0 w m1 L there must' xs := by
  have : must = must' := by funext x y; exact e x y
  rw [← this]; exact h
end
theorem nilM (b : Nat) (w : World) : (eqSem .eql 138 (.tmp 40) (.const (.map none)) (.map (some b)) (.map none)).run Try.prog w = .ok (.bool false) w := by kernel_rfl
theorem nilM0 (w : World) : (eqSem .eql 138 (.tmp 40) (.const (.map none)) (.map none) (.map none)).run Try.prog w = .ok (.bool true) w := by kernel_rfl
end Full
end Go.Proofs.Ytibpbbjlecohiaa
set_option maxRecDepth 20000
namespace Go.Proofs.Ytibpbbjlecohiaa
namespace Full
open Go Go.Vc Go.RowKit
structure PrS where
  held : Int → Bool
  there : Int → Bool
  must : Int → Int → Bool
def prStep (p : PrS) (a : Act) : PrS :=
  if (mutF a).2 = false then p
  else if a.1 = 2 then ⟨setF p.held (mutF a).1 false, p.there, p.must⟩
  else ⟨if a.1 = 1 then setF p.held (mutF a).1 true else p.held, setF p.there (mutF a).1 true, fun h y => p.must h y || (decide (y = (mutF a).1) && p.held h && decide (h ≠ (mutF a).1))⟩
abbrev TM := (Int → Bool) × (Int → Int → Bool)
def prProg (t : TM) (ys : List Act) : TM :=
  let p := ys.foldl prStep ⟨fun _ => false, t.1, t.2⟩
  (p.there, p.must)
def prAll (acts : List (List Act)) : TM := acts.foldl prProg (fun _ => false, fun _ _ => false)
theorem fold_next {α β : Type} {f : β → α → β} {b : β} {l : List α} {j : Nat} {x : α} (hx : l[j]? = some x) : (l.take (j + 1)).foldl f b = f ((l.take j).foldl f b) x := by
  rw [List.take_add_one, hx, List.foldl_append]; rfl
theorem PrL.chgI {w0 w w' : World} {m1 : Nat} {L : List KV} {there : Int → Bool} {must : Int → Int → Bool} {xs : List Nat} (h : PrL w0 w m1 L there must xs) {r b : Nat} {Lh : List KV} {S : List Int} (i : It w r b Lh S) (k : Chg (fun g => g = r) w w') : PrL w0 w' m1 L there must xs :=
  h.chg k (i.nmap h.mv) fun m b' hb e => by
    obtain ⟨b2, Lb, hv, M, _⟩ := h.inn m _ hb
    cases hv
    exact i.nmap M e
theorem ok64_mut {m : Int} (h : 0 ≤ m ∧ m < 64) : ok64 m := by
  show (Lit.int .i64 m).wf = true
  simp [Lit.wf, IntKind.min, IntKind.max, IntKind.signed, IntKind.bits]
  omega
def mustS (must : Int → Int → Bool) (m : Int) (S : List Int) : Int → Int → Bool := fun h y => must h y || (decide (y = m) && decide (h ∈ S) && decide (h ≠ m))
theorem pairs62 {w : World} {z : Hd} {acts : List (List Act)} (hA : ActsR w z acts) (hz : z.2.1 ≤ 1000000) (hl : ∀ ys ∈ acts, ys.length ≤ 1000000) (hm : ∀ ys ∈ acts, ∀ a ∈ ys, (mutF a).2 = true → 0 ≤ (mutF a).1 ∧ (mutF a).1 < 64) :
    Calls Try.prog 62 #[.slice z.1 z.2.1 z.2.2] w (Ret fun v w' => ∃ m1 L, v = .map (some m1) ∧ PrL w w' m1 L (prAll acts).1 (prAll acts).2 [] ∧ Chg none_ w w') := by
  refine f62.calls _ _ _ ?_
  unfold f62.wp
  have hzl := hA.len
  have hmk : ∀ (t : TypeId) (w : World), t = 136 ∨ t = 138 → (Instr.makeMap t none).run Try.prog w = .ok (.map (some w.heap.size)) (w.alloc (.map #[] 0)) := fun t w h => by
    rcases h with rfl | rfl <;> rfl
  have k1 : Chg none_ w (w.alloc (.map #[] 0)) := (Chg.refl none_ w).alloc _
  refine ⟨some w.heap.size, _, hmk 136 w (.inl rfl), ?_⟩
  have P0 : PrL w (w.alloc (.map #[] 0)) w.heap.size [] (prAll (acts.take 0)).1 (prAll (acts.take 0)).2 [] := ⟨Mv.made w, fun m => rfl, fun m v hv => by simp [lkL] at hv, fun m m' b hb => by simp [lkL] at hb, fun m h _ => rfl, Nat.le_refl _, by simp⟩
  generalize w.alloc (.map #[] 0) = w1 at k1 P0
  generalize w.heap.size = m1 at P0
  refine ⟨fun x1 w' => ∃ (j : Nat) (L : List KV), x1 = (j : Int) ∧ j ≤ z.2.1 ∧ PrL w w' m1 L (prAll (acts.take j)).1 (prAll (acts.take j)).2 [] ∧ Chg none_ w w', fun x1 _ => z.2.1 - x1.toNat, ⟨0, [], rfl, Nat.zero_le _, P0, k1⟩, ?_⟩
  rintro _ w2 ⟨j, L, rfl, hj, P2, k2⟩
  refine bc (fun hlt => ?_) fun hge => ?_
  rotate_left
  · have hjl : j = z.2.1 := by have := of_decide_eq_false hge; omega
    rw [hjl, List.take_of_length_le (by omega)] at P2
    exact ⟨m1, L, rfl, P2, k2⟩
  have hj' : j < z.2.1 := by simpa using hlt
  obtain ⟨ys, hy⟩ := get_ex (l := acts) (i := j) (by omega)
  obtain ⟨_, az, hd, hq, hc0, hR⟩ := hA.at' hy
  have hc := k2.cellS hc0 fun x => x
  have hlen := hR.len
  have hyl := hl ys (List.mem_of_getElem? hy)
  have hmy := hm ys (List.mem_of_getElem? hy)
  rw [wrapS (x := (j : Int) + 1) (by omega) (by omega)]
  refine onPtr_q hq ⟨by omega, by omega, _, _, _, hc, some w2.heap.size, _, hmk 138 w2 (.inr rfl), ?_⟩
  have k23 : Chg none_ w2 (w2.alloc (.map #[] 0)) := (Chg.refl none_ w2).alloc _
  have P3 := (P2.also (Nat.le_refl _)).chgN k23
  have H3 : Mv (w2.alloc (.map #[] 0)) w2.heap.size [] := Mv.made w2
  have hfold : prAll (acts.take (j + 1)) = prProg (prAll (acts.take j)) ys := fold_next hy
  have k3 := k2.trans k23
  have hm2 : w.heap.size ≤ w2.heap.size := k2.size
  generalize hT : prAll (acts.take j) = t0 at *
  generalize w2.alloc (.map #[] 0) = w3 at k3 P3 H3 k23
  generalize w2.heap.size = m2 at P3 H3 hm2 ⊢
  refine ⟨fun x2 w' => ∃ (i : Nat) (L Lh : List KV) (p : PrS), x2 = (i : Int) ∧ i ≤ hd.2.1 ∧ p = (ys.take i).foldl prStep ⟨fun _ => false, t0.1, t0.2⟩ ∧ PrL w w' m1 L p.there p.must [m2] ∧ Mv w' m2 Lh ∧ (∀ h, (lkL Lh h).isSome = p.held h) ∧ Chg none_ w w', fun x2 _ => hd.2.1 - x2.toNat, ⟨0, L, [], _, rfl, Nat.zero_le _, rfl, P3, H3, fun h => rfl, k3⟩, ?_⟩
  rintro _ w4 ⟨i, L, Lh, p, rfl, hi, hp, P4, H4, hh, k4⟩
  refine bc (fun hlt => ?_) fun hge => ?_
  rotate_left
  · have hil : i = hd.2.1 := by have := of_decide_eq_false hge; omega
    rw [hil, List.take_of_length_le (by omega)] at hp
    refine ⟨⟨j + 1, L, by omega, hj', ?_, k4⟩, meas hj'⟩
    rw [hfold, prProg, ← hp]
    exact P4.less fun y hy => by cases hy
  have hi' : i < hd.2.1 := by simpa using hlt
  have hR4 := hR.chg k4
  obtain ⟨a, x, hqx, hx, hr⟩ := hR4.ex hi'
  have hnext : (ys.take (i + 1)).foldl prStep ⟨fun _ => false, t0.1, t0.2⟩ = prStep p x := by rw [fold_next hx, hp]
  rw [wrapS (x := (i : Int) + 1) (by omega) (by omega)]
  refine onPtr_q hqx ⟨by omega, by omega, _, _, _, hr, boxed rfl rfl fun w6 B6 k6 s6 => ⟨_, _, _, B6.reads0, Calls.use (mutexOf61 x w6) ?_⟩⟩
  rintro _ w7 ⟨rfl, k7⟩
  have k47 := k6.trans k7
  have k07 := k4.trans k47
  have B7 := k7.blk B6 fun x => x
  have P7 := P4.chgN k47
  have H7 := H4.chgN k47
  have hm2s : m2 < w4.heap.size := H4.lt
  generalize w4.heap.size = bx at B7 hm2s ⊢
  have nextI : ∀ {w' : World} {L' Lh' : List KV}, PrL w w' m1 L' (prStep p x).there (prStep p x).must [m2] → Mv w' m2 Lh' → (∀ h, (lkL Lh' h).isSome = (prStep p x).held h) → Chg none_ w w' →
      (∃ (i' : Nat) (L Lh : List KV) (p : PrS), ((i : Int) + 1) = (i' : Int) ∧ i' ≤ hd.2.1 ∧ p = (ys.take i').foldl prStep ⟨fun _ => false, t0.1, t0.2⟩ ∧ PrL w w' m1 L p.there p.must [m2] ∧ Mv w' m2 Lh ∧ (∀ h, (lkL Lh h).isSome = p.held h) ∧ Chg none_ w w') ∧ hd.2.1 - ((i : Int) + 1).toNat < hd.2.1 - (i : Int).toNat := fun P H hh k =>
    ⟨⟨i + 1, _, _, _, by omega, hi', hnext.symm, P, H, hh, k⟩, meas hi'⟩
  refine ⟨_, _, rfl, bc (fun hb => ?_) fun hb => ?_⟩
  · have hb : (mutF x).2 = false := by simpa using hb
    have e : prStep p x = p := by rw [prStep, if_pos hb]
    rw [e] at nextI
    exact nextI P7 H7 hh k07
  have hb : (mutF x).2 = true := by simpa using hb
  have hmx := hmy x (List.mem_of_getElem? hx) hb
  have okm := ok64_mut hmx
  have hb' : ¬ (mutF x).2 = false := by rw [hb]; decide
  generalize hmm : (mutF x).1 = m at *
  refine ⟨_, (B7.cell 0).trans rfl, bc (fun h2 => ?_) fun h2 => ?_⟩
  · have h2 : x.1 = 2 := by simpa using h2
    have e : prStep p x = ⟨setF p.held m false, p.there, p.must⟩ := by rw [prStep, if_neg hb', if_pos h2, hmm]
    rw [e] at nextI
    obtain ⟨w8, Lh', hrun, H8, k8, hl8, _⟩ := H7.drop key3 Try.underlying138 okm 0
    refine ⟨w8, hrun, nextI (P7.chgX (by simp) k8) H8 (fun h => ?_) (k07.up k8 fun y hy => by rw [hy]; exact hm2)⟩
    rw [hl8]
    simp only [setF]
    by_cases e : h = m
    · rw [if_pos e, if_pos e]; rfl
    · rw [if_neg e, if_neg e]; exact hh h
  have h2 : ¬ x.1 = 2 := by simpa using h2
  have e : prStep p x = ⟨if x.1 = 1 then setF p.held m true else p.held, setF p.there m true, fun h y => p.must h y || (decide (y = m) && p.held h && decide (h ≠ m))⟩ := by rw [prStep, if_neg hb', if_neg h2, hmm]
  rw [e] at nextI
  refine ⟨fun w' => ∃ L, PrL w w' m1 L (setF p.there m true) p.must [m2] ∧ Mv w' m2 Lh ∧ Blk w' bx 94 #[.int .i64 x.1, .int .i64 x.2.1, .int .i64 x.2.2] ∧ Chg none_ w w', ?_, ?_⟩
  rotate_left
  · rcases P7.look okm with ⟨ht, hrun⟩ | ⟨ht, b, hlb, hrun⟩
    · refine ⟨none, w7, hrun, true, w7, nilM0 w7, bcT rfl ?_⟩
      obtain ⟨hmk', w13, hr13, ⟨L', P13⟩, k13⟩ := P7.new okm ht (fun y hy => by rw [List.mem_singleton.1 hy]; exact H7.lt) k07.size
      refine ⟨some w7.heap.size, _, hmk', w13, hr13, L', P13, H7.chg k13 fun e => P7.nx (by rw [← e]; simp), k13.blk B7 fun e => P7.mv.ne B7 e.symm, k07.up k13 fun y hy => by rw [hy]; exact P7.lo⟩
    · refine ⟨some b, w7, hrun, false, w7, nilM b w7, bcF rfl ⟨L, ?_, H7, B7, k07⟩⟩
      have : setF p.there m true = p.there := by
        funext y
        rw [setF]
        by_cases e : y = m
        · rw [if_pos e, e, ht]
        · rw [if_neg e]
      rw [this]; exact P7
  rintro w9 ⟨L9, P9, H9, B9, k9⟩
  refine H9.range Try.underlying138 fun w14 I14 k14 s14 => ?_
  have hrx : bx < w9.heap.size := B9.lt
  have k014 := k9.trans k14
  have hr0 : w.heap.size ≤ w9.heap.size := k9.size
  have P14 := P9.chgN k14
  have B14 := k14.blk B9 fun x => x
  generalize w9.heap.size = r at I14 hrx hr0 ⊢
  refine ⟨fun w' => ∃ L S, It w' r m2 Lh S ∧ PrL w w' m1 L (setF p.there m true) (mustS p.must m S) [m2] ∧ Blk w' bx 94 #[.int .i64 x.1, .int .i64 x.2.1, .int .i64 x.2.2] ∧ Chg none_ w w', fun w' => Lh.length - seenN w' r,
    ⟨L9, [], I14, P14.mid fun h y => by simp [mustS], B14, k014⟩, ?_⟩
  rintro w15 ⟨L15, S, I15, P15, B15, k15⟩
  refine ⟨fun b w' => (b = true → ∃ h, h ∉ S ∧ It w' r m2 Lh (h :: S) ∧ ItAt w' r m2 h ∧ PrL w w' m1 L15 (setF p.there m true) (mustS p.must m S) [m2] ∧ Blk w' bx 94 #[.int .i64 x.1, .int .i64 x.2.1, .int .i64 x.2.2] ∧ Chg none_ w w') ∧ (b = false → w' = w15 ∧ ∀ q ∈ Lh, q.1 ∈ S), ?_, ?_⟩
  rotate_left
  · rcases I15.next (P := Try.prog) 0 with ⟨hall, hrun⟩ | ⟨h, v, w', hL, hS, hrun, I', A', k'⟩
    · exact ⟨none, w15, hrun, fun h => (by cases h), fun _ => ⟨rfl, hall⟩⟩
    · refine ⟨some (.int .i64 h, v), w', hrun, fun _ => ⟨h, hS, I', A', P15.chgI I15 k', k'.blk B15 (by omega), k15.up k' fun y hy => by rw [hy]; exact hr0⟩, fun h => by cases h⟩
  rintro b w16 ⟨hT1, hF1⟩
  have hseen := I15.seen
  cases b with
  | true =>
    obtain ⟨h, hS, I16, A16, P16, B16, k16⟩ := hT1 rfl
    have hle := I16.le
    simp only [List.length_cons] at hle
    obtain ⟨v, hv, hent⟩ := I16.entry (P := Try.prog) A16
    refine bcT rfl ⟨h, v, w16, hent, bc (fun hne => ?_) fun heq => ?_⟩
    · have hne : h ≠ m := by simpa using hne
      rcases P16.look okm with ⟨ht, _⟩ | ⟨_, b, hlb, hrun⟩
      · rw [setF, if_pos rfl] at ht; cases ht
      obtain ⟨n, hr1, hr2⟩ := P16.inc (H9.ok (h, v) hv) hlb
      obtain ⟨w21, hr3, P21, k21⟩ := hr2 (IntKind.wrap .i64 (n + 1))
      obtain ⟨b', Lb, hbv, Mb, hbl, _, hbn, _⟩ := P16.inn m _ hlb
      cases hbv
      have I21 := I16.chg k21 (fun e => I16.nmap Mb e.symm) (fun e => hbn (by rw [← e]; simp))
      refine ⟨some b, w16, hrun, n, w16, hr1, w21, hr3, ⟨L15, h :: S, I21, P21.mid fun y z => ?_, k21.blk B16 fun e => Mb.ne B16 e.symm, k16.up k21 fun y hy => by rw [hy]; exact hbl⟩, ?_⟩
      · simp only [must1, mustS]
        by_cases e : y = h ∧ z = m
        · rw [if_pos e, e.1, e.2]; simp [hne]
        · rw [if_neg e]
          by_cases ez : z = m
          · have : ¬ y = h := fun ey => e ⟨ey, ez⟩
            simp [ez, this]
          · simp [ez]
      · show Lh.length - seenN w21 r < Lh.length - seenN w15 r
        rw [I21.seen, hseen, List.length_cons]; omega
    · have heq : h = m := by simpa using heq
      refine ⟨⟨L15, h :: S, I16, P16.mid fun y z => ?_, B16, k16⟩, ?_⟩
      · simp only [mustS]
        by_cases ey : y = m
        · simp [ey]
        · have : ¬ y = h := fun e => ey (e.trans heq)
          simp [ey, this]
      · show Lh.length - seenN w16 r < Lh.length - seenN w15 r
        rw [I16.seen, hseen, List.length_cons]; omega
  | false =>
    obtain ⟨rfl, hall⟩ := hF1 rfl
    have hmS : ∀ h y, mustS p.must m S h y = (p.must h y || (decide (y = m) && p.held h && decide (h ≠ m))) := fun h y => by
      have : decide (h ∈ S) = p.held h := by
        cases hl : p.held h with
        | true =>
          have h1 := hh h
          rw [hl] at h1
          obtain ⟨v, hv⟩ := Option.isSome_iff_exists.1 h1
          exact decide_eq_true (hall _ ((lkL_some H9.nd).1 hv))
        | false =>
          refine decide_eq_false fun hS => ?_
          obtain ⟨q, hq, rfl⟩ := I15.sub h hS
          have h1 := hh q.1
          rw [hl, (lkL_some H9.nd).2 (show (q.1, q.2) ∈ Lh from hq)] at h1
          cases h1
      rw [mustS, this]
    have P16 := P15.mid hmS
    refine bcF rfl ⟨_, (B15.cell 0).trans rfl, bc (fun h1 => ?_) fun h1 => ?_⟩
    · have h1 : x.1 = 1 := by simpa using h1
      rw [if_pos h1] at nextI
      obtain ⟨w22, Lh', hrun, H22, k22, hl22, _⟩ := I15.map.put key3 Try.underlying138 okm (.int .i64 1)
      refine ⟨w22, hrun, nextI (P16.chgX (by simp) k22) H22 (fun h => ?_) (k15.up k22 fun y hy => by rw [hy]; exact hm2)⟩
      rw [hl22]
      simp only [setF]
      by_cases e : h = m
      · rw [if_pos e, if_pos e]; rfl
      · rw [if_neg e, if_neg e]; exact hh h
    · have h1 : ¬ x.1 = 1 := by simpa using h1
      rw [if_neg h1] at nextI
      exact nextI P16 I15.map hh k15
end Full
end Go.Proofs.Ytibpbbjlecohiaa
set_option maxRecDepth 20000
namespace Go.Proofs.Ytibpbbjlecohiaa
namespace Full
open Go Go.Vc Go.RowKit
/-! # an order of the mutexes (plain) -/
def mutBad (a : Act) : Bool := (mutF a).2 && (decide ((mutF a).1 < 0) || decide ((mutF a).1 ≥ 64))
def freeM (t : TM) (m : Int) : Bool := t.1 m && (List.range 64).all fun h : Nat => !(t.1 (h : Int) && t.2 (h : Int) m)
def leastF (t : TM) : Option Int := ((List.range 64).find? fun i : Nat => freeM t (i : Int)).map fun i : Nat => (i : Int)
def anyT (there : Int → Bool) : Bool := (List.range 64).any fun i : Nat => there (i : Int)
def orderN (must : Int → Int → Bool) : Nat → (Int → Bool) → List Int → List Int × Int
  | 0, _, out => (out, 0)
  | f + 1, there, out => if anyT there = false then (out, 0) else match leastF (there, must) with
    | none => ([], 84)
    | some m => orderN must f (setF there m false) (out ++ [m])
def orderF (acts : List (List Act)) : List Int × Int :=
  if pmayF acts [] ≠ 0 then ([], pmayF acts []) else if acts.any (fun ys => ys.any mutBad) then ([], 1) else orderN (prAll acts).2 65 (prAll acts).1 []
def InR (there : Int → Bool) : Prop := ∀ m, there m = true → 0 ≤ m ∧ m < 64
theorem anyT_iff {there : Int → Bool} (h : InR there) : anyT there = true ↔ ∃ m, there m = true := by
  unfold anyT
  rw [List.any_eq_true]
  constructor
  · rintro ⟨i, _, hi⟩; exact ⟨_, hi⟩
  · rintro ⟨m, hm⟩
    obtain ⟨h0, h1⟩ := h m hm
    refine ⟨m.toNat, by rw [List.mem_range]; omega, ?_⟩
    rw [show ((m.toNat : Nat) : Int) = m by omega]; exact hm
theorem freeM_iff {t : TM} (h : InR t.1) (m : Int) : freeM t m = true ↔ t.1 m = true ∧ ∀ x, (t.2 x m && t.1 x) = false := by
  unfold freeM
  rw [Bool.and_eq_true, List.all_eq_true]
  constructor
  · rintro ⟨h1, h2⟩
    refine ⟨h1, fun x => ?_⟩
    cases hx : t.1 x with
    | false => simp
    | true =>
      obtain ⟨g0, g1⟩ := h x hx
      have := h2 x.toNat (by rw [List.mem_range]; omega)
      rw [show ((x.toNat : Nat) : Int) = x by omega, hx] at this
      simpa using this
  · rintro ⟨h1, h2⟩
    refine ⟨h1, fun i _ => ?_⟩
    have := h2 (i : Int)
    rw [Bool.and_comm] at this
    rw [this]; rfl
theorem find_least {f : Nat → Bool} {n x : Nat} (hx : x < n) (hf : f x = true) (hl : ∀ i, i < x → f i = false) : (List.range n).find? f = some x := by
  induction n with
  | zero => omega
  | succ n ih =>
    rw [List.range_succ, List.find?_append]
    by_cases h : x < n
    · rw [ih h]; rfl
    · have hxn : x = n := by omega
      subst hxn
      have : (List.range x).find? f = none := by
        rw [List.find?_eq_none]
        intro i hi
        rw [List.mem_range] at hi
        rw [hl i hi]; decide
      rw [this]
      simp [hf]
theorem leastF_some {t : TM} (h : InR t.1) {x : Int} (hx : freeM t x = true) (hl : ∀ m, freeM t m = true → x ≤ m) : leastF t = some x := by
  have ht := ((freeM_iff h x).1 hx).1
  obtain ⟨h0, h1⟩ := h x ht
  have hxx : ((x.toNat : Nat) : Int) = x := by omega
  have := find_least (f := fun i : Nat => freeM t (i : Int)) (n := 64) (x := x.toNat) (by omega) (by rw [hxx]; exact hx) fun i hi => by
    cases hf : freeM t (i : Int) with
    | false => rfl
    | true => have := hl _ hf; omega
  rw [leastF, this, Option.map_some, hxx]
theorem leastF_none {t : TM} (hn : ∀ m, freeM t m = false) : leastF t = none := by
  rw [leastF, Option.map_eq_none_iff, List.find?_eq_none]
  intro i _
  rw [hn]; decide
/-- all that is held, or ahead, is there -/
structure PrS.Ok (p : PrS) : Prop where
  held : ∀ h, p.held h = true → p.there h = true
  must : ∀ h m, p.must h m = true → p.there h = true
  inr : InR p.there
theorem PrS.Ok.step {p : PrS} (h : p.Ok) {a : Act} (ha : (mutF a).2 = true → 0 ≤ (mutF a).1 ∧ (mutF a).1 < 64) : (prStep p a).Ok := by
  unfold prStep
  by_cases h1 : (mutF a).2 = false
  · rw [if_pos h1]; exact h
  rw [if_neg h1]
  have ha := ha (by simpa using h1)
  by_cases h2 : a.1 = 2
  · rw [if_pos h2]
    refine ⟨fun x hx => h.held x ?_, h.must, h.inr⟩
    simp only [setF] at hx
    split at hx
    · cases hx
    · exact hx
  · rw [if_neg h2]
    have up : ∀ x, p.there x = true → setF p.there (mutF a).1 true x = true := fun x hx => by
      rw [setF]; split
      · rfl
      · exact hx
    refine ⟨fun x hx => ?_, fun x m hx => ?_, fun x hx => ?_⟩
    · by_cases h3 : a.1 = 1
      · simp only [if_pos h3, setF] at hx
        simp only [setF]
        by_cases e : x = (mutF a).1
        · rw [if_pos e]
        · rw [if_neg e] at hx ⊢
          exact h.held x hx
      · simp only [if_neg h3] at hx
        exact up x (h.held x hx)
    · simp only [Bool.or_eq_true, Bool.and_eq_true] at hx
      rcases hx with hx | hx
      · exact up x (h.must x m hx)
      · exact up x (h.held x hx.1.2)
    · simp only [setF] at hx
      by_cases e : x = (mutF a).1
      · rw [e]; exact ha
      · rw [if_neg e] at hx; exact h.inr x hx
theorem PrS.Ok.fold : ∀ {ys : List Act} {p : PrS}, p.Ok → (∀ a ∈ ys, (mutF a).2 = true → 0 ≤ (mutF a).1 ∧ (mutF a).1 < 64) → (ys.foldl prStep p).Ok
  | [], p, h, _ => h
  | a :: ys, p, h, ha => PrS.Ok.fold (ys := ys) (h.step (ha a (by simp))) fun x hx => ha x (by simp [hx])
theorem prAll_ok {acts : List (List Act)} (hm : ∀ ys ∈ acts, ∀ a ∈ ys, (mutF a).2 = true → 0 ≤ (mutF a).1 ∧ (mutF a).1 < 64) : InR (prAll acts).1 ∧ ∀ h m, (prAll acts).2 h m = true → (prAll acts).1 h = true := by
  have key : ∀ (acts : List (List Act)) (t : TM), (∀ ys ∈ acts, ∀ a ∈ ys, (mutF a).2 = true → 0 ≤ (mutF a).1 ∧ (mutF a).1 < 64) → InR t.1 → (∀ h m, t.2 h m = true → t.1 h = true) → InR (acts.foldl prProg t).1 ∧ ∀ h m, (acts.foldl prProg t).2 h m = true → (acts.foldl prProg t).1 h = true := fun acts => by
    induction acts with
    | nil => intro t _ h1 h2; exact ⟨h1, h2⟩
    | cons ys acts ih =>
      intro t hm h1 h2
      have ok : (ys.foldl prStep ⟨fun _ => false, t.1, t.2⟩).Ok := PrS.Ok.fold ⟨(fun h hh => by cases hh), h2, h1⟩ fun a ha => hm ys (by simp) a ha
      exact ih (prProg t ys) (fun zs hz => hm zs (by simp [hz])) ok.inr ok.must
  exact key acts _ hm (fun m h => by cases h) (fun h m hh => by cases hh)
theorem InR.del {there : Int → Bool} (h : InR there) (x : Int) : InR (setF there x false) := fun m hm => by
  rw [setF] at hm
  split at hm
  · cases hm
  · exact h m hm
theorem mv_len64 {w : World} {b : Nat} {L : List KV} (h : Mv w b L) (hr : ∀ m, (lkL L m).isSome = true → 0 ≤ m ∧ m < 64) : L.length ≤ 64 := by
  have : (L.map Prod.fst).length ≤ ((List.range 64).map fun i : Nat => (i : Int)).length := by
    refine List.Nodup.length_le_of_subset h.nd fun x hx => ?_
    obtain ⟨p, hp, rfl⟩ := List.mem_map.1 hx
    have h1 := hr p.1 (by rw [(lkL_some h.nd).2 (show (p.1, p.2) ∈ L from hp)]; rfl)
    exact List.mem_map.2 ⟨p.1.toNat, by rw [List.mem_range]; omega, by show ((p.1.toNat : Nat) : Int) = p.1; omega⟩
  simpa using this
section
variable {w0 w w' : World} {m1 : Nat} {L : List KV} {there : Int → Bool} {must : Int → Int → Bool} {xs : List Nat}
/-- a mutex less -/
theorem PrL.del (h : PrL w0 w m1 L there must xs) {m : Int} (hm : ok64 m) (ht : there m = true) (hf : ∀ x, must x m = false) :
    ∃ w' L', (Builtin.delete_ #[136, 3] 0 #[.map (some m1), .int .i64 m]).run Try.prog w = .ok (.tuple #[]) w' ∧ PrL w0 w' m1 L' (setF there m false) must xs ∧ Chg (fun g => g = m1) w w' ∧ L'.length + 1 = L.length := by
  obtain ⟨w', L', hr, M', c, hl, hlen⟩ := h.mv.drop key3 Try.underlying136 hm 0
  have hs := h.th m
  rw [ht] at hs
  have hne : ¬ lkL L m = none := fun e => by rw [e] at hs; cases hs
  rw [if_neg hne] at hlen
  refine ⟨w', L', hr, ⟨M', fun y => ?_, fun y v hv => ?_, fun y y' b hb hb' => ?_, fun y x hy => ?_, h.lo, h.nx⟩, c, hlen⟩
  · rw [hl, setF]
    by_cases e : y = m
    · rw [if_pos e, if_pos e]; rfl
    · rw [if_neg e, if_neg e]; exact h.th y
  · rw [hl] at hv
    by_cases e : y = m
    · rw [if_pos e] at hv; cases hv
    · rw [if_neg e] at hv
      obtain ⟨b, Lb, rfl, M, a1, a2, a3, a4, a5⟩ := h.inn y v hv
      exact ⟨b, Lb, rfl, M.chg c a2, a1, a2, a3, a4, a5⟩
  · rw [hl] at hb hb'
    by_cases e : y = m
    · rw [if_pos e] at hb; cases hb
    · by_cases e' : y' = m
      · rw [if_pos e'] at hb'; cases hb'
      · rw [if_neg e] at hb
        rw [if_neg e'] at hb'
        exact h.one y y' b hb hb'
  · rw [setF] at hy
    by_cases e : y = m
    · rw [e]; exact hf x
    · rw [if_neg e] at hy; exact h.no y x hy
def mustD (must : Int → Int → Bool) (x m : Int) : Int → Int → Bool := fun h y => if h = x ∧ y = m then false else must h y
/-- one less ahead of a mutex -/
theorem PrL.dec (h : PrL w0 w m1 L there must xs) {m x : Int} (hx : ok64 x) {b : Nat} (hb : lkL L m = some (.map (some b))) :
    ∃ w', (Builtin.delete_ #[138, 3] 0 #[.map (some b), .int .i64 x]).run Try.prog w = .ok (.tuple #[]) w' ∧ PrL w0 w' m1 L there (mustD must x m) xs ∧ Chg (fun g => g = b) w w' := by
  obtain ⟨b', Lb, hv, M, a1, a2, a3, a4, a5⟩ := h.inn m _ hb
  cases hv
  obtain ⟨w', L', hr, M', c, hl, _⟩ := M.drop key3 Try.underlying138 hx 0
  refine ⟨w', hr, ⟨h.mv.chg c (Ne.symm a2), h.th, fun y v hv => ?_, h.one, fun y z hy => ?_, h.lo, h.nx⟩, c⟩
  · obtain ⟨b2, Lb2, rfl, M2, c1, c2, c3, c4, c5⟩ := h.inn y v hv
    by_cases e : y = m
    · subst e
      rw [hb] at hv
      cases hv
      refine ⟨b, L', rfl, M', a1, a2, a3, fun z => ?_, fun z u hu => ?_⟩
      · rw [hl, mustD]
        by_cases ez : z = x
        · rw [if_pos ez, if_pos ⟨ez, rfl⟩]; rfl
        · rw [if_neg ez, if_neg fun hh => ez hh.1]; exact a4 z
      · rw [hl] at hu
        by_cases ez : z = x
        · rw [if_pos ez] at hu; cases hu
        · rw [if_neg ez] at hu; exact a5 z u hu
    · refine ⟨b2, Lb2, rfl, M2.chg c fun eb => e (h.one y m b (by rw [hv, eb]) hb), c1, c2, c3, fun z => ?_, c5⟩
      rw [mustD, if_neg fun hh => e hh.2]; exact c4 z
  · rw [mustD]
    split
    · rfl
    · exact h.no y z hy
/-- is nothing ahead of it -/
theorem PrL.none_ahead (h : PrL w0 w m1 L there must xs) {m : Int} {v : Value} (hv : (m, v) ∈ L) : ∃ (b : Nat) (Lb : List KV), v = .map (some b) ∧ lkL L m = some (.map (some b)) ∧ Mv w b Lb ∧ (Lb.length = 0 ↔ ∀ x, must x m = false) := by
  have hl := (lkL_some h.mv.nd).2 hv
  obtain ⟨b, Lb, rfl, M, _, _, _, a4, _⟩ := h.inn m v hl
  refine ⟨b, Lb, rfl, hl, M, fun h0 x => ?_, fun h0 => ?_⟩
  · have : Lb = [] := List.eq_nil_of_length_eq_zero h0
    rw [← a4 x, this]; rfl
  · cases hL : Lb with
    | nil => rfl
    | cons p r =>
      have h1 := a4 p.1
      rw [h0 p.1, (lkL_some M.nd).2 (show (p.1, p.2) ∈ Lb by rw [hL]; simp)] at h1
      cases h1
end
theorem two_err : orderF [[(1, 1, 0), (1, 0, 0)], [(1, 0, 0), (1, 1, 0)]] = ([], 84) := by decide +kernel
end Full
end Go.Proofs.Ytibpbbjlecohiaa
set_option maxRecDepth 20000
namespace Go.Proofs.Ytibpbbjlecohiaa
namespace Full
open Go Go.Vc Go.RowKit
def OrdR (w' : World) (r : List Int × Int) (v : Value) : Prop := ∃ (q : Option Addr) (l c : Nat), v = .tuple #[.slice q l c, .int .i64 r.2] ∧ RE En.int w' q l r.1 ∧ l ≤ maxLen
/-- the least of those met so far -/
def Best (free : Int → Prop) (x : Int) (S : List Int) : Prop := (x = -1 ∧ ∀ m ∈ S, ¬ free m) ∨ (x ∈ S ∧ free x ∧ ∀ m ∈ S, free m → x ≤ m)
theorem Best.no {free : Int → Prop} {x m : Int} {S : List Int} (h : Best free x S) (hm : ¬ free m) : Best free x (m :: S) := by
  rcases h with ⟨h1, h2⟩ | ⟨h1, h2, h3⟩
  · refine .inl ⟨h1, fun y hy => ?_⟩
    rcases List.mem_cons.1 hy with rfl | hy
    · exact hm
    · exact h2 y hy
  · refine .inr ⟨List.mem_cons_of_mem _ h1, h2, fun y hy hf => ?_⟩
    rcases List.mem_cons.1 hy with rfl | hy
    · exact absurd hf hm
    · exact h3 y hy hf
theorem Best.first {free : Int → Prop} {x m : Int} {S : List Int} (h : Best free x S) (hx : x < 0) (hp : ∀ y ∈ S, 0 ≤ y) (hm : free m) : Best free m (m :: S) := by
  rcases h with ⟨h1, h2⟩ | ⟨h1, _, _⟩
  · refine .inr ⟨by simp, hm, fun y hy hf => ?_⟩
    rcases List.mem_cons.1 hy with rfl | hy
    · exact Int.le_refl _
    · exact absurd hf (h2 y hy)
  · have := hp x h1; omega
theorem Best.less {free : Int → Prop} {x m : Int} {S : List Int} (h : Best free x S) (hx : m < x) (hm : free m) (h0 : 0 ≤ m) : Best free m (m :: S) := by
  rcases h with ⟨h1, h2⟩ | ⟨h1, h2, h3⟩
  · omega
  · refine .inr ⟨by simp, hm, fun y hy hf => ?_⟩
    rcases List.mem_cons.1 hy with rfl | hy
    · exact Int.le_refl _
    · have := h3 y hy hf; omega
theorem Best.stay {free : Int → Prop} {x m : Int} {S : List Int} (h : Best free x S) (hx : ¬ x < 0) (hm : ¬ m < x) : Best free x (m :: S) := by
  rcases h with ⟨h1, h2⟩ | ⟨h1, h2, h3⟩
  · omega
  · refine .inr ⟨List.mem_cons_of_mem _ h1, h2, fun y hy hf => ?_⟩
    rcases List.mem_cons.1 hy with rfl | hy
    · omega
    · exact h3 y hy hf
theorem order26 {w : World} {z : Hd} {acts : List (List Act)} (hA : ActsR w z acts) (hb : ∀ ys ∈ acts, ys.length ≤ 10000000000000) (hz : z.2.1 ≤ 1000000000000000) :
    Calls Try.prog 26 #[.slice z.1 z.2.1 z.2.2] w (Ret fun v w' => OrdR w' (orderF acts) v ∧ Chg none_ w w') := by
  refine f26.calls _ _ _ ?_
  unfold f26.wp
  have hzl := hA.len
  have nil : ∀ (w' : World) (e : Int), OrdR w' ([], e) (.tuple #[.slice none 0 0, .int .i64 e]) := fun w' e => ⟨none, 0, 0, rfl, RE.nil _ _ _, Nat.zero_le _⟩
  refine Calls.use (may56 hA hb hz (RE.nil En.int w none) (by omega)) ?_
  rintro _ w1 ⟨rfl, k1⟩
  refine ⟨_, rfl, bc (fun hne => ?_) fun heq => ?_⟩
  · have hne : pmayF acts [] ≠ 0 := by simpa using hne
    rw [orderF, if_pos hne]
    exact ⟨nil _ _, k1⟩
  have heq : pmayF acts [] = 0 := by simpa using heq
  obtain ⟨h16, h4096, _, _, _⟩ := pmay_kind heq
  have hlens : ∀ ys ∈ acts, ys.length ≤ 4096 := fun ys hy => by
    have h1 : ys.length ∈ acts.map List.length := List.mem_map.2 ⟨ys, hy, rfl⟩
    have := le_sum h1
    unfold sumL at h4096
    omega
  have hO : orderF acts = if acts.any (fun ys => ys.any mutBad) then ([], 1) else orderN (prAll acts).2 65 (prAll acts).1 [] := by rw [orderF, if_neg (fun h => h heq)]
  rw [hO]
  refine ⟨fun x1 w' => ∃ j : Nat, x1 = (j : Int) ∧ j ≤ z.2.1 ∧ (acts.take j).any (fun ys => ys.any mutBad) = false ∧ Chg none_ w w', fun x1 _ => z.2.1 - x1.toNat, ⟨0, rfl, Nat.zero_le _, by simp, k1⟩, ?_⟩
  rintro _ w2 ⟨j, rfl, hj, ha, k2⟩
  refine bc (fun hlt => ?_) fun hge => ?_
  · have hj' : j < z.2.1 := by simpa using hlt
    obtain ⟨ys, hy⟩ := get_ex (l := acts) (i := j) (by omega)
    obtain ⟨_, az, hd, hq, hc0, hR⟩ := hA.at' hy
    have hc := k2.cellS hc0 fun x => x
    have hlen := hR.len
    have hyl := hlens ys (List.mem_of_getElem? hy)
    rw [wrapS (x := (j : Int) + 1) (by omega) (by omega)]
    refine onPtr_q hq ⟨by omega, by omega, _, _, _, hc, fun x2 w' => ∃ i : Nat, x2 = (i : Int) ∧ i ≤ hd.2.1 ∧ (ys.take i).any mutBad = false ∧ Chg none_ w w', fun x2 _ => hd.2.1 - x2.toNat, ⟨0, rfl, Nat.zero_le _, by simp, k2⟩, ?_⟩
    rintro _ w3 ⟨i, rfl, hi, hai, k3⟩
    refine bc (fun hlt => ?_) fun hge => ?_
    · have hi' : i < hd.2.1 := by simpa using hlt
      obtain ⟨a, x, hqx, hx, hr⟩ := (hR.chg k3).ex hi'
      rw [wrapS (x := (i : Int) + 1) (by omega) (by omega)]
      refine onPtr_q hqx ⟨by omega, by omega, _, _, _, hr, boxed rfl rfl fun w5 B5 k5 _ => ⟨_, _, _, B5.reads0, Calls.use (mutexOf61 x w5) ?_⟩⟩
      rintro _ w6 ⟨rfl, k6⟩
      have k06 := k3.trans (k5.trans k6)
      have next : mutBad x = false → (∃ i' : Nat, ((i : Int) + 1) = (i' : Int) ∧ i' ≤ hd.2.1 ∧ (ys.take i').any mutBad = false ∧ Chg none_ w w6) ∧ hd.2.1 - ((i : Int) + 1).toNat < hd.2.1 - (i : Int).toNat := fun hb =>
        ⟨⟨i + 1, by omega, hi', by rw [any_next hx, hai, hb]; rfl, k06⟩, meas hi'⟩
      have bad : mutBad x = true → OrdR w6 (if acts.any (fun ys => ys.any mutBad) then ([], 1) else orderN (prAll acts).2 65 (prAll acts).1 []) (.tuple #[.slice none 0 0, .int .i64 1]) ∧ Chg none_ w w6 := fun hb => by
        rw [if_pos (List.any_eq_true.2 ⟨ys, List.mem_of_getElem? hy, List.any_eq_true.2 ⟨x, List.mem_of_getElem? hx, hb⟩⟩)]
        exact ⟨nil _ _, k06⟩
      refine ⟨_, _, rfl, bc (fun hm => bc (fun hlo => bad ?_) fun hlo => bc (fun hhi => bad ?_) fun hhi => next ?_) fun hm => next ?_⟩
      · rw [mutBad, hm, hlo]; rfl
      · rw [mutBad, hm, hlo, hhi]; rfl
      · rw [mutBad, hm, hlo, hhi]; rfl
      · rw [mutBad, hm]; rfl
    · have hil : i = hd.2.1 := by have := of_decide_eq_false hge; omega
      rw [hil, List.take_of_length_le (by omega)] at hai
      exact ⟨⟨j + 1, by omega, hj', by rw [any_next hy, ha, hai]; rfl, k3⟩, meas hj'⟩
  have hjl : j = z.2.1 := by have := of_decide_eq_false hge; omega
  rw [hjl, List.take_of_length_le (by omega)] at ha
  rw [ha]
  simp only [Bool.false_eq_true, if_false]
  have hmr : ∀ ys ∈ acts, ∀ a ∈ ys, (mutF a).2 = true → 0 ≤ (mutF a).1 ∧ (mutF a).1 < 64 := fun ys hy a hay h2 => by
    have h3 : mutBad a = false := by
      cases hb : mutBad a with
      | false => rfl
      | true =>
        have : acts.any (fun ys => ys.any mutBad) = true := List.any_eq_true.2 ⟨ys, hy, List.any_eq_true.2 ⟨a, hay, hb⟩⟩
        rw [this] at ha; cases ha
    rw [mutBad, h2, Bool.true_and, Bool.or_eq_false_iff] at h3
    have h4 := of_decide_eq_false h3.1
    have h5 := of_decide_eq_false h3.2
    omega
  obtain ⟨hin, hmu⟩ := prAll_ok hmr
  refine Calls.use (pairs62 (hA.chg k2) (by omega) (fun ys hy => by have := hlens ys hy; omega) hmr) ?_
  rintro _ w7 ⟨m1, L, rfl, P7, k7⟩
  have k07 := k2.trans k7
  have hw2 : w.heap.size ≤ w2.heap.size := k2.size
  generalize hPR : orderN (prAll acts).2 65 (prAll acts).1 [] = PR
  have hL64 : L.length ≤ 64 := mv_len64 P7.mv fun m hm => hin m (by rw [← P7.th m]; exact hm)
  generalize (prAll acts).1 = there0 at *
  generalize (prAll acts).2 = must at *
  have P7' := P7.mid (must' := fun h m => must h m && there0 h) fun h m => by
    cases hh : must h m with
    | true => rw [hmu h m hh]; rfl
    | false => rfl
  refine ⟨some m1, rfl, fun q2 l2 c2 w' => ∃ (f : Nat) (there : Int → Bool) (out : List Int) (L : List KV), SE En.int w' w2.heap.size 3 q2 l2 c2 out ∧ PrL w2 w' m1 L there (fun h m => must h m && there h) [] ∧ orderN must f there out = PR ∧ L.length < f ∧ f + l2 = 65 ∧ InR there ∧ Chg none_ w2 w', fun _ l2 _ _ => 100 - l2,
    ⟨65, there0, [], L, SE.nil _ _ _ _, P7', hPR, by omega, by omega, hin, k7⟩, ?_⟩
  rintro q2 l2 c2 w8 ⟨f, there, out, L8, S8', P8, hord, hLf, hfl, hinr, k8⟩
  have hol := S8'.len
  obtain ⟨f, rfl⟩ : ∃ f', f = f' + 1 := ⟨f - 1, by omega⟩
  rw [orderN] at hord
  have hany : anyT there = true ↔ L8.length ≠ 0 := by
    rw [anyT_iff hinr]
    constructor
    · rintro ⟨m, hm⟩ h0
      have h1 := P8.th m
      rw [List.eq_nil_of_length_eq_zero h0, hm] at h1
      cases h1
    · intro h0
      cases hL : L8 with
      | nil => rw [hL] at h0; exact absurd rfl h0
      | cons p r =>
        refine ⟨p.1, ?_⟩
        rw [← P8.th, (lkL_some P8.mv.nd).2 (show (p.1, p.2) ∈ L8 by rw [hL]; simp)]; rfl
  refine ⟨_, w8, P8.mv.len Try.underlying136 3, bc (fun hpos => ?_) fun hzero => ?_⟩
  rotate_left
  · have h0 : L8.length = 0 := by have := of_decide_eq_false hzero; omega
    have : anyT there = false := by
      cases h : anyT there with
      | false => rfl
      | true => exact absurd h0 (hany.1 h)
    rw [if_pos this] at hord
    rw [← hord]
    exact ⟨⟨q2, l2, c2, rfl, S8'.re, SE.lmax S8'⟩, k2.trans k8⟩
  have hpos : L8.length ≠ 0 := by have := of_decide_eq_true hpos; omega
  rw [if_neg (by rw [hany.2 hpos]; decide)] at hord
  let free : Int → Prop := fun m => ∀ x, (must x m && there x) = false
  have hkeys : ∀ m v, (m, v) ∈ L8 → there m = true := fun m v hm => by rw [← P8.th, (lkL_some P8.mv.nd).2 hm]; rfl
  refine P8.mv.range Try.underlying136 fun w10 I10 k10 s10 => ?_
  have hr8 : w2.heap.size ≤ w8.heap.size := k8.size
  have hrs : w8.heap.size < w10.heap.size := by omega
  generalize w8.heap.size = r at I10 hr8 hrs ⊢
  refine ⟨fun x3 w' => ∃ S, It w' r m1 L8 S ∧ PrL w2 w' m1 L8 there (fun h m => must h m && there h) [] ∧ Best free x3 S ∧ SE En.int w' w2.heap.size 3 q2 l2 c2 out ∧ Chg none_ w2 w', fun _ w' => L8.length - seenN w' r, ⟨[], I10, P8.chgN k10, .inl ⟨rfl, fun m hm => by cases hm⟩, S8'.chgN k10, k8.trans k10⟩, ?_⟩
  rintro x3 w11 ⟨S, I11, P11, hbest, S11, k11⟩
  have hSpos : ∀ y ∈ S, 0 ≤ y := fun y hy => by
    obtain ⟨p, hp, rfl⟩ := I11.sub y hy
    exact (hinr _ (hkeys p.1 p.2 hp)).1
  refine ⟨fun b w' => (b = true → ∃ h, h ∉ S ∧ It w' r m1 L8 (h :: S) ∧ ItAt w' r m1 h ∧ PrL w2 w' m1 L8 there (fun h m => must h m && there h) [] ∧ SE En.int w' w2.heap.size 3 q2 l2 c2 out ∧ Chg none_ w2 w') ∧ (b = false → w' = w11 ∧ ∀ q ∈ L8, q.1 ∈ S), ?_, ?_⟩
  rotate_left
  · rcases I11.next (P := Try.prog) 0 with ⟨hall, hrun⟩ | ⟨h, v, w', hL, hS, hrun, I', A', k'⟩
    · exact ⟨none, w11, hrun, (fun h => by cases h), fun _ => ⟨rfl, hall⟩⟩
    · refine ⟨some (.int .i64 h, v), w', hrun, fun _ => ⟨h, hS, I', A', P11.chgI I11 k', S11.chg k' fun g hg e => ?_, k11.up k' fun y hy => by rw [hy]; exact hr8⟩, fun h => by cases h⟩
      obtain ⟨cs', B'⟩ := S11.blk hg
      obtain ⟨_, _, _, _, _, _, hr', _⟩ := I11.ex
      rw [e, Blk, hr'] at B'
      cases B'
  rintro b w12 ⟨hT1, hF1⟩
  have hseen := I11.seen
  cases b with
  | true =>
    obtain ⟨m, hS, I12, A12, P12, S12, k12⟩ := hT1 rfl
    have hle := I12.le
    simp only [List.length_cons] at hle
    obtain ⟨v, hv, hent⟩ := I12.entry (P := Try.prog) A12
    obtain ⟨b, Lb, rfl, hlb, Mb, hfree⟩ := P12.none_ahead hv
    have hm0 := (hinr m (hkeys m _ hv)).1
    have go : ∀ {x : Int}, Best free x (m :: S) → (∃ S, It w12 r m1 L8 S ∧ PrL w2 w12 m1 L8 there (fun h m => must h m && there h) [] ∧ Best free x S ∧ SE En.int w12 w2.heap.size 3 q2 l2 c2 out ∧ Chg none_ w2 w12) ∧ L8.length - seenN w12 r < L8.length - seenN w11 r := fun hb =>
      ⟨⟨m :: S, I12, P12, hb, S12, k12⟩, by rw [I12.seen, hseen, List.length_cons]; omega⟩
    refine bcT rfl ⟨m, some b, w12, hent, _, w12, Mb.len Try.underlying138 3, bc (fun h0 => ?_) fun h0 => ?_⟩
    · have h0 : Lb.length = 0 := by have : ((Lb.length : Nat) : Int) = 0 := eq_of_beq h0; omega
      have hf : free m := hfree.1 h0
      refine bc (fun hx => go (hbest.first (of_decide_eq_true hx) hSpos hf)) fun hx => bc (fun hx2 => go (hbest.less (of_decide_eq_true hx2) hf hm0)) fun hx2 => go (hbest.stay (of_decide_eq_false hx) (of_decide_eq_false hx2))
    · have h0 : ¬ Lb.length = 0 := by have : ¬ ((Lb.length : Nat) : Int) = 0 := ne_of_beq_false h0; omega
      exact go (hbest.no fun hf => h0 (hfree.2 hf))
  | false =>
    obtain ⟨rfl, hall⟩ := hF1 rfl
    have hinS : ∀ m, there m = true → m ∈ S := fun m hm => by
      have h1 := P11.th m
      rw [hm] at h1
      obtain ⟨v, hv⟩ := Option.isSome_iff_exists.1 h1
      exact hall _ ((lkL_some P11.mv.nd).1 hv)
    refine bcF rfl (bc (fun hneg => ?_) fun hneg => ?_)
    · have hneg : x3 < 0 := of_decide_eq_true hneg
      have hno : ∀ m, freeM (there, must) m = false := fun m => by
        cases hf : freeM (there, must) m with
        | false => rfl
        | true =>
          obtain ⟨h1, h2⟩ := (freeM_iff (t := (there, must)) hinr m).1 hf
          rcases hbest with ⟨_, h3⟩ | ⟨h3, _, _⟩
          · exact absurd h2 (h3 m (hinS m h1))
          · have := hSpos x3 h3; omega
      rw [leastF_none hno] at hord
      rw [← hord]
      exact ⟨nil _ _, k2.trans k11⟩
    have hneg : ¬ x3 < 0 := of_decide_eq_false hneg
    obtain ⟨hx3S, hx3f, hx3l⟩ : x3 ∈ S ∧ free x3 ∧ ∀ m ∈ S, free m → x3 ≤ m := by
      rcases hbest with ⟨h3, _⟩ | h3
      · omega
      · exact h3
    have hx3t : there x3 = true := by
      obtain ⟨p, hp, rfl⟩ := I11.sub x3 hx3S
      exact hkeys p.1 p.2 hp
    have hleast : leastF (there, must) = some x3 := leastF_some (t := (there, must)) hinr ((freeM_iff (t := (there, must)) hinr x3).2 ⟨hx3t, hx3f⟩) fun m hm => by
      obtain ⟨h1, h2⟩ := (freeM_iff (t := (there, must)) hinr m).1 hm
      exact hx3l m (hinS m h1) h2
    rw [hleast] at hord
    simp only [] at hord
    have okx := ok64_mut (hinr x3 hx3t)
    refine newBox fun w16 B16 k16 _ => ?_
    have k216 := k11.trans k16
    obtain ⟨q3, c3, w17, hrun, S17, k17, hq3, _⟩ := (S11.chgN k16).append1 (t := 35) (ty := 35) (x := x3) elemInt B16 (by simp only [maxLen]; omega) (by show (l2 + 1) * 8 ≤ _; omega) k216.size
    have P16 := P11.chgN k16
    have nmap : ∀ {b : Nat} {L : List KV}, Mv w16 b L → ¬ some b = qB q2 := fun M e => by
      obtain ⟨cs', B'⟩ := (S11.chgN k16).blk e.symm
      exact M.ne B' rfl
    have P17 := P16.chg k17 (nmap P16.mv) fun m b hb => by
      obtain ⟨b', Lb, hv, M, _⟩ := P16.inn m _ hb
      cases hv
      exact nmap M
    have k217 : Chg none_ w2 w17 := k216.up k17 fun y hy => ((S11.chgN k16).lt hy.symm).2
    obtain ⟨w18, L18, hrun18, P18, k18, hlen18⟩ := P17.del okx hx3t (fun x => hx3f x)
    have k218 : Chg none_ w2 w18 := k217.up k18 fun y hy => by rw [hy]; exact P17.lo
    have S18 := S17.chg k18 fun g hg e => (by
      obtain ⟨cs', B'⟩ := S17.blk hg
      rw [e] at B'
      exact P17.mv.ne B' rfl)
    refine ⟨q3, l2 + 1, c3, w17, hrun, w18, hrun18, P18.mv.range Try.underlying136 fun w19 I19 k19 s19 => ?_⟩
    have hr18 : w2.heap.size ≤ w18.heap.size := k218.size
    generalize w18.heap.size = r2 at I19 hr18 ⊢
    refine ⟨fun w' => ∃ S, It w' r2 m1 L18 S ∧ PrL w2 w' m1 L18 (setF there x3 false) (fun h m => (must h m && there h) && !(decide (h = x3) && decide (m ∈ S))) [] ∧ SE En.int w' w2.heap.size 3 q3 (l2 + 1) c3 (out ++ [x3]) ∧ Chg none_ w2 w', fun w' => L18.length - seenN w' r2,
      ⟨[], I19, (P18.chgN k19).mid fun h m => by simp, S18.chgN k19, k218.trans k19⟩, ?_⟩
    rintro w20 ⟨S2, I20, P20, S20, k20⟩
    refine ⟨fun b w' => (b = true → ∃ h, h ∉ S2 ∧ It w' r2 m1 L18 (h :: S2) ∧ ItAt w' r2 m1 h ∧ PrL w2 w' m1 L18 (setF there x3 false) (fun h m => (must h m && there h) && !(decide (h = x3) && decide (m ∈ S2))) [] ∧ SE En.int w' w2.heap.size 3 q3 (l2 + 1) c3 (out ++ [x3]) ∧ Chg none_ w2 w') ∧ (b = false → w' = w20 ∧ ∀ q ∈ L18, q.1 ∈ S2), ?_, ?_⟩
    rotate_left
    · rcases I20.next (P := Try.prog) 0 with ⟨hall, hrun⟩ | ⟨h, v, w', hL, hS, hrun, I', A', k'⟩
      · exact ⟨none, w20, hrun, (fun h => by cases h), fun _ => ⟨rfl, hall⟩⟩
      · refine ⟨some (.int .i64 h, v), w', hrun, fun _ => ⟨h, hS, I', A', P20.chgI I20 k', S20.chg k' fun g hg e => ?_, k20.up k' fun y hy => by rw [hy]; exact hr18⟩, fun h => by cases h⟩
        obtain ⟨cs', B'⟩ := S20.blk hg
        obtain ⟨_, _, _, _, _, _, hr', _⟩ := I20.ex
        rw [e, Blk, hr'] at B'
        cases B'
    rintro b w21 ⟨hT2, hF2⟩
    have hseen2 := I20.seen
    cases b with
    | true =>
      obtain ⟨m, hS2, I21, A21, P21, S21, k21⟩ := hT2 rfl
      have hle := I21.le
      simp only [List.length_cons] at hle
      obtain ⟨v, hv, hent⟩ := I21.entry (P := Try.prog) A21
      obtain ⟨b, Lb, rfl, hlb, Mb, _⟩ := P21.none_ahead hv
      obtain ⟨w24, hr24, P24, k24⟩ := P21.dec okx hlb
      obtain ⟨b', Lb', hbv, Mb', hbl, _, _⟩ := P21.inn m _ hlb
      cases hbv
      have I24 := I21.chg k24 (fun e => I21.nmap Mb e.symm) (fun e => by
        obtain ⟨_, _, hbv2, _, _, hne, _⟩ := P21.inn m _ hlb
        cases hbv2
        exact hne e.symm)
      refine bcT rfl ⟨.int .i64 m, some b, w21, hent, w24, hr24, ⟨m :: S2, I24, P24.mid fun y z => ?_, S21.chg k24 fun g hg e => ?_, k21.up k24 fun y hy => by rw [hy]; exact hbl⟩, ?_⟩
      · simp only [mustD]
        by_cases e : y = x3 ∧ z = m
        · rw [if_pos e, e.1, e.2]; simp
        · rw [if_neg e]
          by_cases ey : y = x3
          · have : ¬ z = m := fun ez => e ⟨ey, ez⟩
            simp [ey, this]
          · simp [ey]
      · obtain ⟨cs', B'⟩ := S21.blk hg
        rw [e] at B'
        exact Mb.ne B' rfl
      · show L18.length - seenN w24 r2 < L18.length - seenN w20 r2
        rw [I24.seen, hseen2, List.length_cons]; omega
    | false =>
      obtain ⟨rfl, hall2⟩ := hF2 rfl
      refine bcF rfl ⟨⟨f, setF there x3 false, out ++ [x3], L18, S20, P20.mid fun h m => ?_, hord, by omega, by omega, hinr.del x3, k20⟩, by show 100 - (l2 + 1) < 100 - l2; omega⟩
      have h1 := P20.th m
      cases ht : setF there x3 false m with
      | true =>
        rw [ht] at h1
        obtain ⟨v, hv⟩ := Option.isSome_iff_exists.1 h1
        have hm2 := hall2 _ ((lkL_some P20.mv.nd).1 hv)
        simp only [setF]
        by_cases e : h = x3
        · simp [e, hm2]
        · simp [e]
      | false =>
        have h3 : ((must h m && there h) && !(decide (h = x3) && decide (m ∈ S2))) = false := P20.no m h ht
        rw [h3]
        have h4 : (must h m && setF there x3 false h) = false := by
          simp only [setF]
          by_cases e : h = x3
          · simp [e]
          · rw [if_neg e]
            have h5 := h3
            simp [e] at h5
            cases hh : must h m with
            | false => rfl
            | true => rw [h5 hh]; rfl
        exact h4.symm
end Full
end Go.Proofs.Ytibpbbjlecohiaa
set_option maxRecDepth 20000
namespace Go.Proofs.Ytibpbbjlecohiaa
namespace Full
open Go Go.Vc Go.RowKit
/-! # the same; a play whose answer the document fixes -/
theorem sameI28 {w : World} {q1 q2 : Option Addr} {l1 c1 l2 c2 : Nat} {xs : List Int} (H : RE En.int w q1 l1 xs) (K : RE En.int w q2 l2 xs) (hl : l1 ≤ maxLen) :
    Calls Try.prog 28 #[.slice q1 l1 c1, .slice q2 l2 c2] w (Ret fun v w' => v = .bool true ∧ Chg none_ w w') := by
  have hl : l1 ≤ 9223372036854775807 := by simpa only [maxLen] using hl
  have e1 := H.len
  have e2 := K.len
  refine f28.calls _ _ _ _ _ _ ?_
  unfold f28.wp
  refine bcF (by rw [← e1, ← e2]; simp) ⟨fun x w' => ∃ i : Nat, x = (i : Int) ∧ i ≤ l1 ∧ Chg none_ w w', fun x _ => l1 - x.toNat, ⟨0, rfl, Nat.zero_le _, Chg.refl _ _⟩, ?_⟩
  rintro _ w1 ⟨i, rfl, hi, k1⟩
  refine bc (fun hlt => ?_) fun hge => ⟨rfl, k1⟩
  have hi' : i < l1 := by simpa using hlt
  have kd : Chg none_ w w1.drew := k1.drew
  obtain ⟨a, x, hq, hx, hr⟩ := (H.chg kd).ex hi'
  obtain ⟨a', x', hq', hx', hr'⟩ := (K.chg kd).ex (i := i) (by omega)
  rw [hx] at hx'; cases hx'
  rw [wrapS (x := (i : Int) + 1) (by omega) (by omega)]
  exact onPtr_q hq ⟨by omega, by omega, _, reads_one' hr, onPtr_q hq' ⟨by omega, by omega, _, reads_one' hr', bcF (by simp) ⟨⟨i + 1, by omega, hi', kd⟩, meas hi'⟩⟩⟩
theorem samePlayed25 {w : World} {t : PlayT} {q1 q2 q3 q4 p1 p2 p3 p4 : Option Addr} {l1 c1 l2 c2 l3 c3 l4 c4 m1 d1 m2 d2 m3 d3 m4 d4 : Nat}
    (a1 : RE En.int w q1 l1 t.done) (a2 : RE En.turn w q2 l2 t.ord) (a3 : RE En.int w q3 l3 t.ctr) (a4 : RE En.int w q4 l4 t.dead) (h1 : l1 ≤ maxLen) (h2 : l2 ≤ maxLen) (h3 : l3 ≤ maxLen) (h4 : l4 ≤ maxLen)
    (b1 : RE En.int w p1 m1 t.done) (b2 : RE En.turn w p2 m2 t.ord) (b3 : RE En.int w p3 m3 t.ctr) (b4 : RE En.int w p4 m4 t.dead) :
    Calls Try.prog 25 #[.agg #[.slice q1 l1 c1, .slice q2 l2 c2, .slice q3 l3 c3, .slice q4 l4 c4], .agg #[.slice p1 m1 d1, .slice p2 m2 d2, .slice p3 m3 d3, .slice p4 m4 d4]] w (Ret fun v w' => v = .bool true ∧ Chg none_ w w') := by
  simp only [maxLen] at h2 h3
  refine f25.calls _ _ _ _ _ _ _ _ _ _ _ _ _ _ _ _ _ _ _ _ _ _ _ _ ?_
  unfold f25.wp
  refine newBox fun w1 B1 k1 s1 => newBox fun w2 B2 k2 s2 => ?_
  have A2 := k2.blk B1 fun x => x
  have k02 := k1.trans k2
  refine ⟨_, _, _, (A2.cell 0).trans rfl, _, _, _, (B2.cell 0).trans rfl, Calls.use (sameI28 (a1.chg k02) (b1.chg k02) h1) ?_⟩
  rintro _ w3 ⟨rfl, k3⟩
  have A3 := k3.blk A2 fun x => x
  have B3 := k3.blk B2 fun x => x
  have k03 := k02.trans k3
  refine ⟨_, rfl, bcF rfl ⟨_, _, _, (A3.cell0 3).trans rfl, _, _, _, (B3.cell0 3).trans rfl, Calls.use (sameI28 (a4.chg k03) (b4.chg k03) h4) ?_⟩⟩
  rintro _ w4 ⟨rfl, k4⟩
  have A4 := k4.blk A3 fun x => x
  have B4 := k4.blk B3 fun x => x
  have k04 := k03.trans k4
  have e2 := a2.len
  have f2 := b2.len
  have e3 := a3.len
  have f3 := b3.len
  refine ⟨_, rfl, bcF rfl ⟨_, _, _, (A4.cell0 1).trans rfl, _, _, _, (B4.cell0 1).trans rfl, bcF (by rw [← e2, ← f2]; simp) ⟨_, _, _, (A4.cell0 2).trans rfl, _, _, _, (B4.cell0 2).trans rfl, bcF (by rw [← e3, ← f3]; simp) ⟨_, _, _, (A4.cell0 1).trans rfl, ?_⟩⟩⟩⟩
  refine ⟨fun x w' => ∃ i : Nat, x = (i : Int) ∧ i ≤ l2 ∧ Chg none_ w4 w', fun x _ => l2 - x.toNat, ⟨0, rfl, Nat.zero_le _, Chg.refl _ _⟩, ?_⟩
  rintro _ w5 ⟨i, rfl, hi, k5⟩
  refine bc (fun hlt => ?_) fun hge => ?_
  · have hi' : i < l2 := by simpa using hlt
    have kd : Chg none_ w4 w5.drew := k5.drew
    have A5 := kd.blk A4 fun x => x
    have B5 := kd.blk B4 fun x => x
    obtain ⟨a, x, hq, hx, hr⟩ := (a2.chg (k04.trans kd)).ex hi'
    obtain ⟨a', x', hq', hx', hr'⟩ := (b2.chg (k04.trans kd)).ex (i := i) (by omega)
    rw [hx] at hx'; cases hx'
    rw [wrapS (x := (i : Int) + 1) (by omega) (by omega)]
    exact ⟨_, _, _, (A5.cell0 1).trans rfl, onPtr_q hq ⟨by omega, by omega, _, _, _, _, hr, _, _, _, (B5.cell0 1).trans rfl, onPtr_q hq' ⟨by omega, by omega, _, _, _, _, hr', bcF (by simp) ⟨⟨i + 1, by omega, hi', kd⟩, meas hi'⟩⟩⟩⟩
  have A5 := k5.blk A4 fun x => x
  refine ⟨_, _, _, (A5.cell0 2).trans rfl, fun x w' => ∃ i : Nat, x = (i : Int) ∧ i ≤ l3 ∧ Chg none_ w4 w', fun x _ => l3 - x.toNat, ⟨0, rfl, Nat.zero_le _, k5⟩, ?_⟩
  rintro _ w6 ⟨i, rfl, hi, k6⟩
  refine bc (fun hlt => ?_) fun hge => ⟨rfl, k04.trans k6⟩
  have hi' : i < l3 := by simpa using hlt
  have kd : Chg none_ w4 w6.drew := k6.drew
  have A6 := kd.blk A4 fun x => x
  have B6 := kd.blk B4 fun x => x
  obtain ⟨a, x, hq, hx, hr⟩ := (a3.chg (k04.trans kd)).ex hi'
  obtain ⟨a', x', hq', hx', hr'⟩ := (b3.chg (k04.trans kd)).ex (i := i) (by omega)
  rw [hx] at hx'; cases hx'
  rw [wrapS (x := (i : Int) + 1) (by omega) (by omega)]
  exact ⟨_, _, _, (A6.cell0 2).trans rfl, onPtr_q hq ⟨by omega, by omega, _, reads_one' hr, _, _, _, (B6.cell0 2).trans rfl, onPtr_q hq' ⟨by omega, by omega, _, reads_one' hr', bcF (by simp) ⟨⟨i + 1, by omega, hi', kd⟩, meas hi'⟩⟩⟩⟩
def two : List (List Act) := [[(1, 1, 0), (1, 0, 0)], [(1, 0, 0), (1, 1, 0)]]
theorem two_play : (playT 2 0 0 0 two [0, 1, 0, 1]).dead = [0, 1] ∧ (playT 2 0 0 0 two [0, 1, 0, 1]).ord.length = 4 ∧ (playT 2 0 0 0 two [0, 1, 0, 1]).err = 0 := by decide +kernel
theorem plays22 (w : World) : Calls Try.prog 22 #[] w (Ret fun v w' => v = .bool true ∧ Chg none_ w w') := by
  refine f22.calls ?_
  unfold f22.wp
  refine newBox fun w1 B1 k1 s1 => newBox fun w2 B2 k2 s2 => newBox fun w3 B3 k3 s3 => newBox fun w4 B4 k4 s4 => ?_
  have k24 := k2.trans (k3.trans k4)
  have k04 := k1.trans k24
  have X1 := k24.blk B1 fun x => x
  have X2 := (k3.trans k4).blk B2 fun x => x
  have X3 := k4.blk B3 fun x => x
  have hA : ActsR w4 (some ⟨w2.heap.size, 0, none⟩, 2, 2) two := by
    refine ⟨[(some ⟨w.heap.size, 0, none⟩, 2, 2), (some ⟨w1.heap.size, 0, none⟩, 2, 2)], RE.of_flat rfl X3.reads0, rfl, fun i h ys hh ha => ?_⟩
    rcases i with _ | _ | i
    · cases hh; cases ha; exact RE.of_flat rfl X1.reads0
    · cases hh; cases ha; exact RE.of_flat rfl X2.reads0
    · simp at hh
  have hb : ∀ ys ∈ two, ys.length ≤ 10000000000000 := fun ys hy => by
    simp only [two, List.mem_cons, List.not_mem_nil, or_false] at hy
    rcases hy with rfl | rfl <;> decide
  have hp : RE En.int w4 (some ⟨w3.heap.size, 0, none⟩) 4 [0, 1, 0, 1] := RE.of_flat rfl B4.reads0
  have h23 := play23 2 0 0 0 hA hb (show 2 ≤ 1000000000000000 by decide) hp (cp := 4) (by decide)
  refine Calls.use h23 ?_
  obtain ⟨hd, ho, he⟩ := two_play
  generalize playT 2 0 0 0 two [0, 1, 0, 1] = t at hd ho he
  rintro _ w5 ⟨⟨q1, l1, c1, q2, l2, c2, q3, l3, c3, q4, l4, c4, rfl, R1, R2, R3, R4, m1, m2, m3, m4, _⟩, k5⟩
  rw [he]
  refine ⟨_, _, _, _, _, _, _, _, _, _, _, _, _, rfl, boxed rfl rfl fun w7 B7 k7 s7 => ?_⟩
  have k47 := k5.trans k7
  have h26 := order26 (hA.chg k47) hb (show 2 ≤ 1000000000000000 by decide)
  rw [show orderF two = ([], 84) from two_err] at h26
  refine Calls.use h26 ?_
  rintro _ w8 ⟨⟨q5, l5, c5, rfl, _⟩, k8⟩
  have B8 := k8.blk B7 fun x => x
  refine ⟨_, _, _, _, rfl, bcT rfl ⟨_, _, _, (B8.cell0 3).trans rfl, newBox fun w9 B9 k9 s9 => ?_⟩⟩
  have k79 := k8.trans k9
  rw [hd] at R4
  refine Calls.use (sameI28 (R4.chg (k7.trans k79)) (show RE En.int w9 (some ⟨w8.heap.size, 0, none⟩) 2 [0, 1] from RE.of_flat rfl B9.reads0) m4) ?_
  rintro _ w10 ⟨rfl, k10⟩
  have B10 := (k9.trans k10).blk B8 fun x => x
  have hl2 := R2.len
  refine ⟨_, rfl, bcT rfl ⟨_, _, _, (B10.cell0 1).trans rfl, bcT (by rw [← hl2, ho]; rfl) ⟨rfl, k04.trans (k47.trans (k79.trans k10))⟩⟩⟩
end Full
end Go.Proofs.Ytibpbbjlecohiaa
