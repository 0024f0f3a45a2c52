import Derived.Test.YtibpbbjlecohiaaLeM
set_option maxRecDepth 20000
namespace Go.Proofs.Ytibpbbjlecohiaa
namespace Full
open Go Go.Vc Go.RowKit
/-! # the reference's Ahead -/
abbrev Arc := Int × Int
def En.ar : En Arc := ⟨2, fun x => [.int .i64 x.1, .int .i64 x.2], fun _ => rfl, fun _ v hv => by simp at hv; rcases hv with rfl | rfl <;> rfl, by decide⟩
theorem elemAr : ElemOk Try.prog 77 82 2 16 := ⟨Try.underlying77, .agg #[.int .i64 0, .int .i64 0], by kernel_rfl, rfl⟩
def bgB (f : Nat → Bool) (n : Nat) : Array Value := ((List.range n).map fun i => Value.bool (f i)).toArray
theorem bgB_size (f : Nat → Bool) (n : Nat) : (bgB f n).size = n := by simp [bgB]
theorem bgB_get {f : Nat → Bool} {n i : Nat} (h : i < n) : (bgB f n)[i]? = some (.bool (f i)) := by simp [bgB, h]
theorem bgB_congr {f g : Nat → Bool} {n : Nat} (h : ∀ i, i < n → f i = g i) : bgB f n = bgB g n := by
  unfold bgB
  rw [List.map_congr_left fun i hi => by rw [h i (List.mem_range.1 hi)]]
theorem bgB_set {f : Nat → Bool} {n i : Nat} {v : Bool} (h : i < n) : (bgB f n).setIfInBounds i (.bool v) = bgB (fun j => if j = i then v else f j) n := by
  apply Array.ext_getElem?
  intro j
  by_cases hj : j < n
  · rw [bgB_get hj]
    by_cases e : i = j
    · subst e
      rw [Array.getElem?_setIfInBounds_self_of_lt (by rw [bgB_size]; exact h), if_pos rfl]
    · rw [Array.getElem?_setIfInBounds_ne e, bgB_get hj, if_neg (Ne.symm e)]
  · rw [Array.getElem?_eq_none (by rw [Array.size_setIfInBounds, bgB_size]; omega), Array.getElem?_eq_none (by rw [bgB_size]; omega)]
theorem made_bgB (n : Nat) : madeCells #[.bool false] (n * 1) = bgB (fun _ => false) n := by
  apply Array.ext_getElem?
  intro j
  by_cases hj : j < n
  · rw [bgB_get hj]
    have h1 := madeCells_get #[Value.bool false] (by decide) n j (by show j < n * 1; omega)
    have h2 : j % (#[Value.bool false] : Array Value).size = 0 := by show j % 1 = 0; omega
    rw [h2] at h1
    exact h1
  · rw [Array.getElem?_eq_none (by rw [size_madeCells]; omega), Array.getElem?_eq_none (by rw [bgB_size]; omega)]
/-- a set of small numbers, as a row -/
def rowB (f : Int → Bool) : Array Value := bgB (fun i => f (i : Int)) 64
theorem rowB_set {f : Int → Bool} {m : Int} {v : Bool} (h : 0 ≤ m ∧ m < 64) : (rowB f).setIfInBounds m.toNat (.bool v) = rowB (setF f m v) := by
  unfold rowB
  rw [bgB_set (by omega)]
  refine bgB_congr fun i _ => ?_
  simp only [setF]
  by_cases e : i = m.toNat
  · rw [if_pos e, if_pos (by omega)]
  · rw [if_neg e, if_neg (by omega)]
theorem rowB_get {f : Int → Bool} {m : Int} (h : 0 ≤ m ∧ m < 64) : (rowB f)[m.toNat]? = some (.bool (f m)) := by
  unfold rowB
  rw [bgB_get (by omega), show ((m.toNat : Nat) : Int) = m by omega]
theorem rowB_size (f : Int → Bool) : (rowB f).size = 64 := bgB_size _ _
section
variable {w : World} {b : Nat} {t : TypeId} {f : Int → Bool} {m : Int}
theorem rowB_at (B : Blk w b t (rowB f)) (h : 0 ≤ m ∧ m < 64) : w.cell? ((⟨b, 0, none⟩ : Addr).add (m.toNat * 1)) = some (.bool (f m)) := by
  rw [Nat.mul_one, B.cell0]; exact rowB_get h
theorem rowB_put {v : Bool} {C : World → Prop} (B : Blk w b t (rowB f)) (h : 0 ≤ m ∧ m < 64) (hC : ∀ w', Blk w' b t (rowB (setF f m v)) → Chg (fun g => g = b) w w' → C w') :
    canStore w ((⟨b, 0, none⟩ : Addr).add (m.toNat * 1)) 1 ∧ ∀ w', w' = setCells ((⟨b, 0, none⟩ : Addr).add (m.toNat * 1)) 0 [.bool v] w → C w' := by
  rw [Nat.mul_one]
  refine ⟨B.canStore0 (by rw [rowB_size]; omega), fun w' e' => ?_⟩
  obtain ⟨B', k'⟩ := B.put e'
  rw [rowB_set h] at B'
  exact hC w' B' k'
end
/-- arcs told: which mutexes stand ahead of which -/
structure ArI (w0 w : World) (Z : Nat) (q : Option Addr) (l c : Nat) (As : List Arc) (there : Int → Bool) (must : Int → Int → Bool) : Prop where
  chg : Chg none_ w0 w
  lo : w0.heap.size ≤ Z
  zb : Blk w Z 4 (rowB there)
  se : SE En.ar w w0.heap.size 82 q l c As
  mem : ∀ h m, (h, m) ∈ As ↔ must h m = true
theorem ArI.chgN {w0 w w' : World} {Z : Nat} {q : Option Addr} {l c : Nat} {As : List Arc} {there : Int → Bool} {must : Int → Int → Bool} (h : ArI w0 w Z q l c As there must) (k : Chg none_ w w') : ArI w0 w' Z q l c As there must :=
  ⟨h.chg.trans k, h.lo, k.blk h.zb fun x => x, h.se.chgN k, h.mem⟩
theorem ArI.mid {w0 w : World} {Z : Nat} {q : Option Addr} {l c : Nat} {As : List Arc} {there : Int → Bool} {must must' : Int → Int → Bool} (h : ArI w0 w Z q l c As there must) (e : ∀ h m, must h m = must' h m) : ArI w0 w Z q l c As there must' :=
  ⟨h.chg, h.lo, h.zb, h.se, fun x y => by rw [h.mem, e]⟩
def mustN (must : Int → Int → Bool) (held : Int → Bool) (m : Int) (n : Nat) : Int → Int → Bool := fun h y => must h y || (decide (y = m) && held h && decide (h ≠ m) && (decide (0 ≤ h) && decide (h < (n : Int))))
theorem mustN_zero (must : Int → Int → Bool) (held : Int → Bool) (m h y : Int) : must h y = mustN must held m 0 h y := by
  have : (decide (0 ≤ h) && decide (h < ((0 : Nat) : Int))) = false := by
    by_cases h0 : 0 ≤ h
    · rw [decide_eq_false (p := h < ((0 : Nat) : Int)) (by omega), Bool.and_false]
    · rw [decide_eq_false h0, Bool.false_and]
  rw [mustN, this, Bool.and_false, Bool.or_false]
theorem mustN_next (must : Int → Int → Bool) (held : Int → Bool) (m : Int) (n : Nat) (h y : Int) : mustN must held m (n + 1) h y = true ↔ mustN must held m n h y = true ∨ (h = (n : Int) ∧ y = m ∧ held h = true ∧ h ≠ m) := by
  simp only [mustN, Bool.or_eq_true, Bool.and_eq_true, decide_eq_true_eq]
  constructor
  · rintro (h1 | ⟨⟨⟨h1, h2⟩, h3⟩, h4, h5⟩)
    · exact .inl (.inl h1)
    · by_cases e : h = (n : Int)
      · exact .inr ⟨e, h1, h2, h3⟩
      · exact .inl (.inr ⟨⟨⟨h1, h2⟩, h3⟩, h4, by omega⟩)
  · rintro ((h1 | ⟨⟨⟨h1, h2⟩, h3⟩, h4, h5⟩) | ⟨e, h1, h2, h3⟩)
    · exact .inl h1
    · exact .inr ⟨⟨⟨h1, h2⟩, h3⟩, h4, by omega⟩
    · exact .inr ⟨⟨⟨h1, h2⟩, h3⟩, by omega, by omega⟩
theorem mustN_all {must : Int → Int → Bool} {held : Int → Bool} {m : Int} (hr : InR held) (h y : Int) : mustN must held m 64 h y = (must h y || (decide (y = m) && held h && decide (h ≠ m))) := by
  rw [mustN]
  cases hh : held h with
  | false => simp
  | true =>
    obtain ⟨h0, h1⟩ := hr h hh
    rw [decide_eq_true h0, decide_eq_true (p := h < ((64 : Nat) : Int)) (by omega)]
    simp
theorem sumL_take : ∀ (acts : List (List Act)) (k : Nat), sumL (acts.take k) ≤ sumL acts
  | [], k => by simp [sumL]
  | a :: acts, 0 => by simp [sumL]
  | a :: acts, k + 1 => by
    have := sumL_take acts k
    simp only [sumL, List.take_succ_cons, List.map_cons, List.sum_cons] at this ⊢
    omega
theorem zero64 : (bgB (fun _ => false) 64) = rowB fun _ => false := rfl
theorem ahead64 {w : World} {z : Hd} {acts : List (List Act)} (hA : ActsR w z acts) (h16 : acts.length ≤ 16) (hs : sumL acts ≤ 4096) (hm : ∀ ys ∈ acts, ∀ a ∈ ys, (mutF a).2 = true → 0 ≤ (mutF a).1 ∧ (mutF a).1 < 64) :
    Calls Try.prog 64 #[.slice z.1 z.2.1 z.2.2] w (Ret fun v w' => ∃ q l c Z As, v = .tuple #[.slice q l c, .slice (some ⟨Z, 0, none⟩) 64 64] ∧ ArI w w' Z q l c As (prAll acts).1 (prAll acts).2 ∧ l ≤ 300000) := by
  refine f64.calls _ _ _ ?_
  unfold f64.wp
  have hzl := hA.len
  refine ⟨by decide, by decide, by decide, by decide, ?_⟩
  rw [show (Int.toNat 64 * 1) = 64 * 1 from rfl, made_bgB, zero64]
  refine newBox fun w1 Z1 k1 s1 => ?_
  have hZ0 : w.heap.size ≤ w.heap.size := Nat.le_refl _
  have hw1 : w.heap.size < w1.heap.size := by omega
  have AR1 : ArI w w1 w.heap.size none 0 0 [] (prAll (acts.take 0)).1 (prAll (acts.take 0)).2 := ⟨k1, hZ0, Z1, SE.nil _ _ _ _, fun h m => by simp [prAll]⟩
  generalize hZ : w.heap.size = Z at AR1 ⊢
  have hZ' : w.heap.size ≤ Z := by omega
  have lens : ∀ ys ∈ acts, ys.length ≤ 4096 := fun ys hy => by
    have h1 : ys.length ∈ acts.map List.length := List.mem_map.2 ⟨ys, hy, rfl⟩
    have := le_sum h1
    unfold sumL at hs
    omega
  refine ⟨fun q1 l1 c1 x1 w' => ∃ (j : Nat) (As : List Arc), x1 = (j : Int) ∧ j ≤ z.2.1 ∧ ArI w w' Z q1 l1 c1 As (prAll (acts.take j)).1 (prAll (acts.take j)).2 ∧ l1 ≤ 64 * sumL (acts.take j), fun _ _ _ x1 _ => z.2.1 - x1.toNat, ⟨0, [], rfl, Nat.zero_le _, AR1, Nat.zero_le _⟩, ?_⟩
  rintro q1 l1 c1 _ w2 ⟨j, As, rfl, hj, A2, hl1⟩
  refine bc (fun hlt => ?_) fun hge => ?_
  rotate_left
  · have hjl : j = z.2.1 := by have := of_decide_eq_false hge; omega
    rw [hjl, List.take_of_length_le (by omega)] at A2 hl1
    exact ⟨q1, l1, c1, Z, As, rfl, A2, by omega⟩
  have hj' : j < z.2.1 := by simpa using hlt
  obtain ⟨ys, hy⟩ := get_ex (l := acts) (i := j) (by omega)
  obtain ⟨_, az, hd, hq, hc0, hR⟩ := hA.at' hy
  have hc := A2.chg.cellS hc0 fun x => x
  have hlen := hR.len
  have hyl := lens ys (List.mem_of_getElem? hy)
  have hmy := hm ys (List.mem_of_getElem? hy)
  have hfold : prAll (acts.take (j + 1)) = prProg (prAll (acts.take j)) ys := fold_next hy
  have hsum := sum_next hy
  have hsumle : sumL (acts.take (j + 1)) ≤ 4096 := by
    have := sumL_take acts (j + 1)
    omega
  have ht0 := prAll_ok (acts := acts.take j) fun zs hz => hm zs (List.mem_of_mem_take hz)
  generalize prAll (acts.take j) = t0 at *
  generalize sumL (acts.take j) = s0 at *
  rw [wrapS (x := (j : Int) + 1) (by omega) (by omega)]
  refine onPtr_q hq ⟨by omega, by omega, _, _, _, hc, newBox fun w3 H3 k3 s3 => ?_⟩
  have H3' : Blk w3 w2.heap.size 142 (rowB fun _ => false) := H3
  have A3 := A2.chgN k3
  have hZw : Z < w2.heap.size := A2.zb.lt
  have hH0 : w.heap.size ≤ w2.heap.size := A2.chg.size
  generalize w2.heap.size = H at H3' hZw hH0 ⊢
  have hHZ : Z ≠ H := by omega
  refine ⟨fun q3 l3 c3 x2 w' => ∃ (i : Nat) (As : List Arc) (p : PrS), x2 = (i : Int) ∧ i ≤ hd.2.1 ∧ p.Ok ∧ p = (ys.take i).foldl prStep ⟨fun _ => false, t0.1, t0.2⟩ ∧ ArI w w' Z q3 l3 c3 As p.there p.must ∧ Blk w' H 142 (rowB p.held) ∧ l3 ≤ 64 * (s0 + i), fun _ _ _ x2 _ => hd.2.1 - x2.toNat, ⟨0, As, ⟨fun _ => false, t0.1, t0.2⟩, rfl, Nat.zero_le _, ⟨(fun h hh => by cases hh), ht0.2, ht0.1⟩, rfl, A3, H3', by omega⟩, ?_⟩
  rintro q3 l3 c3 _ w4 ⟨i, As4, p, rfl, hi, pok, hp, A4, H4, hl3⟩
  refine bc (fun hlt => ?_) fun hge => ?_
  rotate_left
  · have hil : i = hd.2.1 := by have := of_decide_eq_false hge; omega
    rw [hil, List.take_of_length_le (by omega)] at hp
    refine ⟨⟨j + 1, As4, by omega, hj', ?_, by omega⟩, meas hj'⟩
    rw [hfold, prProg, ← hp]
    exact A4
  have hi' : i < hd.2.1 := by simpa using hlt
  obtain ⟨ax, x, hqx, hx, hr⟩ := (hR.chg A4.chg).ex hi'
  have hnext : (ys.take (i + 1)).foldl prStep ⟨fun _ => false, t0.1, t0.2⟩ = prStep p x := by rw [fold_next hx, hp]
  have hmx := hmy x (List.mem_of_getElem? hx)
  rw [wrapS (x := (i : Int) + 1) (by omega) (by omega)]
  refine onPtr_q hqx ⟨by omega, by omega, _, _, _, hr, boxed rfl rfl fun w6 B6 k6 s6 => ⟨_, (B6.cell0 1).trans rfl, ?_⟩⟩
  have A6 := A4.chgN k6
  have H6 := k6.blk H4 fun x => x
  have hHw : H < w4.heap.size := H4.lt
  have hZ4 : Z < w4.heap.size := A4.zb.lt
  have hb0 : w.heap.size ≤ w4.heap.size := A4.chg.size
  generalize w4.heap.size = bx at B6 hHw hZ4 hb0 ⊢
  have nextI : ∀ {w' : World} {q5 : Option Addr} {l5 c5 : Nat} {As' : List Arc}, ArI w w' Z q5 l5 c5 As' (prStep p x).there (prStep p x).must → Blk w' H 142 (rowB (prStep p x).held) → l5 ≤ l3 + 64 →
      (∃ (i' : Nat) (As : List Arc) (p : PrS), ((i : Int) + 1) = (i' : Int) ∧ i' ≤ hd.2.1 ∧ p.Ok ∧ p = (ys.take i').foldl prStep ⟨fun _ => false, t0.1, t0.2⟩ ∧ ArI w w' Z q5 l5 c5 As p.there p.must ∧ Blk w' H 142 (rowB p.held) ∧ l5 ≤ 64 * (s0 + i')) ∧ hd.2.1 - ((i : Int) + 1).toNat < hd.2.1 - (i : Int).toNat := fun A H hl =>
    ⟨⟨i + 1, _, _, by omega, hi', pok.step hmx, hnext.symm, A, H, by omega⟩, meas hi'⟩
  -- the mutex: of a wait the second number
  refine ⟨fun x3 w' => x3 = (if x.1 = 7 then x.2.2 else x.2.1) ∧ w' = w6, ?_, ?_⟩
  rotate_left
  · refine ⟨_, (B6.cell 0).trans rfl, bc (fun h7 => ⟨_, (B6.cell0 2).trans rfl, ?_, rfl⟩) fun h7 => ⟨?_, rfl⟩⟩
    · have h7 : x.1 = 7 := by simpa using h7
      rw [if_pos h7]
    · have h7 : ¬ x.1 = 7 := by simpa using h7
      rw [if_neg h7]
  rintro _ _ ⟨rfl, rfl⟩
  have hmut : (x.1 = 1 ∨ x.1 = 2 ∨ x.1 = 7) → (mutF x).2 = true ∧ (mutF x).1 = (if x.1 = 7 then x.2.2 else x.2.1) := fun h => by
    unfold mutF
    by_cases h12 : x.1 = 1 ∨ x.1 = 2
    · rw [if_pos h12, if_neg (by omega)]; exact ⟨rfl, rfl⟩
    · rw [if_neg h12, if_pos (by omega), if_pos (by omega)]; exact ⟨rfl, rfl⟩
  have hnot : ¬ (x.1 = 1 ∨ x.1 = 2 ∨ x.1 = 7) → (mutF x).2 = false := fun h => by
    unfold mutF
    rw [if_neg (by omega), if_neg (by omega)]
  generalize (if x.1 = 7 then x.2.2 else x.2.1) = m at *
  refine ⟨fun w' => ArI w w' Z q3 l3 c3 As4 p.there p.must ∧ Blk w' H 142 (rowB (if x.1 = 2 then setF p.held m false else p.held)) ∧ Blk w' bx 94 #[.int .i64 x.1, .int .i64 x.2.1, .int .i64 x.2.2], ?_, ?_⟩
  rotate_left
  · refine ⟨_, (B6.cell 0).trans rfl, bc (fun h2 => ?_) fun h2 => ?_⟩
    · have h2 : x.1 = 2 := by simpa using h2
      obtain ⟨hmt, hme⟩ := hmut (.inr (.inl h2))
      have hmr := hmx hmt
      rw [hme] at hmr
      refine ⟨hmr.1, hmr.2, rowB_put (v := false) H6 hmr fun w9 H9 k9 => ⟨⟨A6.chg.up k9 fun g hg => by rw [hg]; exact hH0, A6.lo, k9.blk A6.zb hHZ, A6.se.chg k9 fun g hg e => ?_, A6.mem⟩, by rw [if_pos h2]; exact H9, k9.blk B6 (by omega)⟩⟩
      obtain ⟨cs', B'⟩ := A6.se.blk hg
      rw [e] at B'
      exact absurd (B'.type H6).1 (by decide)
    · have h2 : ¬ x.1 = 2 := by simpa using h2
      exact ⟨A6, by rw [if_neg h2]; exact H6, B6⟩
  rintro w8 ⟨A8, H8, B8⟩
  refine ⟨fun w' => w' = w8 ∧ (x.1 = 1 ∨ x.1 = 7), ?_, ?_⟩
  rotate_left
  · refine ⟨_, (B8.cell 0).trans rfl, bc (fun h1 => ⟨_, (B8.cell 0).trans rfl, bc (fun h7 => ?_) fun h7 => ⟨rfl, .inr (by simpa using h7)⟩⟩) fun h1 => ⟨rfl, .inl (by simpa using h1)⟩⟩
    have h1 : ¬ x.1 = 1 := by simpa using h1
    have h7 : ¬ x.1 = 7 := by simpa using h7
    by_cases h2 : x.1 = 2
    · obtain ⟨hmt, hme⟩ := hmut (.inr (.inl h2))
      have e : prStep p x = ⟨setF p.held m false, p.there, p.must⟩ := by rw [prStep, if_neg (by rw [hmt]; decide), if_pos h2, hme]
      rw [e] at nextI
      rw [if_pos h2] at H8
      exact nextI A8 H8 (by omega)
    · have e : prStep p x = p := by rw [prStep, if_pos (hnot (by omega))]
      rw [e] at nextI
      rw [if_neg h2] at H8
      exact nextI A8 H8 (by omega)
  rintro _ ⟨rfl, h17⟩
  have h2 : ¬ x.1 = 2 := by omega
  rw [if_neg h2] at H8
  obtain ⟨hmt, hme⟩ := hmut (by omega)
  have hmr := hmx hmt
  rw [hme] at hmr
  have e : prStep p x = ⟨if x.1 = 1 then setF p.held m true else p.held, setF p.there m true, fun h y => p.must h y || (decide (y = m) && p.held h && decide (h ≠ m))⟩ := by rw [prStep, if_neg (by rw [hmt]; decide), if_neg h2, hme]
  rw [e] at nextI
  refine ⟨hmr.1, hmr.2, rowB_put (v := true) A8.zb hmr fun w11 Z11 k11 => ?_⟩
  have S11 := A8.se.chg k11 fun g hg e => (by
    obtain ⟨cs', B'⟩ := A8.se.blk hg
    rw [e] at B'
    exact absurd (B'.type A8.zb).1 (by decide))
  have A11 : ArI w w11 Z q3 l3 c3 As4 (setF p.there m true) p.must := ⟨A8.chg.up k11 fun g hg => by rw [hg]; exact hZ', A8.lo, Z11, S11, A8.mem⟩
  have H11 := k11.blk H8 (Ne.symm hHZ)
  have B11 := k11.blk B8 (by omega)
  have hheld : InR p.held := fun y hy => pok.inr y (pok.held y hy)
  refine ⟨fun q4 l4 c4 x4 w' => ∃ (n : Nat) (As' : List Arc), x4 = (n : Int) ∧ n ≤ 64 ∧ ArI w w' Z q4 l4 c4 As' (setF p.there m true) (mustN p.must p.held m n) ∧ Blk w' H 142 (rowB p.held) ∧ Blk w' bx 94 #[.int .i64 x.1, .int .i64 x.2.1, .int .i64 x.2.2] ∧ l4 ≤ l3 + n, fun _ _ _ x4 _ => 64 - x4.toNat,
    ⟨0, As4, rfl, Nat.zero_le _, A11.mid fun h y => mustN_zero _ _ _ _ _, H11, B11, by omega⟩, ?_⟩
  rintro q4 l4 c4 _ w12 ⟨n, As', rfl, hn, A12, H12, B12, hl4⟩
  refine bc (fun hlt => ?_) fun hge => ?_
  · have hn' : n < 64 := by have := of_decide_eq_true hlt; omega
    have hnr : 0 ≤ (n : Int) ∧ (n : Int) < 64 := by omega
    rw [wrapS (x := (n : Int) + 1) (by omega) (by omega)]
    refine ⟨fun b w' => b = (p.held (n : Int) && ((n : Int) != m)) ∧ w' = w12, ?_, ?_⟩
    · rintro _ _ ⟨rfl, rfl⟩
      refine bc (fun hb => ?_) fun hb => ?_
      · rw [Bool.and_eq_true] at hb
        have hne : (n : Int) ≠ m := by simpa using hb.2
        refine newBox fun w14 B14 k14 s14 => ?_
        have A14 := A12.chgN k14
        obtain ⟨q5, c5, w15, hrun, S15, k15, _, _⟩ := A14.se.append1 (t := 77) (ty := 77) (x := ((n : Int), m)) elemAr B14 (by simp only [maxLen]; omega) (by show (l4 + 1) * 16 ≤ _; omega) A14.chg.size
        have nb : ∀ {g : Nat} {t : TypeId} {cs : Array Value}, 82 ≠ t → Blk w14 g t cs → ¬ some g = qB q4 := fun ht B e => by
          obtain ⟨cs', B'⟩ := A14.se.blk e.symm
          exact ht (B'.type B).1
        refine ⟨q5, l4 + 1, c5, w15, hrun, ⟨n + 1, As' ++ [((n : Int), m)], by omega, hn', ⟨A14.chg.up k15 fun g hg => (A14.se.lt hg.symm).2, A12.lo, k15.blk A14.zb (nb (by decide) A14.zb), S15, fun h y => ?_⟩, k15.blk (k14.blk H12 fun x => x) (nb (by decide) (k14.blk H12 fun x => x)), k15.blk (k14.blk B12 fun x => x) (nb (by decide) (k14.blk B12 fun x => x)), by omega⟩, meas hn'⟩
        rw [List.mem_append, A12.mem, mustN_next, List.mem_singleton, Prod.mk.injEq]
        constructor
        · rintro (h1 | ⟨h1, h2⟩)
          · exact .inl h1
          · exact .inr ⟨h1, h2, by rw [h1]; exact hb.1, by rw [h1]; exact hne⟩
        · rintro (h1 | ⟨h1, h2, _⟩)
          · exact .inl h1
          · exact .inr ⟨h1, h2⟩
      · refine ⟨⟨n + 1, As', by omega, hn', ⟨A12.chg, A12.lo, A12.zb, A12.se, fun h y => ?_⟩, H12, B12, by omega⟩, meas hn'⟩
        rw [A12.mem, mustN_next]
        constructor
        · exact .inl
        · rintro (h1 | ⟨h1, _, h3, h4⟩)
          · exact h1
          · rw [h1] at h3 h4
            rw [h3] at hb
            simp at hb
            exact absurd hb h4
    · refine ⟨hnr.1, by omega, _, rowB_at H12 hnr, bc (fun hh => ⟨by rw [hh]; rfl, rfl⟩) fun hh => ⟨by rw [hh]; rfl, rfl⟩⟩
  have hn64 : n = 64 := by have := of_decide_eq_false hge; omega
  subst hn64
  have A12' := A12.mid (mustN_all hheld)
  refine ⟨_, (B12.cell 0).trans rfl, bc (fun h1 => ?_) fun h1 => ?_⟩
  · have h1 : x.1 = 1 := by simpa using h1
    rw [if_pos h1] at nextI
    refine ⟨hmr.1, by omega, rowB_put (v := true) H12 hmr fun w16 H16 k16 => nextI ⟨A12'.chg.up k16 fun g hg => by rw [hg]; exact hH0, A12'.lo, k16.blk A12'.zb hHZ, A12'.se.chg k16 fun g hg e => ?_, A12'.mem⟩ H16 hl4⟩
    obtain ⟨cs', B'⟩ := A12'.se.blk hg
    rw [e] at B'
    exact absurd (B'.type H12).1 (by decide)
  · have h1 : ¬ x.1 = 1 := by simpa using h1
    rw [if_neg h1] at nextI
    exact nextI A12' H12 hl4
end Full
end Go.Proofs.Ytibpbbjlecohiaa
