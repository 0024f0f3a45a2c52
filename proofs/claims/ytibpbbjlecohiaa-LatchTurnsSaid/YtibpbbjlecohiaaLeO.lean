import Derived.Test.YtibpbbjlecohiaaLeM
set_option maxRecDepth 20000
namespace Go.Proofs.Ytibpbbjlecohiaa
namespace Full
open Go Go.Vc Go.RowKit
/-! # LatchTurns: acts in order, each once (plain) -/
def cnt (ord : List Tn) (t : Nat) : Nat := (ord.filter fun x => x.task == (t : Int)).length
theorem cnt_next (ord : List Tn) (x : Tn) (i t : Nat) (h : x.task = (i : Int)) : cnt (ord ++ [x]) t = cnt ord t + if t = i then 1 else 0 := by
  unfold cnt
  rw [List.filter_append, List.length_append, List.filter_cons, List.filter_nil, h]
  by_cases e : t = i
  · rw [if_pos e, e]; simp
  · rw [if_neg e]
    have : ((i : Int) == (t : Int)) = false := by
      rw [beq_eq_false_iff_ne]; omega
    rw [this]; simp
structure OrdP (n : Nat) (p : PS) : Prop where
  at' : ∀ t, t < n → p.ats.getD t 0 = cnt p.ord t
  ord : ∀ (j : Nat) (x : Tn), p.ord[j]? = some x → ∃ i : Nat, i < n ∧ x.task = (i : Int) ∧ x.act = (cnt (p.ord.take j) i : Int) ∧ (x.waits = true → x.err = 0)
theorem actW_err {k : Int} {t : Told} (h : actW k t = true) : t.err = 0 := by
  unfold actW at h
  split at h
  · rw [Bool.and_eq_true] at h; exact of_decide_eq_true h.1
  · split at h
    · exact of_decide_eq_true h
    · cases h
theorem OrdP.step {p : PS} {acts : List (List Act)} (h : OrdP acts.length p) (ok : p.Ok acts) {t : Nat} (ht : t ∈ p.ready acts) : OrdP acts.length (p.step acts t) := by
  obtain ⟨a, ys, x, ha, hy, hlt, hx, _, ea, _⟩ := ok.mem ht
  have htn : t < acts.length := get_lt hy
  refine ⟨fun t' ht' => ?_, fun j y hj => ?_⟩
  · simp only [PS.step]
    rw [cnt_next _ _ t t' rfl, ea]
    by_cases e : t' = t
    · rw [if_pos e, e, List.getD_eq_getElem?_getD, List.getElem?_set_self (get_lt ha), ← h.at' t htn, ea]; rfl
    · rw [if_neg e, List.getD_eq_getElem?_getD, List.getElem?_set_ne (Ne.symm e), ← List.getD_eq_getElem?_getD, h.at' t' ht', Nat.add_zero]
  · simp only [PS.step] at hj ⊢
    rcases Nat.lt_or_ge j p.ord.length with hl | hl
    · rw [List.getElem?_append_left hl] at hj
      rw [List.take_append_of_le_length (Nat.le_of_lt hl)]
      exact h.ord j y hj
    · rw [List.getElem?_append_right hl] at hj
      have h0 : j - p.ord.length = 0 := by have := get_lt hj; simpa using this
      rw [h0] at hj
      cases hj
      have hjl : j = p.ord.length := by omega
      subst hjl
      rw [List.take_append_of_le_length (Nat.le_refl _), List.take_length]
      refine ⟨t, htn, rfl, ?_, fun hw => actW_err hw⟩
      show ((p.ats.getD t 0 : Nat) : Int) = _
      rw [h.at' t htn]
theorem playN_inv {acts : List (List Act)} {picks : List Int} (hpk : ∀ i, 0 ≤ pickF picks i) : ∀ (f i : Nat) (p : PS), p.Ok acts → OrdP acts.length p → sumL acts ≤ p.ats.sum + f → (playN acts picks f i p).Ok acts ∧ OrdP acts.length (playN acts picks f i p) ∧ (playN acts picks f i p).ready acts = []
  | 0, i, p, ok, h, hf => by
    refine ⟨ok, h, ?_⟩
    cases hr : p.ready acts with
    | nil => exact hr
    | cons t r =>
      have := (ok.sum (t := t) (by rw [hr]; simp)).1
      omega
  | f + 1, i, p, ok, h, hf => by
    rw [playN]
    by_cases hr : p.ready acts = []
    · rw [if_pos hr]; exact ⟨ok, h, hr⟩
    · rw [if_neg hr]
      have hm := (runs_mem (pick := pickF picks i) hr (hpk i)).1
      have hs := ok.sum hm
      exact playN_inv hpk f (i + 1) _ (ok.step hm) (h.step ok hm) (by omega)
theorem play_inv {acts : List (List Act)} {picks : List Int} (hpk : ∀ p ∈ picks, 0 ≤ p) (s : S8) : (playR s acts picks).Ok acts ∧ OrdP acts.length (playR s acts picks) ∧ (playR s acts picks).ready acts = [] := by
  refine playN_inv (fun i => ?_) _ _ _ (start_ok s acts) ⟨fun t _ => ?_, fun j x hj => by simp [startP] at hj⟩ (by omega)
  · unfold pickF
    rw [List.getD_eq_getElem?_getD]
    cases hx : picks[i]? with
    | none => exact Int.le_refl _
    | some x => exact hpk x (List.mem_of_getElem? hx)
  · simp only [startP, List.getD_eq_getElem?_getD, List.getElem?_replicate]
    split <;> rfl
/-- what a play that is told comes to -/
structure TurnsOk (acts : List (List Act)) (t : PlayT) : Prop where
  ord : ∀ (j : Nat) (x : Tn), t.ord[j]? = some x → ∃ i : Nat, i < acts.length ∧ x.task = (i : Int) ∧ x.act = (cnt (t.ord.take j) i : Int) ∧ (x.waits = true → x.err = 0)
  ex : ∃ dd : Nat → Bool, t.dead = toI ((List.range acts.length).filter dd) ∧ t.done = (List.range acts.length).map (fun i => (cnt t.ord i : Int) - if dd i then 1 else 0) ∧
    ∀ (i : Nat) (ys : List Act), acts[i]? = some ys → (cnt t.ord i : Int) - (if dd i then 1 else 0) ≤ (ys.length : Int) ∧ (dd i = false → cnt t.ord i = ys.length)
theorem playT_turns {a b c d : Int} {acts : List (List Act)} {picks : List Int} (h : (playT a b c d acts picks).err = 0) : TurnsOk acts (playT a b c d acts picks) ∧ acts.length ≤ 16 := by
  unfold playT at h ⊢
  by_cases hno : ¬ (okN a ∧ okN b ∧ okN c ∧ okN d)
  · rw [if_pos hno] at h; cases h
  rw [if_neg hno] at h ⊢
  by_cases hm : pmayF acts picks ≠ 0
  · rw [if_pos hm] at h; exact absurd h hm
  rw [if_neg hm]
  have hm : pmayF acts picks = 0 := Decidable.of_not_not hm
  obtain ⟨h16, _, _, hpk, _⟩ := pmay_kind hm
  obtain ⟨ok, op, hr⟩ := play_inv (acts := acts) (fun p hp => (hpk p hp).1) (new8 a.toNat b.toNat c.toNat d.toNat)
  generalize playR (new8 a.toNat b.toNat c.toNat d.toNat) acts picks = p at ok op hr
  refine ⟨⟨op.ord, fun i => (p.s.wt (i : Int)).isSome, rfl, ?_, fun i ys hy => ?_⟩, h16⟩
  · show doneL p.s.wt p.ats acts.length = _
    unfold doneL
    refine List.map_congr_left fun i hi => ?_
    rw [List.mem_range] at hi
    rw [doneN, op.at' i hi]
    split <;> simp
  · have hi : i < acts.length := get_lt hy
    obtain ⟨x, hx⟩ := get_ex (l := p.ats) (i := i) (by rw [ok.len]; exact hi)
    have ex : p.ats.getD i 0 = x := by rw [List.getD_eq_getElem?_getD, hx]; rfl
    have ey : acts.getD i [] = ys := by rw [List.getD_eq_getElem?_getD, hy]; rfl
    have hc := op.at' i hi
    rw [ex] at hc
    have hle := ok.le i x ys hx hy
    have hcc : cnt p.ord i ≤ ys.length := by omega
    refine ⟨?_, fun hd => ?_⟩
    · show (cnt p.ord i : Int) - _ ≤ _
      split <;> omega
    · have hn : ¬ i ∈ p.ready acts := by rw [hr]; simp
      unfold PS.ready readyN at hn
      rw [List.mem_filter, List.mem_range, canR, ex, ey] at hn
      have hd : (p.s.wt (i : Int)).isSome = false := hd
      have hd' : (p.s.wt (i : Int)).isNone = true := by
        cases hw : p.s.wt (i : Int) with
        | none => rfl
        | some v => rw [hw] at hd; cases hd
      rw [hd'] at hn
      show cnt p.ord i = ys.length
      by_cases e : x = ys.length
      · omega
      · exact absurd ⟨hi, by rw [decide_eq_false e]; rfl⟩ hn
/-! ## a row of numbers -/
def bgF (f : Nat → Int) (n : Nat) : Array Value := ((List.range n).map fun i => Value.int .i64 (f i)).toArray
theorem bgF_size (f : Nat → Int) (n : Nat) : (bgF f n).size = n := by simp [bgF]
theorem bgF_get {f : Nat → Int} {n i : Nat} (h : i < n) : (bgF f n)[i]? = some (.int .i64 (f i)) := by simp [bgF, h]
theorem bgF_set {f : Nat → Int} {n i : Nat} {v : Int} (h : i < n) : (bgF f n).setIfInBounds i (.int .i64 v) = bgF (fun j => if j = i then v else f j) n := by
  apply Array.ext_getElem?
  intro j
  by_cases hj : j < n
  · rw [bgF_get hj]
    by_cases e : i = j
    · subst e
      rw [Array.getElem?_setIfInBounds_self_of_lt (by rw [bgF_size]; exact h), if_pos rfl]
    · rw [Array.getElem?_setIfInBounds_ne e, bgF_get hj, if_neg (Ne.symm e)]
  · rw [Array.getElem?_eq_none (by rw [Array.size_setIfInBounds, bgF_size]; omega), Array.getElem?_eq_none (by rw [bgF_size]; omega)]
theorem made_bgF (n : Nat) : madeCells #[.int .i64 0] (n * 1) = bgF (fun _ => 0) n := by
  apply Array.ext_getElem?
  intro j
  by_cases hj : j < n
  · rw [bgF_get hj]
    have h1 := madeCells_get #[Value.int .i64 0] (by decide) n j (by show j < n * 1; omega)
    have h2 : j % (#[Value.int .i64 0] : Array Value).size = 0 := by show j % 1 = 0; omega
    rw [h2] at h1
    exact h1
  · rw [Array.getElem?_eq_none (by rw [size_madeCells]; omega), Array.getElem?_eq_none (by rw [bgF_size]; omega)]
theorem bgF_congr {f g : Nat → Int} {n : Nat} (h : ∀ i, i < n → f i = g i) : bgF f n = bgF g n := by
  unfold bgF
  rw [List.map_congr_left fun i hi => by rw [h i (List.mem_range.1 hi)]]
theorem playT_err {a b c d : Int} {acts : List (List Act)} {picks : List Int} (h : (playT a b c d acts picks).err ≠ 0) : (playT a b c d acts picks).ord = [] ∧ (playT a b c d acts picks).done = [] := by
  unfold playT at h ⊢
  by_cases hno : ¬ (okN a ∧ okN b ∧ okN c ∧ okN d)
  · rw [if_pos hno]; exact ⟨rfl, rfl⟩
  rw [if_neg hno] at h ⊢
  by_cases hm : pmayF acts picks ≠ 0
  · rw [if_pos hm]; exact ⟨rfl, rfl⟩
  rw [if_neg hm] at h
  exact absurd rfl h
theorem any_take {xs : List Int} {j : Nat} {x y : Int} (hx : xs[j]? = some x) : (xs.take (j + 1)).any (fun d => d == y) = ((xs.take j).any (fun d => d == y) || (x == y)) := by
  rw [List.take_add_one, hx, List.any_append]; simp
theorem turnsLaw8 {w : World} (a b c d : Int) {z : Hd} {acts : List (List Act)} (hA : ActsR w z acts) (hb : ∀ ys ∈ acts, ys.length ≤ 10000000000000) (hz : z.2.1 ≤ 1000000000000000) {q : Option Addr} {l cp : Nat} {picks : List Int} (hp : RE En.int w q l picks) (hl : l ≤ 1000000000000000) :
    Calls Try.prog 8 #[.agg #[.int .i64 a, .int .i64 b, .int .i64 c, .int .i64 d, .slice z.1 z.2.1 z.2.2, .slice q l cp]] w (Ret fun v w' => v = .bool true ∧ Chg none_ w w') := by
  refine f8.calls _ _ _ _ _ _ _ _ _ _ ?_
  unfold f8.wp
  refine newBox fun w1 B1 k1 s1 => Calls.use (plays22 w1) ?_
  rintro _ w2 ⟨rfl, k2⟩
  have A2 := k2.blk B1 fun x => x
  have k02 := k1.trans k2
  have hzl := hA.len
  have hG : reads w2 (⟨w.heap.size, 0, none⟩ : Addr) [.int .i64 a, .int .i64 b, .int .i64 c, .int .i64 d] := A2.reads fun j v hj => by rcases j with _ | _ | _ | _ | j; exact hj; exact hj; exact hj; exact hj; simp at hj
  have h23 := play23 a b c d (hA.chg k02) hb hz (hp.chg k02) (cp := cp) hl
  refine ⟨_, rfl, bcF rfl ⟨_, _, _, _, hG, _, _, _, (A2.cell0 4).trans rfl, _, _, _, (A2.cell0 5).trans rfl, Calls.use h23 ?_⟩⟩
  have hE := playT_err (a := a) (b := b) (c := c) (d := d) (acts := acts) (picks := picks)
  have hT := playT_turns (a := a) (b := b) (c := c) (d := d) (acts := acts) (picks := picks)
  generalize playT a b c d acts picks = t at hE hT
  rintro _ w3 ⟨⟨q1, l1, c1, q2, l2, c2, q3, l3, c3, q4, l4, c4, rfl, R1, R2, R3, R4, m1, m2, m3, m4, hf⟩, k3⟩
  have e1 := R1.len
  have e2 := R2.len
  refine ⟨_, _, _, _, _, _, _, _, _, _, _, _, _, rfl, boxed rfl rfl fun w5 B5 k5 s5 => ?_⟩
  have k25 := k3.trans k5
  have k05 := k02.trans k25
  have A5 := k25.blk A2 fun x => x
  refine bc (fun hne => ?_) fun heq => ?_
  · have hne : t.err ≠ 0 := by simpa using hne
    obtain ⟨h1, h2⟩ := hE hne
    have hl2 : l2 = 0 := by rw [← e2, h1]; rfl
    have hl1 : l1 = 0 := by rw [← e1, h2]; rfl
    exact ⟨_, _, _, (B5.cell0 1).trans rfl, bcT (by rw [hl2]; rfl) ⟨_, _, _, (B5.cell 0).trans rfl, by rw [hl1]; rfl, k05⟩⟩
  have heq : t.err = 0 := by simpa using heq
  obtain ⟨⟨hord, dd, hdead, hdone, hlen⟩, h16⟩ := hT heq
  have hl1 : l1 = acts.length := by rw [← e1, hdone]; simp
  refine ⟨_, _, _, (B5.cell 0).trans rfl, _, _, _, (A5.cell0 4).trans rfl, bcF (by rw [hl1, hzl]; simp) ⟨_, _, _, (A5.cell0 4).trans rfl, by omega, Int.le_refl _, by omega, by omega, ?_⟩⟩
  rw [show (Int.toNat ((z.2.1 : Nat) : Int)) = acts.length by rw [hzl]; rfl, made_bgF]
  refine newBox fun w6 Z6 k6 s6 => ?_
  have B6 := k6.blk B5 fun x => x
  have A6 := k6.blk A5 fun x => x
  have k36 := k5.trans k6
  have hw35 : w3.heap.size < w5.heap.size := by omega
  have hwz : w.heap.size ≤ w5.heap.size := k05.size
  have r1 := R1.chg k36
  have r2 := R2.chg k36
  have r4 := R4.chg k36
  have hf' : ∀ g, (qB q1 = some g ∨ qB q2 = some g ∨ qB q3 = some g ∨ qB q4 = some g) → g ≠ w5.heap.size := fun g hg => by have := (hf g hg).2; omega
  have hA0 : w.heap.size ≠ w5.heap.size := by have := A5.lt; omega
  have hB0 : w3.heap.size ≠ w5.heap.size := by omega
  have k06 := k05.trans k6
  generalize w5.heap.size = Z at Z6 hf' hA0 hB0 hwz ⊢
  have keep : ∀ {α : Type} {E : En α} {q : Option Addr} {l : Nat} {xs : List α} {w' : World}, (∀ g, qB q = some g → g ≠ Z) → Chg (fun g => g = Z) w6 w' → RE E w6 q l xs → RE E w' q l xs := fun hq k R => R.chgS k fun a ha hs => hq a.block (by rw [ha]; rfl) hs
  have up : ∀ {w' : World}, Chg (fun g => g = Z) w6 w' → Chg none_ w w' := fun k => k06.up k fun g hg => by rw [hg]; exact hwz
  have ei : ∀ i : Nat, ((i : Int).toNat * 1) = i := fun i => by omega
  have atZ : ∀ {w' : World} {f : Nat → Int} {i : Nat}, Blk w' Z 3 (bgF f acts.length) → i < acts.length → w'.cell? ((⟨Z, 0, none⟩ : Addr).add ((i : Int).toNat * 1)) = some (.int .i64 (f i)) := fun B hi => by
    rw [ei, B.cell0]; exact bgF_get hi
  have putZ : ∀ {w' : World} {f : Nat → Int} {i : Nat} {v : Int} {C : World → Prop}, Blk w' Z 3 (bgF f acts.length) → i < acts.length → (∀ w'', Blk w'' Z 3 (bgF (fun j => if j = i then v else f j) acts.length) → Chg (fun g => g = Z) w' w'' → C w'') →
      canStore w' ((⟨Z, 0, none⟩ : Addr).add ((i : Int).toNat * 1)) 1 ∧ ∀ w'', w'' = setCells ((⟨Z, 0, none⟩ : Addr).add ((i : Int).toNat * 1)) 0 [.int .i64 v] w' → C w'' := fun B hi hC => by
    rw [ei]
    refine ⟨B.canStore0 (by rw [bgF_size]; omega), fun w'' e'' => ?_⟩
    obtain ⟨B', k'⟩ := B.put e''
    rw [bgF_set hi] at B'
    exact hC w'' B' k'
  refine ⟨_, _, _, (B6.cell0 1).trans rfl, fun x1 w' => ∃ j : Nat, x1 = (j : Int) ∧ j ≤ l2 ∧ Blk w' Z 3 (bgF (fun i => (cnt (t.ord.take j) i : Int)) acts.length) ∧ Chg (fun g => g = Z) w6 w', fun x1 _ => l2 - x1.toNat, ⟨0, rfl, Nat.zero_le _, Z6, Chg.refl _ _⟩, ?_⟩
  rintro _ w7 ⟨j, rfl, hj, Z7, k7⟩
  refine bc (fun hlt => ?_) fun hge => ?_
  · have hj' : j < l2 := by simpa using hlt
    obtain ⟨ax, x, hqx, hx, hrx⟩ := (keep (fun g hg => hf' g (.inr (.inl hg))) k7 r2).ex hj'
    obtain ⟨i, hi, htask, hact, herr⟩ := hord j x hx
    have m2' : l2 ≤ 9223372036854775807 := by simpa only [maxLen] using m2
    rw [wrapS (x := (j : Int) + 1) (by omega) (by omega)]
    refine onPtr_q hqx ⟨by omega, by omega, _, _, _, _, hrx, boxed rfl rfl fun w9 B9 k9 s9 => ?_⟩
    have kd : Chg none_ w7 w9.drew := k9.trans ((Chg.refl none_ w9).drew)
    have B9d : Blk w9.drew w7.heap.size 62 _ := B9
    have Z9 := kd.blk Z7 fun x => x
    have k69 : Chg (fun g => g = Z) w6 w9.drew := k7.trans' kd fun g hg => hg.elim
    have hlZ : Z < w7.heap.size := Z7.lt
    have hcz : (cnt (t.ord.take j) i : Int) ≤ 9223372036854775806 := by
      have h1 : cnt (t.ord.take j) i ≤ (t.ord.take j).length := List.length_filter_le _ _
      rw [List.length_take] at h1
      omega
    refine ⟨fun w' => w' = w9.drew, ?_, ?_⟩
    · rintro _ rfl
      refine ⟨_, (B9d.cell 0).trans (by rw [htask]; rfl), by omega, by omega, _, atZ Z9 hi, by omega, by omega, putZ Z9 hi fun w'' Z'' k'' => ⟨⟨j + 1, by omega, hj', ?_, k69.trans' k'' fun g hg => .inl hg⟩, meas hj'⟩⟩
      rw [wrapS (by omega) (by omega)] at Z''
      have : bgF (fun i_1 => (cnt (t.ord.take (j + 1)) i_1 : Int)) acts.length = bgF (fun j_1 => if j_1 = i then (cnt (t.ord.take j) i : Int) + 1 else (cnt (t.ord.take j) j_1 : Int)) acts.length := bgF_congr fun i' _ => by
        rw [List.take_add_one, hx]
        show ((cnt (t.ord.take j ++ [x]) i' : Nat) : Int) = _
        rw [cnt_next _ _ i i' htask]
        by_cases e : i' = i
        · rw [if_pos e, if_pos e, e]; rfl
        · rw [if_neg e, if_neg e]; rfl
      rw [this]; exact Z''
    · refine ⟨_, (B9d.cell 0).trans (by rw [htask]; rfl), bcF (decide_eq_false (by omega)) ⟨_, (B9d.cell 0).trans (by rw [htask]; rfl), bcF (decide_eq_false (by omega)) ⟨_, (B9d.cell0 1).trans rfl, _, (B9d.cell 0).trans (by rw [htask]; rfl), by omega, by omega, _, atZ Z9 hi, bcF (by rw [hact]; simp) ⟨_, (B9d.cell0 2).trans rfl, bc (fun hw => ⟨_, (B9d.cell0 3).trans rfl, bcF (by rw [herr hw]; rfl) rfl⟩) fun hw => rfl⟩⟩⟩⟩
  have hjl : j = l2 := by have := of_decide_eq_false hge; omega
  rw [hjl, List.take_of_length_le (by omega)] at Z7
  have B7 := k7.blk B6 hB0
  have hdl : ((List.range acts.length).filter dd).length = l4 := by
    have := R4.len
    rw [hdead] at this
    simpa [toI] using this
  have hd16 : l4 ≤ 16 := by
    have := List.length_filter_le dd (List.range acts.length)
    rw [List.length_range] at this
    omega
  have hnd : ((List.range acts.length).filter dd).Nodup := List.Nodup.sublist List.filter_sublist List.nodup_range
  have hcl : ∀ i, (cnt t.ord i : Int) ≤ 9223372036854775807 := fun i => by
    have h1 : cnt t.ord i ≤ t.ord.length := List.length_filter_le _ _
    have m2' : l2 ≤ 9223372036854775807 := by simpa only [maxLen] using m2
    omega
  generalize hdn : (List.range acts.length).filter dd = deadN at hdead hdl hnd
  have hmem : ∀ i, i ∈ deadN ↔ i < acts.length ∧ dd i = true := fun i => by rw [← hdn, List.mem_filter, List.mem_range]
  refine ⟨_, _, _, (B7.cell0 3).trans rfl, fun x2 w' => ∃ k : Nat, x2 = (k : Int) ∧ k ≤ l4 ∧ Blk w' Z 3 (bgF (fun i => (cnt t.ord i : Int) - if i ∈ deadN.take k then 1 else 0) acts.length) ∧ Chg (fun g => g = Z) w6 w', fun x2 _ => l4 - x2.toNat, ⟨0, rfl, Nat.zero_le _, by simpa using Z7, k7⟩, ?_⟩
  rintro _ w12 ⟨k, rfl, hk, Z12, k12⟩
  refine bc (fun hlt => ?_) fun hge => ?_
  · have hk' : k < l4 := by simpa using hlt
    obtain ⟨ax, x, hqx, hx, hrx⟩ := (keep (fun g hg => hf' g (.inr (.inr (.inr hg)))) k12 r4).ex hk'
    obtain ⟨i, hi⟩ := get_ex (l := deadN) (i := k) (by omega)
    have hxi : x = (i : Int) := by rw [hdead, toI_get hi] at hx; exact (Option.some.inj hx).symm
    subst hxi
    obtain ⟨hin, _⟩ := (hmem i).1 (List.mem_of_getElem? hi)
    have hnot : i ∉ deadN.take k := fun hm => by
      obtain ⟨k2, hk2⟩ := List.getElem?_of_mem hm
      rw [List.getElem?_take] at hk2
      split at hk2
      · rename_i hlt2
        have := (List.getElem?_inj (get_lt hk2) hnd).1 (hk2.trans hi.symm)
        omega
      · cases hk2
    rw [wrapS (x := (k : Int) + 1) (by omega) (by omega)]
    refine onPtr_q hqx ⟨by omega, by omega, _, reads_one' hrx, bcF (decide_eq_false (by omega)) (bcF (decide_eq_false (by omega)) ⟨by omega, by omega, _, atZ Z12 hin, by omega, by omega, putZ Z12 hin fun w'' Z'' k'' => ⟨⟨k + 1, by omega, hk', ?_, k12.trans' k'' fun g hg => .inl hg⟩, meas hk'⟩⟩)⟩
    have hci := hcl i
    rw [if_neg hnot, wrapS (by omega) (by omega)] at Z''
    have : bgF (fun i_1 => (cnt t.ord i_1 : Int) - if i_1 ∈ deadN.take (k + 1) then 1 else 0) acts.length = bgF (fun j_1 => if j_1 = i then (cnt t.ord i : Int) - 0 - 1 else (cnt t.ord j_1 : Int) - if j_1 ∈ deadN.take k then 1 else 0) acts.length := bgF_congr fun i' _ => by
      rw [List.take_add_one, hi]
      simp only [Option.toList_some, List.mem_append, List.mem_singleton]
      by_cases e : i' = i
      · rw [if_pos e, if_pos (.inr e), e]; omega
      · rw [if_neg e]
        by_cases h2 : i' ∈ deadN.take k
        · rw [if_pos (.inl h2), if_pos h2]
        · rw [if_neg (fun h => h.elim h2 e), if_neg h2]
    rw [this]; exact Z''
  have hkl : k = l4 := by have := of_decide_eq_false hge; omega
  rw [hkl, List.take_of_length_le (by omega)] at Z12
  have Z12' : Blk w12 Z 3 (bgF (fun i => (cnt t.ord i : Int) - if dd i then 1 else 0) acts.length) := by
    have : bgF (fun i => (cnt t.ord i : Int) - if dd i then 1 else 0) acts.length = bgF (fun i => (cnt t.ord i : Int) - if i ∈ deadN then 1 else 0) acts.length := bgF_congr fun i hi => by
      by_cases h : dd i = true
      · rw [if_pos h, if_pos ((hmem i).2 ⟨hi, h⟩)]
      · rw [if_neg h, if_neg fun hm => h ((hmem i).1 hm).2]
    rw [this]; exact Z12
  have B12 := k12.blk B6 hB0
  refine ⟨_, _, _, (B12.cell 0).trans rfl, fun x3 w' => ∃ i : Nat, x3 = (i : Int) ∧ i ≤ l1 ∧ Chg none_ w12 w', fun x3 _ => l1 - x3.toNat, ⟨0, rfl, Nat.zero_le _, Chg.refl _ _⟩, ?_⟩
  rintro _ w14 ⟨i, rfl, hi, k14⟩
  have k614 : Chg (fun g => g = Z) w6 w14 := k12.trans' k14 fun g hg => hg.elim
  refine bc (fun hlt => ?_) fun hge => ⟨rfl, up k614⟩
  have hi' : i < l1 := by simpa using hlt
  have hin : i < acts.length := by omega
  obtain ⟨ax, x, hqx, hx, hrx⟩ := (keep (fun g hg => hf' g (.inl hg)) k614 r1).ex hi'
  have hxi : x = (cnt t.ord i : Int) - if dd i then 1 else 0 := by
    rw [hdone, List.getElem?_map, List.getElem?_range hin] at hx
    exact (Option.some.inj hx).symm
  obtain ⟨ys, hy⟩ := get_ex (l := acts) hin
  obtain ⟨hle, hfull⟩ := hlen i ys hy
  have Z14 := k14.blk Z12' fun x => x
  have A14 := k614.blk A6 hA0
  have B14 := k614.blk B6 hB0
  obtain ⟨hil, az, hd, hq, hc, hR⟩ := (hA.chg (up k614)).at' hy
  have hRl := hR.len
  rw [wrapS (x := (i : Int) + 1) (by omega) (by omega)]
  refine onPtr_q hqx ⟨by omega, by omega, _, reads_one' hrx, by omega, by omega, _, atZ Z14 hin, bcF (by rw [hxi]; simp) ⟨_, _, _, (A14.cell0 4).trans rfl, onPtr_q hq ⟨by omega, by omega, _, _, _, hc, bcF (decide_eq_false (by rw [hxi]; omega)) ⟨_, _, _, (B14.cell0 3).trans rfl, ?_⟩⟩⟩⟩
  refine ⟨fun x4 x5 w' => ∃ k : Nat, x5 = (k : Int) ∧ k ≤ l4 ∧ x4 = (t.dead.take k).any (fun d => d == (i : Int)) ∧ Chg none_ w14 w', fun _ x5 _ => l4 - x5.toNat, ⟨0, rfl, Nat.zero_le _, by simp, Chg.refl _ _⟩, ?_⟩
  rintro x4 _ w15 ⟨k2, rfl, hk2, rfl, k15⟩
  have k615 : Chg (fun g => g = Z) w6 w15 := k614.trans' k15 fun g hg => hg.elim
  refine bc (fun hlt => ?_) fun hge => ?_
  · have hk' : k2 < l4 := by simpa using hlt
    obtain ⟨ad', xd, hqd, hxd, hrd⟩ := (keep (fun g hg => hf' g (.inr (.inr (.inr hg)))) k615 r4).ex hk'
    have hnx := any_take (y := (i : Int)) hxd
    rw [wrapS (x := (k2 : Int) + 1) (by omega) (by omega)]
    refine onPtr_q hqd ⟨by omega, by omega, _, reads_one' hrd, bc (fun h4 => ⟨⟨k2 + 1, by omega, hk', by rw [hnx, h4]; rfl, k15⟩, meas hk'⟩) fun h4 => ⟨⟨k2 + 1, by omega, hk', by rw [hnx, h4]; rfl, k15⟩, meas hk'⟩⟩
  have hkl2 : k2 = l4 := by have := of_decide_eq_false hge; omega
  have hall : t.dead.take k2 = t.dead := List.take_of_length_le (by rw [R4.len]; omega)
  rw [hall]
  have next : (∃ i' : Nat, ((i : Int) + 1) = (i' : Int) ∧ i' ≤ l1 ∧ Chg none_ w12 w15) ∧ l1 - ((i : Int) + 1).toNat < l1 - (i : Int).toNat := ⟨⟨i + 1, by omega, hi', k14.trans k15⟩, meas hi'⟩
  refine bc (fun hno => ?_) fun _ => next
  have hdd : dd i = false := by
    cases h : dd i with
    | false => rfl
    | true =>
      have h1 : i ∈ deadN := (hmem i).2 ⟨hin, h⟩
      have h2 : t.dead.any (fun d => d == (i : Int)) = true := by
        rw [hdead]
        exact List.any_eq_true.2 ⟨(i : Int), List.mem_map.2 ⟨i, h1, rfl⟩, by simp⟩
      rw [h2] at hno; cases hno
  have A15 := k15.blk A14 fun x => x
  have hc15 := k15.cellS hc fun x => x
  have hcf := hfull hdd
  refine ⟨_, _, _, (A15.cell0 4).trans rfl, onPtr_q hq ⟨by omega, by omega, _, _, _, hc15, bcF ?_ next⟩⟩
  rw [hxi, hdd, hRl.symm, hcf]
  simp
end Full
end Go.Proofs.Ytibpbbjlecohiaa
