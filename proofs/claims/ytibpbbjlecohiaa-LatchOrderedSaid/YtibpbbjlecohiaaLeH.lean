import Derived.Test.YtibpbbjlecohiaaLeE
set_option maxRecDepth 20000
namespace Go.Proofs.Ytibpbbjlecohiaa
namespace Full
open Go Go.Vc Go.RowKit
/-! # plays (plain) -/
theorem sum_le : ∀ (xs ys : List Nat), xs.length = ys.length → (∀ (i x y : Nat), xs[i]? = some x → ys[i]? = some y → x ≤ y) → xs.sum ≤ ys.sum
  | [], [], _, _ => Nat.le_refl _
  | x :: xs, y :: ys, hl, h => by
    have h0 := h 0 x y rfl rfl
    have ih := sum_le xs ys (by simpa using hl) fun i a b ha hb => h (i + 1) a b (by simpa using ha) (by simpa using hb)
    simp only [List.sum_cons]; omega
theorem sum_lt : ∀ (xs ys : List Nat) (k a b : Nat), xs.length = ys.length → (∀ (i x y : Nat), xs[i]? = some x → ys[i]? = some y → x ≤ y) → xs[k]? = some a → ys[k]? = some b → a < b → xs.sum < ys.sum
  | [], _, k, a, b, _, _, ha, _, _ => by simp at ha
  | x :: xs, [], k, a, b, hl, _, _, _, _ => by simp at hl
  | x :: xs, y :: ys, k, a, b, hl, h, ha, hb, hab => by
    have h' : ∀ (i u v : Nat), xs[i]? = some u → ys[i]? = some v → u ≤ v := fun i u v hu hv => h (i + 1) u v (by simpa using hu) (by simpa using hv)
    have hl' : xs.length = ys.length := by simpa using hl
    simp only [List.sum_cons]
    cases k with
    | zero =>
      simp at ha hb
      have := sum_le xs ys hl' h'
      omega
    | succ k =>
      have := sum_lt xs ys k a b hl' h' (by simpa using ha) (by simpa using hb) hab
      have := h 0 x y rfl rfl
      omega
theorem sum_up : ∀ {xs : List Nat} {i a : Nat}, xs[i]? = some a → (xs.set i (a + 1)).sum = xs.sum + 1
  | [], i, a, h => by simp at h
  | x :: xs, 0, a, h => by simp at h; subst h; simp only [List.set_cons_zero, List.sum_cons]; omega
  | x :: xs, i + 1, a, h => by
    have := sum_up (xs := xs) (i := i) (a := a) (by simpa using h)
    simp only [List.set_cons_succ, List.sum_cons]; omega
structure PS.Ok (p : PS) (acts : List (List Act)) : Prop where
  len : p.ats.length = acts.length
  le : ∀ (i a : Nat) (ys : List Act), p.ats[i]? = some a → acts[i]? = some ys → a ≤ ys.length
theorem PS.Ok.mem {p : PS} {acts : List (List Act)} (h : p.Ok acts) {t : Nat} (ht : t ∈ p.ready acts) : ∃ (a : Nat) (ys : List Act) (x : Act), p.ats[t]? = some a ∧ acts[t]? = some ys ∧ a < ys.length ∧ ys[a]? = some x ∧ p.s.wt (t : Int) = none ∧ p.ats.getD t 0 = a ∧ actAt acts t a = x := by
  unfold PS.ready readyN at ht
  rw [List.mem_filter, List.mem_range] at ht
  obtain ⟨ht, hc⟩ := ht
  obtain ⟨ys, hy⟩ := get_ex (l := acts) ht
  obtain ⟨a, ha⟩ := get_ex (l := p.ats) (i := t) (by rw [h.len]; exact ht)
  have ea : p.ats.getD t 0 = a := by rw [List.getD_eq_getElem?_getD, ha]; rfl
  have ey : acts.getD t [] = ys := by rw [List.getD_eq_getElem?_getD, hy]; rfl
  rw [canR, ea, ey, Bool.and_eq_true] at hc
  have hle := h.le t a ys ha hy
  have hne : ¬ a = ys.length := by simpa using hc.2
  obtain ⟨x, hx⟩ := get_ex (l := ys) (i := a) (by omega)
  refine ⟨a, ys, x, ha, hy, by omega, hx, by simpa using hc.1, ea, ?_⟩
  rw [actAt, ey, List.getD_eq_getElem?_getD, hx]; rfl
theorem PS.Ok.step {p : PS} {acts : List (List Act)} (h : p.Ok acts) {t : Nat} (ht : t ∈ p.ready acts) : (p.step acts t).Ok acts := by
  obtain ⟨a, ys, x, ha, hy, hlt, hx, _, ea, _⟩ := h.mem ht
  refine ⟨by simp [PS.step, h.len], fun i b zs hb hz => ?_⟩
  simp only [PS.step, ea] at hb
  by_cases hi : i = t
  · subst hi
    rw [List.getElem?_set_self (get_lt ha)] at hb
    cases hb
    rw [hy] at hz
    cases hz
    omega
  · rw [List.getElem?_set_ne (Ne.symm hi)] at hb
    exact h.le i b zs hb hz
theorem PS.Ok.sum {p : PS} {acts : List (List Act)} (h : p.Ok acts) {t : Nat} (ht : t ∈ p.ready acts) : p.ats.sum < sumL acts ∧ (p.step acts t).ats.sum = p.ats.sum + 1 ∧ (p.step acts t).ord.length = p.ord.length + 1 := by
  obtain ⟨a, ys, x, ha, hy, hlt, hx, _, ea, _⟩ := h.mem ht
  refine ⟨?_, ?_, by simp [PS.step]⟩
  · refine sum_lt p.ats (acts.map List.length) t a ys.length (by simp [h.len]) (fun i u v hu hv => ?_) ha (by rw [List.getElem?_map, hy]; rfl) hlt
    rw [List.getElem?_map, Option.map_eq_some_iff] at hv
    obtain ⟨zs, hz, rfl⟩ := hv
    exact h.le i u zs hu hz
  · simp only [PS.step, ea]
    exact sum_up ha
theorem start_ok (s : S8) (acts : List (List Act)) : (startP s acts.length).Ok acts := ⟨by simp [startP], fun i a ys ha _ => by
  simp only [startP, List.getElem?_replicate] at ha
  split at ha
  · cases ha; exact Nat.zero_le _
  · cases ha⟩
theorem playN_end {acts : List (List Act)} {picks : List Int} {f i : Nat} {p : PS} (h : p.ready acts = []) : playN acts picks f i p = p := by
  cases f with
  | zero => rfl
  | succ f => rw [playN, if_pos h]
/-- who runs is one who can -/
theorem runs_mem {r : List Nat} {pick : Int} (h : r ≠ []) (h0 : 0 ≤ pick) : runsF r pick ∈ r ∧ (pick.tmod (r.length : Int)).toNat < r.length ∧ 0 ≤ pick.tmod (r.length : Int) ∧ r[(pick.tmod (r.length : Int)).toNat]? = some (runsF r pick) := by
  have hl : 0 < r.length := List.length_pos_iff.2 h
  have h1 : 0 ≤ pick.tmod (r.length : Int) := Int.tmod_nonneg _ h0
  have h2 : pick.tmod (r.length : Int) < (r.length : Int) := Int.tmod_lt_of_pos _ (by omega)
  have h3 : (pick.tmod (r.length : Int)).toNat < r.length := by omega
  have h4 : r[(pick.tmod (r.length : Int)).toNat]? = some (runsF r pick) := by
    rw [runsF, List.getD_eq_getElem?_getD, List.getElem?_eq_getElem h3]; rfl
  exact ⟨List.mem_of_getElem? h4, h3, h1, h4⟩
theorem toI_get {l : List Nat} {i x : Nat} (h : l[i]? = some x) : (toI l)[i]? = some (x : Int) := by rw [toI, List.getElem?_map, h]; rfl
theorem doneL_succ (wt : Int → Option W3) (ats : List Nat) (n : Nat) : doneL wt ats (n + 1) = doneL wt ats n ++ [doneN wt ats n] := by rw [doneL, List.range_succ, List.map_append]; rfl
theorem deadL_succ (wt : Int → Option W3) (n : Nat) : deadL wt (n + 1) = if (wt (n : Int)).isSome then deadL wt n ++ [(n : Int)] else deadL wt n := by
  unfold deadL toI
  rw [List.range_succ, List.filter_append, List.filter_cons, List.filter_nil]
  split
  · rw [List.map_append]; rfl
  · rw [List.append_nil]
theorem deadL_len (wt : Int → Option W3) (n : Nat) : (deadL wt n).length ≤ n := by
  have := List.length_filter_le (fun i : Nat => (wt (i : Int)).isSome) (List.range n)
  simpa [deadL, toI] using this
theorem stepMethod (p : Option Addr) (w : World) : (method (Try.prog.types.size + Made.depth) 118 (.pointer p) "Step").run Try.prog w = .ok (155, .pointer p) w := by kernel_rfl
theorem stepAhead (p : Option Addr) (w : World) : (nilAhead (Try.prog.types.size + Made.depth) 118 (.pointer p) "Step").run Try.prog w = .ok (some false) w := by kernel_rfl
/-- one program more -/
theorem PI.more {w0 w w1 w2 : World} {base N Q o bp : Nat} {g : G8} {s : S8} {z tk : Hd} {bs ats : List Nat} {ord : List Tn} (h : PI w0 w base N Q o bp g s z tk bs ats ord) (e1 : w1 = w.alloc (.cells #[.pointer (some (ad bp)), .int .i64 (bs.length : Int), .int .i64 0] 120)) (hl : bs.length ≤ 100) (e2 : w2 = w1.alloc (.cells #[.pointer (some (ad w.heap.size))] 118)) :
    ∃ q c w3, (Builtin.append_ #[117, 117] 117 #[.slice tk.1 tk.2.1 tk.2.2, .slice (some ⟨w1.heap.size, 0, none⟩) 1 1]).run Try.prog w2 = .ok (.slice q (tk.2.1 + 1) c) w3 ∧ PI w0 w3 base N Q o bp g s z (q, tk.2.1 + 1, c) (bs ++ [w.heap.size]) (ats ++ [0]) ord := by
  have B1 := new_blk e1
  have k1 := (Chg.refl none_ w).new' e1
  have s1 := new_size e1
  have B2 := new_blk e2
  have k2 := (Chg.refl none_ w1).new' e2
  have h2 := h.chgN (k1.trans k2)
  have B12 := k2.blk B1 fun x => x
  have htl := h.ts.len
  obtain ⟨qo, lo, co, P0, _, _⟩ := h.pl
  have hw2 : base ≤ w2.heap.size := by
    have e3 := h.bpl
    have e4 := P0.lt
    have e5 := (k1.trans k2).size
    omega
  obtain ⟨q, c, w3, hrun, S3, k3, hq, _⟩ := h2.ts.append1 (t := 117) (ty := 117) (x := w.heap.size) elemPt B2 (by simp only [maxLen]; omega) (by show (tk.2.1 + 1) * 8 ≤ _; omega) hw2
  have nt : ∀ {g1 : Nat} {t : TypeId} {cs : Array Value}, 118 ≠ t → Blk w2 g1 t cs → ¬ some g1 = qB tk.1 := fun ht B e => by
    obtain ⟨cs', B'⟩ := h2.ts.blk e.symm
    exact ht (B'.type B).1
  obtain ⟨q', l', c', P2, S2, hn2⟩ := h2.pl
  have hnew : ¬ Own g o w.heap.size := fun ho => by have := (h.lat.own_lt ho).1; omega
  refine ⟨q, c, w3, hrun, h2.chg.up k3 fun x hx => Nat.le_trans h.lo (h2.ts.lt hx.symm).2, h2.lat.chg k3 fun x hx => h2.tn x hx.symm, h.lo, h.bpl, h.bpn, ⟨q', l', c', k3.blk P2 (nt (by decide) P2), S2.chg k3 fun x hx hs => (by obtain ⟨cs', Y⟩ := S2.blk hx; exact nt (by decide) Y hs), hn2⟩, S3, fun x hx => ?_, by simp [h.len], fun i b a hb ha => ?_, fun i j b hi hj => ?_⟩
  · rcases hq with hq | hq
    · rw [hq] at hx; exact h2.tn x hx
    · rw [hq] at hx
      cases hx
      exact fun ho => by have := (h2.lat.own_lt ho).1; omega
  · by_cases hi : i < bs.length
    · rw [List.getElem?_append_left hi] at hb
      rw [List.getElem?_append_left (by rw [← h.len]; exact hi)] at ha
      obtain ⟨Y, y1, y2⟩ := h2.pr i b a hb ha
      exact ⟨k3.blk Y (nt (by decide) Y), y1, y2⟩
    · rw [List.getElem?_append_right (by omega)] at hb
      rw [List.getElem?_append_right (by rw [← h.len]; omega)] at ha
      have hz : i - bs.length = 0 := by have := get_lt hb; simpa using this
      rw [hz] at hb
      rw [← h.len, hz] at ha
      cases hb; cases ha
      have hib : i = bs.length := by omega
      subst hib
      refine ⟨k3.blk B12 (nt (by decide) B12), ?_, hnew⟩
      have e3 := h.bpl
      have e4 := P0.lt
      omega
  · have old : ∀ {i : Nat}, bs[i]? = some b → b < w.heap.size := fun {i} hb => by
      obtain ⟨a, ha⟩ := get_ex (l := ats) (i := i) (by rw [← h.len]; exact get_lt hb)
      exact (h.pr i b a hb ha).1.lt
    have cas : ∀ {i : Nat}, (bs ++ [w.heap.size])[i]? = some b → (bs[i]? = some b ∧ b < w.heap.size) ∨ (i = bs.length ∧ b = w.heap.size) := fun {i} hb => by
      by_cases hi : i < bs.length
      · rw [List.getElem?_append_left hi] at hb; exact .inl ⟨hb, old hb⟩
      · rw [List.getElem?_append_right (by omega)] at hb
        have hz : i - bs.length = 0 := by have := get_lt hb; simpa using this
        rw [hz] at hb
        cases hb
        exact .inr ⟨by omega, rfl⟩
    rcases cas hi with ⟨h1, h2⟩ | ⟨h1, h2⟩ <;> rcases cas hj with ⟨h3, h4⟩ | ⟨h3, h4⟩
    · exact h.one i j b h1 h3
    · omega
    · omega
    · omega
end Full
end Go.Proofs.Ytibpbbjlecohiaa
set_option maxRecDepth 20000
namespace Go.Proofs.Ytibpbbjlecohiaa
namespace Full
open Go Go.Vc Go.RowKit
/-! # Play -/
instance (n : Int) : Decidable (okN n) := by unfold okN; infer_instance
structure PlayT where
  done : List Int
  ord : List Tn
  ctr : List Int
  dead : List Int
  err : Int
def playT (a b c d : Int) (acts : List (List Act)) (picks : List Int) : PlayT :=
  if ¬ (okN a ∧ okN b ∧ okN c ∧ okN d) then ⟨[], [], [], [], 1⟩ else if pmayF acts picks ≠ 0 then ⟨[], [], [], [], pmayF acts picks⟩ else
    let p := playR (new8 a.toNat b.toNat c.toNat d.toNat) acts picks
    ⟨doneL p.s.wt p.ats acts.length, p.ord, p.s.ns, deadL p.s.wt acts.length, 0⟩
def PlR (lo : Nat) (w' : World) (t : PlayT) (v : Value) : Prop := ∃ (q1 : Option Addr) (l1 c1 : Nat) (q2 : Option Addr) (l2 c2 : Nat) (q3 : Option Addr) (l3 c3 : Nat) (q4 : Option Addr) (l4 c4 : Nat),
  v = .tuple #[.agg #[.slice q1 l1 c1, .slice q2 l2 c2, .slice q3 l3 c3, .slice q4 l4 c4], .int .i64 t.err] ∧ RE En.int w' q1 l1 t.done ∧ RE En.turn w' q2 l2 t.ord ∧ RE En.int w' q3 l3 t.ctr ∧ RE En.int w' q4 l4 t.dead ∧ l1 ≤ maxLen ∧ l2 ≤ maxLen ∧ l3 ≤ maxLen ∧ l4 ≤ maxLen ∧
  ∀ b, (qB q1 = some b ∨ qB q2 = some b ∨ qB q3 = some b ∨ qB q4 = some b) → lo ≤ b ∧ b < w'.heap.size
theorem SE.lmax {α : Type} {E : En α} {w : World} {base : Nat} {e : TypeId} {q : Option Addr} {l c : Nat} {xs : List α} (h : SE E w base e q l c xs) : l ≤ maxLen := by
  rcases h.ex with ⟨_, rfl, _⟩ | ⟨_, _, _, _, _, _, h1, h2, _⟩
  · exact Nat.zero_le _
  · exact Nat.le_trans h1 h2
/-- what is told behind the turns: under way -/
structure FinI (W w : World) (bp o : Nat) (z : Hd) (ordH ctrH : Hd) (dn dd : List Int) (q1 : Option Addr) (l1 c1 : Nat) (q4 : Option Addr) (l4 c4 : Nat) : Prop where
  chg : Chg (fun x => x = bp) W w
  pl : Blk w bp 116 #[.pointer (some (ad o)), .slice q1 l1 c1, .slice ordH.1 ordH.2.1 ordH.2.2, .slice ctrH.1 ctrH.2.1 ctrH.2.2, .slice q4 l4 c4, .slice z.1 z.2.1 z.2.2]
  s1 : SE En.int w W.heap.size 3 q1 l1 c1 dn
  s4 : SE En.int w W.heap.size 3 q4 l4 c4 dd
  ne : ∀ x, qB q1 = some x → qB q4 ≠ some x
theorem FinI.chgN {W w w' : World} {bp o : Nat} {z ordH ctrH : Hd} {dn dd : List Int} {q1 : Option Addr} {l1 c1 : Nat} {q4 : Option Addr} {l4 c4 : Nat} (h : FinI W w bp o z ordH ctrH dn dd q1 l1 c1 q4 l4 c4) (k : Chg none_ w w') : FinI W w' bp o z ordH ctrH dn dd q1 l1 c1 q4 l4 c4 :=
  ⟨h.chg.trans' k fun _ hx => hx.elim, k.blk h.pl fun x => x, h.s1.chgN k, h.s4.chgN k, h.ne⟩
section
variable {W w w1 : World} {bp o : Nat} {z ordH ctrH : Hd} {dn dd : List Int} {q1 : Option Addr} {l1 c1 : Nat} {q4 : Option Addr} {l4 c4 : Nat}
/-- one dead more -/
theorem FinI.dead (h : FinI W w bp o z ordH ctrH dn dd q1 l1 c1 q4 l4 c4) {x : Int} (e1 : w1 = w.alloc (.cells #[.int .i64 x] 3)) (hl : l4 ≤ 1000) :
    ∃ q c w2, (Builtin.append_ #[35, 35] 35 #[.slice q4 l4 c4, .slice (some ⟨w.heap.size, 0, none⟩) 1 1]).run Try.prog w1 = .ok (.slice q (l4 + 1) c) w2 ∧ canStore w2 ((ad bp).add 4) 1 ∧
      ∀ w3, w3 = setCells ((ad bp).add 4) 0 [.slice q (l4 + 1) c] w2 → FinI W w3 bp o z ordH ctrH dn (dd ++ [x]) q1 l1 c1 q (l4 + 1) c := by
  have B1 := new_blk e1
  have k1 := (Chg.refl none_ w).new' e1
  have h1 := h.chgN k1
  obtain ⟨q, c, w2, hrun, S2, k2, hq, _⟩ := h1.s4.append1 (t := 35) (ty := 35) (x := x) elemInt B1 (by simp only [maxLen]; omega) (by show (l4 + 1) * 8 ≤ _; omega) h1.chg.size
  have n0 : ¬ some bp = qB q4 := fun e => by
    obtain ⟨cs', B'⟩ := h1.s4.blk e.symm
    exact absurd (B'.type h1.pl).1 (by decide)
  have P2 := k2.blk h1.pl n0
  refine ⟨q, c, w2, hrun, P2.canStore0 (o := 4) (n := 1) (by show 4 + 1 ≤ 6; decide), fun w3 e3 => ?_⟩
  obtain ⟨P3, k3⟩ := P2.put (i := 4) e3
  have nb : ∀ {α : Type} {E : En α} {q : Option Addr} {l c : Nat} {xs : List α}, SE E w2 W.heap.size 3 q l c xs → ∀ g, qB q = some g → ¬ g = bp := fun S g hg e => by
    obtain ⟨cs', B'⟩ := S.blk hg
    rw [e] at B'
    exact absurd (B'.type P2).1 (by decide)
  have S1 := h1.s1.chg k2 fun g hg e => h1.ne g hg e.symm
  refine ⟨(h1.chg.trans' k2 fun g hg => .inr (h1.s4.lt hg.symm).2).trans' k3 fun g hg => .inl hg, P3, S1.chg k3 (nb S1), S2.chg k3 (nb S2), fun g hg e => ?_⟩
  rcases hq with hq | hq
  · rw [hq] at e; exact h1.ne g hg e
  · rw [hq] at e
    cases e
    have := (h1.s1.lt hg).1
    omega
/-- one number more -/
theorem FinI.done (h : FinI W w bp o z ordH ctrH dn dd q1 l1 c1 q4 l4 c4) {x : Int} (e1 : w1 = w.alloc (.cells #[.int .i64 x] 3)) (hl : l1 ≤ 1000) :
    ∃ q c w2, (Builtin.append_ #[35, 35] 35 #[.slice q1 l1 c1, .slice (some ⟨w.heap.size, 0, none⟩) 1 1]).run Try.prog w1 = .ok (.slice q (l1 + 1) c) w2 ∧ canStore w2 ((ad bp).add 1) 1 ∧
      ∀ w3, w3 = setCells ((ad bp).add 1) 0 [.slice q (l1 + 1) c] w2 → FinI W w3 bp o z ordH ctrH (dn ++ [x]) dd q (l1 + 1) c q4 l4 c4 := by
  have B1 := new_blk e1
  have k1 := (Chg.refl none_ w).new' e1
  have h1 := h.chgN k1
  obtain ⟨q, c, w2, hrun, S2, k2, hq, _⟩ := h1.s1.append1 (t := 35) (ty := 35) (x := x) elemInt B1 (by simp only [maxLen]; omega) (by show (l1 + 1) * 8 ≤ _; omega) h1.chg.size
  have n0 : ¬ some bp = qB q1 := fun e => by
    obtain ⟨cs', B'⟩ := h1.s1.blk e.symm
    exact absurd (B'.type h1.pl).1 (by decide)
  have P2 := k2.blk h1.pl n0
  refine ⟨q, c, w2, hrun, P2.canStore0 (o := 1) (n := 1) (by show 1 + 1 ≤ 6; decide), fun w3 e3 => ?_⟩
  obtain ⟨P3, k3⟩ := P2.put (i := 1) e3
  have nb : ∀ {α : Type} {E : En α} {q : Option Addr} {l c : Nat} {xs : List α}, SE E w2 W.heap.size 3 q l c xs → ∀ g, qB q = some g → ¬ g = bp := fun S g hg e => by
    obtain ⟨cs', B'⟩ := S.blk hg
    rw [e] at B'
    exact absurd (B'.type P2).1 (by decide)
  have S4 := h1.s4.chg k2 fun g hg e => h1.ne g e.symm hg
  refine ⟨(h1.chg.trans' k2 fun g hg => .inr (h1.s1.lt hg.symm).2).trans' k3 fun g hg => .inl hg, P3, S2.chg k3 (nb S2), S4.chg k3 (nb S4), fun g hg e => ?_⟩
  rcases hq with hq | hq
  · rw [hq] at hg; exact h1.ne g hg e
  · rw [hq] at hg
    cases hg
    have := (h1.s4.lt e).1
    omega
end
theorem pmay_kind {acts : List (List Act)} {picks : List Int} (h : pmayF acts picks = 0) : acts.length ≤ 16 ∧ sumL acts ≤ 4096 ∧ picks.length ≤ 65536 ∧ (∀ p ∈ picks, 0 ≤ p ∧ p ≤ 2147483647) ∧ ∀ ys ∈ acts, ∀ x ∈ ys, 1 ≤ x.1 ∧ x.1 ≤ 11 := by
  unfold pmayF at h
  split at h
  · cases h
  · rename_i h1
    split at h
    · cases h
    · rename_i h2
      split at h
      · cases h
      · rename_i h3
        refine ⟨by omega, by omega, by omega, fun p hp => ?_, fun ys hy x hx => ?_⟩
        · have h4 : badP p = false := by
            cases hb : badP p with
            | false => rfl
            | true => exact absurd (List.any_eq_true.2 ⟨p, hp, hb⟩) h2
          simp only [badP, Bool.or_eq_false_iff, decide_eq_false_iff_not] at h4
          omega
        · have h4 : badA x = false := by
            cases hb : badA x with
            | false => rfl
            | true => exact absurd (List.any_eq_true.2 ⟨ys, hy, List.any_eq_true.2 ⟨x, hx, hb⟩⟩) h3
          simp only [badA, Bool.not_eq_false', Bool.and_eq_true, decide_eq_true_eq] at h4
          exact h4
end Full
end Go.Proofs.Ytibpbbjlecohiaa
set_option maxRecDepth 20000
namespace Go.Proofs.Ytibpbbjlecohiaa
namespace Full
open Go Go.Vc Go.RowKit
theorem le_sum {l : List Nat} {x : Nat} (h : x ∈ l) : x ≤ l.sum := by
  induction l with
  | nil => cases h
  | cons a l ih =>
    simp only [List.sum_cons]
    rcases List.mem_cons.1 h with rfl | h
    · omega
    · have := ih h; omega
theorem play23 {w : World} (a b c d : Int) {z : Hd} {acts : List (List Act)} (hA : ActsR w z acts) (hb : ∀ ys ∈ acts, ys.length ≤ 10000000000000) (hz : z.2.1 ≤ 1000000000000000) {q : Option Addr} {l cp : Nat} {picks : List Int} (hp : RE En.int w q l picks) (hl : l ≤ 1000000000000000) :
    Calls Try.prog 23 #[.agg #[.int .i64 a, .int .i64 b, .int .i64 c, .int .i64 d], .slice z.1 z.2.1 z.2.2, .slice q l cp] w (Ret fun v w' => PlR w.heap.size w' (playT a b c d acts picks) v ∧ Chg none_ w w') := by
  refine f23.calls _ _ _ _ _ _ _ _ _ _ ?_
  unfold f23.wp
  refine newBox fun w1 B1 k1 s1 => newBox fun w2 B2 k2 s2 => ?_
  have k02 := k1.trans k2
  have A2 := k2.blk B1 (fun x => x)
  refine ⟨_, _, _, _, A2.reads0, Calls.use (new17 w2 a b c d) ?_⟩
  have ret0 : ∀ {w' : World} (e : Int), playT a b c d acts picks = ⟨[], [], [], [], e⟩ → Chg none_ w2 w' → canStore w' (⟨w1.heap.size, 0, none⟩ : Addr) 4 ∧ ∀ w4, w4 = setCells (⟨w1.heap.size, 0, none⟩ : Addr) 0 [.slice none 0 0, .slice none 0 0, .slice none 0 0, .slice none 0 0] w' →
      ∃ (q1 : Option Addr) (l1 c1 : Nat), ∃ (q2 : Option Addr) (l2 c2 : Nat), ∃ (q3 : Option Addr) (l3 c3 : Nat), ∃ (q4 : Option Addr) (l4 c4 : Nat), reads w4 (⟨w1.heap.size, 0, none⟩ : Addr) [.slice q1 l1 c1, .slice q2 l2 c2, .slice q3 l3 c3, .slice q4 l4 c4] ∧
        (PlR w.heap.size w4 (playT a b c d acts picks) (.tuple #[.agg #[.slice q1 l1 c1, .slice q2 l2 c2, .slice q3 l3 c3, .slice q4 l4 c4], .int .i64 e]) ∧ Chg none_ w w4) := fun e hp' k =>
    (k.blk B2 fun x => x).store rfl rfl fun w4 B4 k4 _ => ⟨_, _, _, _, _, _, _, _, _, _, _, _, B4.reads0, by rw [hp']; exact ⟨_, _, _, _, _, _, _, _, _, _, _, _, rfl, RE.nil _ _ _, RE.nil _ _ _, RE.nil _ _ _, RE.nil _ _ _, Nat.zero_le _, Nat.zero_le _, Nat.zero_le _, Nat.zero_le _, fun b hb => by rcases hb with h | h | h | h <;> cases h⟩, (k02.trans k).up k4 fun x hx => by rw [hx]; omega⟩
  rintro _ w3 (⟨hno, rfl, k3⟩ | ⟨hok, o, g, rfl, I3, k3⟩)
  · exact ⟨_, _, rfl, bcT (by decide) (ret0 1 (by rw [playT, if_pos hno]) k3)⟩
  refine ⟨_, _, rfl, bcF (by decide) ?_⟩
  have k03 := k02.trans k3
  refine Calls.use (may56 (hA.chg k03) hb hz (hp.chg k03) hl) ?_
  rintro _ w5 ⟨rfl, k5⟩
  refine ⟨_, rfl, bc (fun hne => ?_) fun heq => ?_⟩
  · have hne : pmayF acts picks ≠ 0 := by simpa using hne
    exact ret0 _ (by rw [playT, if_neg (fun h => h hok), if_pos hne]) (k3.trans k5)
  have heq : pmayF acts picks = 0 := by simpa using heq
  obtain ⟨h16, h4096, _, hpk, hkind⟩ := pmay_kind heq
  have hT : playT a b c d acts picks = ⟨doneL (playR (new8 a.toNat b.toNat c.toNat d.toNat) acts picks).s.wt (playR (new8 a.toNat b.toNat c.toNat d.toNat) acts picks).ats acts.length, (playR (new8 a.toNat b.toNat c.toNat d.toNat) acts picks).ord, (playR (new8 a.toNat b.toNat c.toNat d.toNat) acts picks).s.ns, deadL (playR (new8 a.toNat b.toNat c.toNat d.toNat) acts picks).s.wt acts.length, 0⟩ := by
    rw [playT, if_neg (fun h => h hok), if_neg (fun h => h heq)]
  rw [hT] at ret0 ⊢
  generalize new8 a.toNat b.toNat c.toNat d.toNat = s0 at I3 hT ⊢
  clear ret0
  have hA2 := hA.chg k02
  have hp2 := hp.chg k02
  have hzl := hA.len
  have k25 := k3.trans k5
  have I5 := I3.chgN k5
  refine newBox fun w7 B7 k7 s7 => ?_
  have I7 := I5.chgN k7
  have hbp : w2.heap.size ≤ w5.heap.size := k25.size
  have P7 : PI w2 w7 w2.heap.size 0 0 o w5.heap.size g s0 z (none, 0, 0) [] [] [] :=
    ⟨k25.trans k7, I7, Nat.le_refl _, hbp, fun ho => by have := (I5.own_lt ho).1; omega, ⟨none, 0, 0, B7, SE.nil _ _ _ _, fun x hx => (by cases hx)⟩, SE.nil _ _ _ _, (fun x hx => by cases hx), rfl, (fun i b a hb _ => by simp at hb), (fun i j b hi _ => by simp at hi)⟩
  generalize w5.heap.size = bp at P7 B7 hbp ⊢
  refine ⟨fun q9 l9 c9 x1 w' => ∃ (j : Nat) (bs : List Nat), x1 = (j : Int) ∧ j ≤ z.2.1 ∧ l9 = j ∧ bs.length = j ∧ PI w2 w' w2.heap.size 0 0 o bp g s0 z (q9, l9, c9) bs (List.replicate j 0) [], fun _ _ _ x1 _ => z.2.1 - x1.toNat, ⟨0, [], rfl, Nat.zero_le _, rfl, rfl, P7⟩, ?_⟩
  rintro q9 l9 c9 _ w8 ⟨j, bs, rfl, hj, hlj, hbl, P8⟩
  subst hlj
  refine bc (fun hlt => ?_) fun hge => ?_
  · have hj' : l9 < z.2.1 := by simpa using hlt
    intro w9 e9 w10 e10
    rw [← hbl] at e9
    obtain ⟨q', c', w11, hrun, P11⟩ := P8.more e9 (by omega) e10
    rw [wrapS (x := (l9 : Int) + 1) (by omega) (by omega)]
    refine ⟨q', l9 + 1, c', w11, hrun, ⟨l9 + 1, bs ++ [w8.heap.size], by omega, hj', rfl, by simp [hbl], ?_⟩, meas hj'⟩
    rw [List.replicate_succ']
    exact P11
  have hjn : l9 = acts.length := by have := of_decide_eq_false hge; omega
  subst hjn
  clear P7 B7 I7 I5 I3 k5 k7 s7 hge hj
  generalize hPR : playR s0 acts picks = PR
  clear hT
  refine ⟨fun x2 w' => ∃ (i f : Nat) (p : PS) (g : G8), x2 = (i : Int) ∧ PI w2 w' w2.heap.size (2 * i) i o bp g p.s z (q9, acts.length, c9) bs p.ats p.ord ∧ p.Ok acts ∧ p.ats.sum = i ∧ p.ord.length = i ∧ sumL acts ≤ i + f ∧ playN acts picks f i p = PR,
    fun x2 _ => sumL acts - x2.toNat, ⟨0, sumL acts, startP s0 acts.length, g, rfl, P8, start_ok s0 acts, by simp [startP], rfl, by omega, hPR⟩, ?_⟩
  rintro _ w12 ⟨i, f, p, g, rfl, P12, ok, hsum, hord, hf, hplay⟩
  have h57 := ready57 P12 hA2 (by omega) (by omega)
  refine Calls.use h57 ?_
  rintro _ w13 ⟨q11, l11, c11, rfl, R13, k13⟩
  have P13 := P12.chgN k13
  have hr : readyN p.s.wt acts p.ats acts.length = p.ready acts := rfl
  rw [hr] at R13
  have hrl := R13.len
  have hrl' : (p.ready acts).length = l11 := by rw [← hrl]; simp [toI]
  refine ⟨_, _, _, rfl, bc (fun h0 => ?_) fun h0 => ?_⟩
  · have h0 : l11 = 0 := by have : ((l11 : Nat) : Int) = 0 := eq_of_beq h0; omega
    have hnil : p.ready acts = [] := List.eq_nil_of_length_eq_zero (by omega)
    rw [playN_end hnil] at hplay
    subst hplay
    obtain ⟨qo, lo, co, Pb, So, no⟩ := P13.pl
    refine onPtr_mk ⟨_, _, _, (P13.lat.obj.cell0 3).trans rfl, Pb.canStore0 (o := 3) (n := 1) (by show 3 + 1 ≤ 6; decide), fun w14 e14 => ?_⟩
    obtain ⟨P14, k14⟩ := Pb.put (i := 3) e14
    have F14 : FinI w13 w14 bp o z (qo, lo, co) (g.q4, p.s.ns.length, g.c4) (doneL p.s.wt p.ats 0) (deadL p.s.wt 0) none 0 0 none 0 0 := ⟨k14, P14, SE.nil _ _ _ _, SE.nil _ _ _ _, fun x hx => by cases hx⟩
    refine ⟨fun x3 w' => ∃ (j : Nat) (q1 : Option Addr) (l1 c1 : Nat) (q4 : Option Addr) (l4 c4 : Nat), x3 = (j : Int) ∧ j ≤ acts.length ∧ FinI w13 w' bp o z (qo, lo, co) (g.q4, p.s.ns.length, g.c4) (doneL p.s.wt p.ats j) (deadL p.s.wt j) q1 l1 c1 q4 l4 c4, fun x3 _ => acts.length - x3.toNat,
      ⟨0, none, 0, 0, none, 0, 0, rfl, Nat.zero_le _, F14⟩, ?_⟩
    rintro _ w15 ⟨j, q1, l1, c1, q4, l4, c4, rfl, hj, F⟩
    have tys : ∀ {α : Type} {E : En α} {ty : TypeId} {q : Option Addr} {l c : Nat} {xs : List α}, 116 ≠ ty → SE E w13 w2.heap.size ty q l c xs → SE E w15 w2.heap.size ty q l c xs := fun hty S => S.chg F.chg fun x hx hs => by
      obtain ⟨cs', B'⟩ := S.blk hx
      rw [hs] at B'
      exact hty (B'.type Pb).1.symm
    refine bc (fun hlt => ?_) fun hge => ?_
    · have hj' : j < acts.length := by simpa using hlt
      obtain ⟨a2, b, hq9, hbj, hr⟩ := (tys (by decide) P13.ts).re.ex hj'
      obtain ⟨ta, hta⟩ := get_ex (l := p.ats) (i := j) (by rw [ok.len]; exact hj')
      obtain ⟨X, _, _⟩ := P13.pr j b ta hbj hta
      have X15 := F.chg.blk X fun e => by rw [e] at X; exact absurd (X.type Pb).1 (by decide)
      have I15 := P13.lat.chg F.chg fun x hx => by rw [hx]; exact P13.bpn
      have hta' : ta ≤ 4096 := by
        obtain ⟨ys, hy⟩ := get_ex hj'
        have h1 := ok.le j ta ys hta hy
        have h2 : ys.length ≤ sumL acts := by
          have : ∀ (l : List (List Act)) (y : List Act), y ∈ l → y.length ≤ sumL l := fun l => by
            induction l with
            | nil => intro y hy; cases hy
            | cons a l ih =>
              intro y hy
              simp only [sumL, List.map_cons, List.sum_cons] at ih ⊢
              rcases List.mem_cons.1 hy with rfl | hy
              · omega
              · have := ih y hy; omega
          exact this acts ys (List.mem_of_getElem? hy)
        omega
      have ea : p.ats.getD j 0 = ta := by rw [List.getD_eq_getElem?_getD, hta]; rfl
      have hlook := I15.wts.look key3 Try.underlying87 zeroW3 (x := (j : Int)) (ok64_task (by omega) (by omega))
      rw [wrapS (x := (j : Int) + 1) (by omega) (by omega)]
      refine onPtr_q hq9 ⟨by omega, by omega, _, reads_one' hr, onPtr_mk ⟨_, (X15.cell0 2).trans rfl, fun x4 w16 => x4 = doneN p.s.wt p.ats j ∧ ∃ (q4' : Option Addr) (l4' c4' : Nat), FinI w13 w16 bp o z (qo, lo, co) (g.q4, p.s.ns.length, g.c4) (doneL p.s.wt p.ats j) (deadL p.s.wt (j + 1)) q1 l1 c1 q4' l4' c4', ?_, ?_⟩⟩
      · rintro x4 w16 ⟨rfl, q4', l4', c4', F16⟩
        refine ⟨_, _, _, (F16.pl.cell0 1).trans rfl, fun w23 e23 => ?_⟩
        have hdl := F16.s1.len
        obtain ⟨q5, c5, w24, hrun, hcan, hfin⟩ := F16.done e23 (by rw [← hdl]; simp only [doneL, List.length_map, List.length_range]; omega)
        refine ⟨q5, l1 + 1, c5, w24, hrun, hcan, fun w25 e25 => ⟨⟨j + 1, q5, l1 + 1, c5, q4', l4', c4', by omega, hj', ?_⟩, meas hj'⟩⟩
        rw [doneL_succ]
        exact hfin w25 e25
      · refine onPtr_mk ⟨_, (I15.obj.cell0 4).trans rfl, _, _, _, _, w15, hlook, boxed rfl rfl fun w19 B19 k19 _ => bc (fun hs => ?_) fun hs => ?_⟩
        · have F19 := F.chgN k19
          have hdl := F19.s4.len
          have hdd := deadL_len p.s.wt j
          refine ⟨_, _, _, (F19.pl.cell 4).trans rfl, fun w20 e20 => ?_⟩
          obtain ⟨q5, c5, w21, hrun, hcan, hfin⟩ := F19.dead e20 (by omega)
          refine ⟨q5, l4 + 1, c5, w21, hrun, hcan, fun w22 e22 => ⟨?_, q5, l4 + 1, c5, ?_⟩⟩
          · rw [wrapS (by omega) (by omega), doneN, if_pos hs, ea]
          · rw [deadL_succ, if_pos hs]
            exact hfin w22 e22
        · refine ⟨?_, q4, l4, c4, ?_⟩
          · rw [doneN, if_neg (by rw [hs]; decide), ea]
          · rw [deadL_succ, if_neg (by rw [hs]; decide)]
            exact F.chgN k19
    have hjn : j = acts.length := by have := of_decide_eq_false hge; omega
    subst hjn
    have k215 : Chg none_ w2 w15 := P13.chg.up F.chg fun x hx => by rw [hx]; exact hbp
    have hr15 : reads w15 ((⟨bp, 0, none⟩ : Addr).add 1) [.slice q1 l1 c1, .slice qo lo co, .slice g.q4 p.s.ns.length g.c4, .slice q4 l4 c4] := by
      rw [add_mk]
      exact F.pl.reads fun i v hv => by rcases i with _ | _ | _ | _ | i; exact hv; exact hv; exact hv; exact hv; simp at hv
    refine ⟨_, _, _, _, _, _, _, _, _, _, _, _, hr15, (k215.blk B2 fun x => x).store rfl rfl fun w26 B26 k26 _ => ⟨_, _, _, _, _, _, _, _, _, _, _, _, B26.reads0, ?_, (k02.trans k215).up k26 fun x hx => by rw [hx]; omega⟩⟩
    have hw12 : w1.heap.size < w2.heap.size := by omega
    have hw13 : w2.heap.size ≤ w13.heap.size := P13.chg.size
    have finS : ∀ {α : Type} {E : En α} {bb : Nat} {ty : TypeId} {q : Option Addr} {l c : Nat} {xs : List α}, w2.heap.size ≤ bb → SE E w15 bb ty q l c xs → SE E w26 bb ty q l c xs := fun hbb S => S.chg k26 fun x hx hs => by
      have h1 := (S.lt hx).2
      have h2 : x = w1.heap.size := hs
      omega
    have fin : ∀ {α : Type} {E : En α} {bb : Nat} {ty : TypeId} {q : Option Addr} {l c : Nat} {xs : List α}, w2.heap.size ≤ bb → SE E w15 bb ty q l c xs → RE E w26 q l xs := fun hbb S => (finS hbb S).re
    have hw02 : w.heap.size ≤ w2.heap.size := k02.size
    refine ⟨_, _, _, _, _, _, _, _, _, _, _, _, rfl, fin hw13 F.s1, fin (Nat.le_refl _) (tys (by decide) So), fin (Nat.le_refl _) (tys (by decide) P13.lat.ct), fin hw13 F.s4, SE.lmax F.s1, SE.lmax So, SE.lmax P13.lat.ct, SE.lmax F.s4, fun x hx => ?_⟩
    rcases hx with hx | hx | hx | hx
    · have := (finS hw13 F.s1).lt hx; omega
    · have := (finS (Nat.le_refl _) (tys (by decide) So)).lt hx; omega
    · have := (finS (Nat.le_refl _) (tys (by decide) P13.lat.ct)).lt hx; omega
    · have := (finS hw13 F.s4).lt hx; omega
  have h0 : l11 ≠ 0 := by have : ¬ ((l11 : Nat) : Int) = 0 := ne_of_beq_false h0; omega
  have hnil : p.ready acts ≠ [] := fun e => by rw [e] at hrl'; exact h0 hrl'.symm
  obtain ⟨hi0, hi1⟩ : i < sumL acts ∧ True := by
    obtain ⟨t, ht⟩ := List.exists_mem_of_ne_nil _ hnil
    exact ⟨by have := (ok.sum ht).1; omega, trivial⟩
  obtain ⟨f, rfl⟩ : ∃ f', f = f' + 1 := ⟨f - 1, by omega⟩
  rw [playN, if_neg hnil] at hplay
  have hpick : 0 ≤ pickF picks i := by
    unfold pickF
    rw [List.getD_eq_getElem?_getD]
    cases hx : picks[i]? with
    | none => exact Int.le_refl _
    | some x => exact (hpk x (List.mem_of_getElem? hx)).1
  obtain ⟨hm, ht1, ht2, ht3⟩ := runs_mem hnil hpick
  have hsumt := ok.sum hm
  have okt := ok.step hm
  obtain ⟨a', ys, x, hat, hy, hlt, hx, hwt, ea, ex⟩ := ok.mem hm
  generalize htt : runsF (p.ready acts) (pickF picks i) = t at *
  rw [hrl'] at ht1 ht2 ht3
  obtain ⟨bt, hbt⟩ := get_ex (l := bs) (i := t) (by rw [P13.len]; exact get_lt hat)
  refine ⟨fun x5 w' => x5 = pickF picks i ∧ w' = w13, ?_, ?_⟩
  rotate_left
  · refine bc (fun hlt => ?_) fun hge => ⟨?_, rfl⟩
    · have hlt : i < l := by simpa using hlt
      obtain ⟨ap, xp, hq, hxp, hrp⟩ := (hp2.chg P13.chg).ex hlt
      refine onPtr_q hq ⟨by omega, by omega, _, reads_one' hrp, ?_, rfl⟩
      rw [pickF, List.getD_eq_getElem?_getD, hxp]; rfl
    · have hge : l ≤ i := by have := of_decide_eq_false hge; omega
      rw [pickF, List.getD_eq_getElem?_getD, List.getElem?_eq_none (by rw [hp.len]; exact hge)]; rfl
  rintro _ w27 ⟨rfl, rfl⟩
  obtain ⟨aq, xq, hq11, hxq, hrq⟩ := R13.ex (i := ((pickF picks i).tmod (l11 : Int)).toNat) (by omega)
  have exq : xq = (t : Int) := by rw [toI_get ht3] at hxq; exact (Option.some.inj hxq).symm
  subst exq
  have hc11 := reads_one' hrq
  have htl : t < acts.length := get_lt hy
  obtain ⟨a7, b7, hq9, hb7, hr7⟩ := P13.ts.re.ex (i := t) htl
  have kdd : Chg none_ w27 w27.drew := (Chg.refl none_ w27).drew
  have hk' := hkind ys (List.mem_of_getElem? hy) x (List.mem_of_getElem? hx)
  have h155 := step155 (P13.chgN kdd) hA2 (by omega) (by omega) (by omega) hb7 hat hy (k := x.1) (n := x.2.1) (m := x.2.2) hx hk' (by
    have h1 : a' < ys.length := hlt
    have h2 := ok.le t a' ys hat hy
    have h3 : p.ats.sum ≤ 4096 := by omega
    have h4 : a' ≤ p.ats.sum := le_sum (List.mem_of_getElem? hat)
    omega)
  refine ⟨by omega, onPtr_q hq11 ⟨ht2, by omega, _, hc11, onPtr_q hq9 ⟨by omega, by omega, _, reads_one' hr7, fun _ => True, by omega, onPtr_q hq11 ⟨ht2, by omega, _, trivial, hc11, stepAhead _ _, fun _ _ => rfl, fun _ _ => rfl, 155, _, stepMethod _ _, rfl, Calls.use h155 ?_⟩⟩⟩⟩
  rintro _ w28 ⟨dn, wt, qq, lq, cq, rfl, g', P28⟩
  have hst : p.step acts t = ⟨(doesF p.s (t : Int) x.1 x.2.1 x.2.2).2, p.ats.set t (a' + 1), p.ord ++ [⟨(t : Int), (a' : Int), actW x.1 (doesF p.s (t : Int) x.1 x.2.1 x.2.2).1, (doesF p.s (t : Int) x.1 x.2.1 x.2.2).1.err⟩]⟩ := by
    simp only [PS.step, ea, ex]
  rw [wrapS (x := (i : Int) + 1) (by omega) (by omega)]
  refine ⟨_, _, _, _, _, rfl, ⟨i + 1, f, p.step acts t, g', by omega, ?_, okt, by omega, by omega, by omega, hplay⟩, meas hi0⟩
  rw [hst]
  exact P28
end Full
end Go.Proofs.Ytibpbbjlecohiaa
