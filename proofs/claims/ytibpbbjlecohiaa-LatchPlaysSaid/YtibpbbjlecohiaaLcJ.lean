import Derived.Test.YtibpbbjlecohiaaLcF
import Derived.Test.YtibpbbjlecohiaaLbP
set_option maxRecDepth 20000
namespace Go.Proofs.Ytibpbbjlecohiaa
namespace Full
open Go Go.Vc Go.RowKit
/-! # the document's conditions, and counters -/
section
variable {w w' : World} {base Q o : Nat} {g : GR} {r : R8}
theorem StpR.nown {o : Nat} {w w' : World} {g g' : GR} (h : StpR o w g w' g') {b : Nat} (hb : b < w.heap.size) (hn : ¬ OwnR g o b) : ¬ OwnR g' o b := fun ho => by
  rcases h.grow b ho with h1 | h1
  · exact hn h1
  · omega
/-- what is of another type stays -/
theorem StpR.keepI {w w' : World} {g g' : GR} (st : StpR o w g w' g') (h : InvR w base Q o g r) {b0 : Nat} {q : Option Addr} {l c : Nat} {xs : List Int} (A : SE En.int w b0 3 q l c xs) : SE En.int w' b0 3 q l c xs :=
  A.chg st.chg fun x hx ho => by
    obtain ⟨cs, B⟩ := A.blk hx
    exact h.not_own B (by decide) ho
theorem rLet102 (h : InvR w base Q o g r) (hQ : Q ≤ 4398046511104) {i : Nat} (hi : i < r.C) {s : W3} {q : List W3} (hrow : r.row (2 * (r.M + r.L) + i) = s :: q) (hm : 0 ≤ s.2.2 ∧ s.2.2 < r.M) :
    Calls Try.prog 102 #[.pointer (some (ad o)), .int .i64 (i : Int)] w (Ret fun v w' => ∃ q l c, v = .slice q l c ∧ WokeR w w' base Q o g q l c (letR r i).1 (letR r i).2) := by
  obtain ⟨a, ha, hp⟩ := h.cat hi
  obtain ⟨hd, xs, hhd, hxs, S, c0, n0⟩ := h.row_at hp
  have hr0 := hrow
  rw [R8.row_of hxs] at hrow
  subst hrow
  have lS := S.len
  have lQ := h.len hxs
  have hpos : 0 < hd.2.1 := by rw [← lS]; simp
  have et : letR r i = (if (takeR (r.put (2 * (r.M + r.L) + i) q) s.2.2.toNat (s.1, 1, 0)).1 then [s.1] else [], (takeR (r.put (2 * (r.M + r.L) + i) q) s.2.2.toNat (s.1, 1, 0)).2) := by unfold letR; rw [hr0]
  rw [et]
  obtain ⟨pa, s', hpa, hs', hrs⟩ := S.re.ex (i := 0) hpos
  cases hs'
  obtain ⟨_, _, mC⟩ := small h
  simp only [maxLen] at mC
  refine f102.calls _ _ ?_
  unfold f102.wp
  refine onPtr_mk ⟨_, _, _, (h.obj.cell0 3).trans rfl, ?_⟩
  rw [ha]
  refine onPtr_mk ⟨by omega, by omega, _, _, _, (by rw [Nat.mul_one]; exact c0), ?_⟩
  rw [hpa]
  refine onPtr_mk ⟨by decide, by omega, _, _, _, hrs, boxed rfl rfl fun w2 B2 k2 z2 => ?_⟩
  have z2 : w2.heap.size = w.heap.size + 1 := z2
  have k2 := k2.drew
  have B2 := B2.drew
  have zW : w2.drew.heap.size = w.heap.size + 1 := z2
  generalize w2.drew = W at *
  have hW := h.chgN k2
  obtain ⟨hd', xs', hhd', hxs', S2, c2, n2⟩ := hW.row_at hp
  rw [hhd] at hhd'; cases hhd'
  rw [hxs] at hxs'; cases hxs'
  have hO : ∀ n : Nat, (fun x : Addr => x.block < W.heap.size) ((⟨o, 0, none⟩ : Addr).add n) := fun n => by
    show (Addr.add _ _).block < _
    rw [add_block]; exact hW.obj.lt
  refine ⟨fun x => x.block < W.heap.size, onPtr_mk ⟨_, _, _, hO 3, (hW.obj.cell0 3).trans rfl, onPtr_mk ⟨_, _, _, hO 3, (hW.obj.cell0 3).trans rfl, ?_⟩⟩⟩
  rw [ha]
  refine onPtr_mk ⟨by omega, by omega, hd.1, hd.2.1, hd.2.2, (by rw [Nat.mul_one]; exact cell_some c2), (by rw [Nat.mul_one]; exact c2), by decide, by omega, newBox fun w3 B3 k3 z3 => ?_⟩
  have S3 : SE En.w3 w3 W.heap.size 158 (some ⟨W.heap.size, 0, none⟩) 0 0 [] := SE.lit B3 (Nat.le_refl _) (fun n v hv => by simp [En.flat] at hv) rfl (Nat.le_refl _) (by decide) (by simp)
  have hcut := (S2.re.chg k3).cut (n := 1) (c := hd.2.2) (by omega) S2.le
  obtain ⟨q6, c6, w4, hrun, S4, k4, _, _, _, _⟩ := S3.append (t := 153) (ty := 153) (c2 := hd.2.2 - 1) elemSt hcut (by simp only [maxLen]; omega) (by show (0 + (hd.2.1 - 1)) * 24 ≤ _; omega) (by have := k3.size; omega)
  have k34 : Chg none_ W w4 := k3.up k4 fun x hx => by simp [qB] at hx; omega
  have S4' : SE En.w3 w4 W.heap.size 158 q6 (0 + (hd.2.1 - 1)) c6 q := by simpa using S4
  have bW : base ≤ W.heap.size := Nat.le_trans hW.bo (Nat.le_of_lt hW.obj.lt)
  refine ⟨k3.keeps, q6, 0 + (hd.2.1 - 1), c6, w4, hrun, k34.keeps, onPtr_mk ⟨by omega, by omega, ?_⟩⟩
  rw [Nat.mul_one]
  have lq : q.length + 1 ≤ Q := by simpa using lQ
  refine hW.put (Q' := Q - 1) hp hhd hxs (k34.of_none _) (h1 := ⟨q6, 0 + (hd.2.1 - 1), c6⟩) (S4'.lower bW) (.inr fun x hx => (S4'.lt hx).2) (by simp; omega) fun w5 I5 st5 c5 => ?_
  have nown5 := st5.nown (b := w.heap.size) (by omega) (fun ho => by have := (h.own_lt ho).1; omega)
  have hpb := cell_some c0
  have B5 := (c5.blk (k34.blk B2 (fun x => x)) (fun e => by omega)).drew
  have I5 := I5.chgN (Chg.refl none_ w5).drew
  have st5 := (StpR.ofN k2).trans (st5.trans (StpR.ofN (Chg.refl none_ w5).drew))
  generalize w5.drew = V at *
  obtain ⟨em, hm⟩ : s.2.2 = (s.2.2.toNat : Int) ∧ s.2.2.toNat < (r.put (2 * (r.M + r.L) + i) q).M := ⟨by omega, by show _ < r.M; omega⟩
  obtain ⟨am, hqm, hpm⟩ := I5.mat hm
  have hm' : s.2.2.toNat < r.M := hm
  refine onPtr_mk ⟨_, _, _, (I5.obj.cell0 1).trans rfl, s.2.2, (B5.cell0 2).trans rfl, ?_⟩
  rw [hqm]
  refine onPtr_mk ⟨by omega, by show s.2.2 < ((r.M : Nat) : Int); omega, s.1, (B5.cell 0).trans rfl, Calls.use (take97 I5 (by omega) hpm (s.1, 1, 0)) ?_⟩
  rintro _ w6 ⟨rfl, g6, I6, st6⟩
  have st := st5.trans st6
  have eQ : Q - 1 + 1 = Q := by omega
  rw [eQ] at I6
  refine ⟨_, rfl, bc (fun hb => ?_) fun hb => ?_⟩
  · have B6 := st6.chg.blk B5 nown5
    rw [if_pos hb]
    refine ⟨_, (B6.cell 0).trans rfl, newBox fun w7 B7 k7 z7 => ⟨_, _, _, rfl, ?_, g6, I6.chgN k7, st.trans (StpR.ofN k7)⟩⟩
    exact SE.lit B7 (st.chg.size) (fun n v hv => by
      rcases n with _ | n
      · exact hv
      · simp [En.flat, En.int] at hv) rfl (Nat.le_refl _) (by decide) (by show 1 * 1 ≤ 1; decide)
  · rw [if_neg (by rw [hb]; simp)]
    exact ⟨_, _, _, rfl, SE.nil _ _ _ _, g6, I6, st⟩
/-- the mutexes of those that wait for conditions are some -/
def CondM (r : R8) : Prop := ∀ i s, s ∈ r.row (2 * (r.M + r.L) + i) → 0 ≤ s.2.2 ∧ s.2.2 < r.M
theorem rSignal72 (h : InvR w base Q o g r) (hQ : Q ≤ 4398046511104) (hm : CondM r) (t n : Int) :
    Calls Try.prog 72 #[.pointer (some (ad o)), .int .i64 t, .int .i64 n] w (Ret fun v w' => ∃ q l c, v = .tuple #[.slice q l c, .int .i64 (sigR r t n).2.1] ∧ WokeR w w' base Q o g q l c (sigR r t n).1 (sigR r t n).2.2) := by
  refine f72.calls _ _ _ ?_
  unfold f72.wp
  obtain ⟨_, _, mC⟩ := small h
  simp only [maxLen] at mC
  refine ⟨fun w1 => Chg none_ w w1 ∧ askedR r t (inR n r.C) = 0, ?_, ?_⟩
  · rintro w1 ⟨k1, heq⟩
    obtain ⟨en, hn⟩ := asked_in heq
    have h1 := h.chgN k1
    obtain ⟨a, ha, hp⟩ := h1.cat hn
    obtain ⟨hd, xs, hhd, hxs, S, c0, n0⟩ := h1.row_at hp
    have lS := S.len
    rw [sigR, if_neg (by simp [heq])]
    refine onPtr_mk ⟨_, _, _, (h1.obj.cell0 3).trans rfl, ?_⟩
    rw [ha]
    refine onPtr_mk ⟨by omega, by omega, _, _, _, (by rw [Nat.mul_one]; exact c0), bc (fun hz => ?_) fun hz => ?_⟩
    · have : xs = [] := List.eq_nil_of_length_eq_zero (by have := eq_of_beq hz; omega)
      have hl : letR r n.toNat = ([], r) := by unfold letR; rw [R8.row_of hxs, this]
      rw [hl]
      exact ⟨_, _, _, rfl, SE.nil _ _ _ _, g, h1, StpR.ofN k1⟩
    · obtain ⟨s, q, rfl⟩ : ∃ s q, xs = s :: q := by
        cases xs with
        | nil => have : hd.2.1 = 0 := lS.symm; rw [this] at hz; simp at hz
        | cons s q => exact ⟨s, q, rfl⟩
      have hc := rLet102 h1 hQ hn (R8.row_of hxs) (hm n.toNat s (by rw [R8.row_of hxs]; simp))
      rw [← en] at hc
      refine Calls.use hc ?_
      rintro _ w4 ⟨q, l, c, rfl, A4, g4, I4, st4⟩
      exact ⟨_, _, _, rfl, _, _, _, rfl, A4.lower k1.size, g4, I4, (StpR.ofN k1).trans st4⟩
  · have fin : ∀ {b : Bool} {w1 : World}, b = inR n r.C → Chg none_ w w1 → bcase ((askedR r t b : Int) != 0) (∃ q l c, Value.tuple #[.slice none 0 0, .int .i64 (askedR r t b)] = .tuple #[.slice q l c, .int .i64 (sigR r t n).2.1] ∧ WokeR w w1 base Q o g q l c (sigR r t n).1 (sigR r t n).2.2) (Chg none_ w w1 ∧ askedR r t (inR n r.C) = 0) := fun {b w1} hb k1 => by
      subst hb
      refine bc (fun hne => ?_) fun heq => ⟨k1, by simpa using heq⟩
      rw [sigR, if_pos (by simpa using hne)]
      exact ⟨_, _, _, rfl, SE.nil _ _ _ _, g, h.chgN k1, StpR.ofN k1⟩
    refine bc (fun h1 => onPtr_mk ⟨_, _, _, (h.obj.cell0 3).trans rfl, Calls.use (asked101 h hQ t _) ?_⟩) fun h1 => Calls.use (asked101 h hQ t false) ?_
    · rintro _ w1 ⟨rfl, k1⟩
      exact ⟨_, rfl, fin (inR_pos (of_decide_eq_true h1)).symm k1⟩
    · rintro _ w1 ⟨rfl, k1⟩
      exact ⟨_, rfl, fin (inR_neg (of_decide_eq_false h1)).symm k1⟩
theorem letR_keep (r : R8) (i : Nat) : (letR r i).2.M = r.M ∧ (letR r i).2.L = r.L ∧ (letR r i).2.C = r.C := by
  unfold letR
  split
  · exact ⟨rfl, rfl, rfl⟩
  · unfold takeR
    split <;> exact ⟨rfl, rfl, rfl⟩
theorem letR_row {r : R8} {i : Nat} (hm : CondM r) {s : W3} {q : List W3} (hrow : r.row (2 * (r.M + r.L) + i) = s :: q) : (letR r i).2.row (2 * (r.M + r.L) + i) = q ∧ CondM (letR r i).2 := by
  have hi : 2 * (r.M + r.L) + i < r.rows.length := by
    rcases Nat.lt_or_ge (2 * (r.M + r.L) + i) r.rows.length with h | h
    · exact h
    · rw [R8.row, List.getElem?_eq_none h] at hrow; cases hrow
  have hs := hm i s (by rw [hrow]; simp)
  have key : ∀ j, (letR r i).2.row (2 * (r.M + r.L) + j) = (r.put (2 * (r.M + r.L) + i) q).row (2 * (r.M + r.L) + j) := fun j => by
    unfold letR
    rw [hrow]
    show (takeR _ _ _).2.row _ = _
    unfold takeR
    split
    · exact R8.row_put_ne _ (by omega)
    · exact R8.row_put_ne _ (by omega)
  refine ⟨by rw [key, R8.row_put _ hi], fun j u hu => ?_⟩
  obtain ⟨eM, eL, _⟩ := letR_keep r i
  rw [eM, eL, key] at hu
  rw [eM]
  by_cases e : i = j
  · subst e
    rw [R8.row_put _ hi] at hu
    exact hm i u (by rw [hrow]; exact List.mem_cons_of_mem _ hu)
  · rw [R8.row_put_ne _ (by omega)] at hu
    exact hm j u hu
def lenC (w : World) (p : Addr) : Nat := match w.cell? p with
  | some (.slice _ n _) => n
  | _ => 0
def lenK (w : World) (o n : Nat) : Nat := match w.cell? ((ad o).add 3) with
  | some (.slice (some a) _ _) => lenC w (a.add n)
  | _ => 0
theorem InvR.lenK (h : InvR w base Q o g r) {n : Nat} {a : Addr} (ha : g.q3 = some a) {hd : Hd} (hc : w.cell? (a.add n) = some (.slice hd.1 hd.2.1 hd.2.2)) : Full.lenK w o n = hd.2.1 := by
  have e : w.cell? ((ad o).add 3) = some (.slice g.q3 r.C g.c3) := (h.obj.cell0 3).trans rfl
  unfold Full.lenK
  rw [e, ha]
  show lenC w _ = _
  unfold lenC
  rw [hc]
theorem letNR_len : ∀ (k : Nat) (r : R8) (i : Nat), (letNR k r i).1.length ≤ k
  | 0, _, _ => Nat.le_refl _
  | k + 1, r, i => by
    have := letNR_len k (letR r i).2 i
    have h1 : (letR r i).1.length ≤ 1 := by
      unfold letR
      split
      · simp
      · simp only; split <;> simp
    simp only [letNR, List.length_append]
    omega
theorem rBroadcast73 (h : InvR w base Q o g r) (hQ : Q ≤ 4398046511104) (hm : CondM r) (t n : Int) :
    Calls Try.prog 73 #[.pointer (some (ad o)), .int .i64 t, .int .i64 n] w (Ret fun v w' => ∃ q l c, v = .tuple #[.slice q l c, .int .i64 (broR r t n).2.1] ∧ WokeR w w' base Q o g q l c (broR r t n).1 (broR r t n).2.2) := by
  refine f73.calls _ _ _ ?_
  unfold f73.wp
  obtain ⟨_, _, mC⟩ := small h
  simp only [maxLen] at mC
  refine ⟨fun w1 => Chg none_ w w1 ∧ askedR r t (inR n r.C) = 0, ?_, ?_⟩
  · rintro w1 ⟨k1, heq⟩
    obtain ⟨en, hn⟩ := asked_in heq
    have h1 := h.chgN k1
    rw [broR, if_neg (by simp [heq])]
    refine ⟨fun q2 l2 c2 w4 => ∃ (wk : List Int) (g1 : GR) (r1 : R8), SE En.int w4 w.heap.size 3 q2 l2 c2 wk ∧ InvR w4 base Q o g1 r1 ∧ StpR o w g w4 g1 ∧ r1.M = r.M ∧ r1.L = r.L ∧ r1.C = r.C ∧ CondM r1 ∧
        wk ++ (letNR (r1.row (2 * (r.M + r.L) + n.toNat)).length r1 n.toNat).1 = (letNR (r.row (2 * (r.M + r.L) + n.toNat)).length r n.toNat).1 ∧ (letNR (r1.row (2 * (r.M + r.L) + n.toNat)).length r1 n.toNat).2 = (letNR (r.row (2 * (r.M + r.L) + n.toNat)).length r n.toNat).2, fun _ _ _ w => lenK w o n.toNat,
      ⟨[], g, r, SE.nil _ _ _ _, h1, StpR.ofN k1, rfl, rfl, rfl, hm, rfl, rfl⟩, ?_⟩
    rintro q2 l2 c2 w4 ⟨wk, g1, r1, A4, I4, st4, eM, eL, eC, hm1, e1, e2⟩
    obtain ⟨a, hq3, hp4⟩ := I4.cat (n := n.toNat) (by omega)
    rw [eM, eL] at hp4
    obtain ⟨hd, xs, hhd, hxs, S, c0, n0⟩ := I4.row_at hp4
    have lS := S.len
    have lA := A4.len
    rw [R8.row_of hxs] at e1 e2
    refine onPtr_mk ⟨_, _, _, (I4.obj.cell0 3).trans rfl, ?_⟩
    rw [hq3]
    refine onPtr_mk ⟨by omega, by rw [eC]; omega, _, _, _, (by rw [Nat.mul_one]; exact c0), bc (fun hpos => ?_) fun hz => ?_⟩
    · obtain ⟨s, q, rfl⟩ : ∃ s q, xs = s :: q := by
        cases xs with
        | nil => have : hd.2.1 = 0 := lS.symm; rw [this] at hpos; simp at hpos
        | cons s q => exact ⟨s, q, rfl⟩
      have hrow : r1.row (2 * (r1.M + r1.L) + n.toNat) = s :: q := by rw [eM, eL]; exact R8.row_of hxs
      have hc := rLet102 I4 hQ (i := n.toNat) (by omega) hrow (hm1 n.toNat s (by rw [hrow]; simp))
      rw [← en] at hc
      obtain ⟨hr2, hm2⟩ := letR_row hm1 hrow
      obtain ⟨kM, kL, kC⟩ := letR_keep r1 n.toNat
      refine Calls.use hc ?_
      rintro _ w5 ⟨q5, l5, c5, rfl, A5, g5, I5, st5⟩
      have lA5 := A5.len
      have A45 := st5.keepI I4 A4
      have hN : wk.length + (letR r1 n.toNat).1.length ≤ Q := by
        have e1' := congrArg List.length e1
        have := letNR_len (r.row (2 * (r.M + r.L) + n.toNat)).length r n.toNat
        have := h.rowLen (2 * (r.M + r.L) + n.toNat)
        simp only [List.length_cons, letNR, List.length_append] at e1'
        omega
      obtain ⟨q6, c6, w6, hrun, A6, k6, _, _, _, _⟩ := A45.append (t := 35) (ty := 35) (c2 := c5) elemInt A5.re (by simp only [maxLen]; omega) (by show (l2 + l5) * 8 ≤ _; omega) (by have := st4.chg.size; have := st5.chg.size; omega)
      have I6 := I5.chg k6 fun x hx ho => by
        obtain ⟨cs, B⟩ := A45.blk hx.symm
        exact I5.not_own B (by decide) ho
      refine ⟨q5, l5, c5, rfl, q6, l2 + l5, c6, w6, hrun, ⟨wk ++ (letR r1 n.toNat).1, g5, (letR r1 n.toNat).2, A6, I6, ⟨(st4.trans st5).chg.trans' k6 fun x hx => .inr (A45.lt hx.symm).2, (st4.trans st5).grow⟩, by rw [kM, eM], by rw [kL, eL], by rw [kC, eC], hm2, ?_, ?_⟩, ?_⟩
      · rw [eM, eL] at hr2
        rw [← e1, hr2]
        simp [letNR]
      · rw [eM, eL] at hr2
        rw [← e2, hr2]
        simp [letNR]
      · obtain ⟨a6, hq6, hp6⟩ := I6.cat (n := n.toNat) (by omega)
        rw [kM, kL, eM, eL] at hp6
        obtain ⟨hd6, xs6, hhd6, hxs6, S6, c6', n6⟩ := I6.row_at hp6
        have lS6 := S6.len
        rw [eM, eL, R8.row_of hxs6] at hr2
        subst hr2
        show Full.lenK w6 o n.toNat < Full.lenK w4 o n.toNat
        rw [I6.lenK hq6 c6', I4.lenK hq3 c0]
        simp only [List.length_cons] at lS
        show hd6.2.1 < hd.2.1
        omega
    · have : xs = [] := List.eq_nil_of_length_eq_zero (by have := of_decide_eq_false hz; omega)
      rw [this] at e1 e2
      rw [← e1, ← e2]
      refine ⟨q2, l2, c2, rfl, ?_, g1, I4, st4⟩
      simpa [letNR] using A4
  · have fin : ∀ {b : Bool} {w1 : World}, b = inR n r.C → Chg none_ w w1 → bcase ((askedR r t b : Int) != 0) (∃ q l c, Value.tuple #[.slice none 0 0, .int .i64 (askedR r t b)] = .tuple #[.slice q l c, .int .i64 (broR r t n).2.1] ∧ WokeR w w1 base Q o g q l c (broR r t n).1 (broR r t n).2.2) (Chg none_ w w1 ∧ askedR r t (inR n r.C) = 0) := fun {b w1} hb k1 => by
      subst hb
      refine bc (fun hne => ?_) fun heq => ⟨k1, by simpa using heq⟩
      rw [broR, if_pos (by simpa using hne)]
      exact ⟨_, _, _, rfl, SE.nil _ _ _ _, g, h.chgN k1, StpR.ofN k1⟩
    refine bc (fun h1 => onPtr_mk ⟨_, _, _, (h.obj.cell0 3).trans rfl, Calls.use (asked101 h hQ t _) ?_⟩) fun h1 => Calls.use (asked101 h hQ t false) ?_
    · rintro _ w1 ⟨rfl, k1⟩
      exact ⟨_, rfl, fin (inR_pos (of_decide_eq_true h1)).symm k1⟩
    · rintro _ w1 ⟨rfl, k1⟩
      exact ⟨_, rfl, fin (inR_neg (of_decide_eq_false h1)).symm k1⟩
end
end Full
end Go.Proofs.Ytibpbbjlecohiaa
set_option maxRecDepth 20000
namespace Go.Proofs.Ytibpbbjlecohiaa
namespace Full
open Go Go.Vc Go.RowKit
/-! # the document's Wait, and its counters -/
section
variable {w w' : World} {base Q o : Nat} {g : GR} {r : R8}
theorem giveR_keep (r : R8) (k : Nat) (t : Int) : (giveR r k t).2.M = r.M ∧ (giveR r k t).2.L = r.L ∧ (giveR r k t).2.C = r.C ∧ (giveR r k t).2.ns = r.ns := ⟨rfl, rfl, rfl, rfl⟩
theorem asked_in2 {t n m : Int} {k l : Nat} (h : askedR r t (inR n k && inR m l) = 0) : (n = (n.toNat : Int) ∧ n.toNat < k) ∧ m = (m.toNat : Int) ∧ m.toNat < l := by
  unfold askedR at h
  split at h
  · cases h
  · split at h
    · cases h
    · rename_i hb
      have hb : (inR n k && inR m l) = true := by simpa using hb
      rw [Bool.and_eq_true] at hb
      exact ⟨inR_nat hb.1, inR_nat hb.2⟩
theorem rWait71 (h : InvR w base Q o g r) (hQ : Q ≤ 4398046511104) (t n m : Int) :
    Calls Try.prog 71 #[.pointer (some (ad o)), .int .i64 t, .int .i64 n, .int .i64 m] w (Ret fun v w' => ∃ q l c, v = .tuple #[.slice q l c, .int .i64 (waitR r t n m).2.1] ∧ WokeR w w' base (Q + 1) o g q l c (waitR r t n m).1 (waitR r t n m).2.2) := by
  refine f71.calls _ _ _ _ ?_
  unfold f71.wp
  obtain ⟨mM, _, mC⟩ := small h
  simp only [maxLen] at mC mM
  refine ⟨fun w1 => Chg none_ w w1 ∧ askedR r t (inR n r.C && inR m r.M) = 0, ?_, ?_⟩
  · rintro w1 ⟨k1, heq⟩
    obtain ⟨⟨en, hn⟩, em, hm⟩ := asked_in2 heq
    have h1 := h.chgN k1
    obtain ⟨a, ha, hp⟩ := h1.mat hm
    obtain ⟨hh, hq, hr, Sh, Sq⟩ := h1.thing hp
    have ll := h1.rowLen (2 * m.toNat)
    have lS := Sh.len
    rw [waitR, if_neg (by simp [heq])]
    refine onPtr_mk ⟨_, _, _, (h1.obj.cell0 1).trans rfl, ?_⟩
    rw [ha]
    refine onPtr_mk ⟨by omega, by omega, _, _, _, _, _, _, hr, Calls.use (held80 Sh.re (by omega) t 0) ?_⟩
    rintro _ w2 ⟨rfl, k2⟩
    have h2 := h1.chgN k2
    refine ⟨_, rfl, bc (fun hb => ?_) fun hb => ?_⟩
    · rw [if_pos (by simpa using hb)]
      exact ⟨_, _, _, rfl, SE.nil _ _ _ _, g, h2.up (by omega), StpR.ofN (k1.trans k2)⟩
    rw [if_neg (by simpa using hb)]
    refine onPtr_mk ⟨_, _, _, (h2.obj.cell0 1).trans rfl, ?_⟩
    rw [ha]
    refine onPtr_mk ⟨by omega, by omega, Calls.use (give98 h2 hQ hp t) ?_⟩
    rintro _ w3 ⟨q, l, c, rfl, A3, g3, I3, st3⟩
    have A3 := (A3.lower (b := w.heap.size) (k1.trans k2).size).drew
    have I3 := I3.chgN (Chg.refl none_ w3).drew
    have st3 := (StpR.ofN (k1.trans k2)).trans (st3.trans (StpR.ofN (Chg.refl none_ w3).drew))
    generalize w3.drew = V at *
    obtain ⟨ac, hac, hpc⟩ := I3.cat (n := n.toNat) hn
    obtain ⟨hd, xs, hhd, hxs, S, c0, n0⟩ := I3.row_at hpc
    have oK : ∀ j : Nat, (fun x : Addr => x.block < V.heap.size ∧ ¬ some x.block = qB hd.1) ((⟨o, 0, none⟩ : Addr).add j) := fun j => by
      show (Addr.add _ _).block < _ ∧ ¬ some (Addr.add _ _).block = _
      rw [add_block]; exact ⟨I3.obj.lt, fun e => SE.ne S I3.obj (by decide) _ e.symm rfl⟩
    refine ⟨q, l, c, rfl, fun x => x.block < V.heap.size ∧ ¬ some x.block = qB hd.1, onPtr_mk ⟨_, _, _, oK 3, (I3.obj.cell0 3).trans rfl, onPtr_mk ⟨_, _, _, oK 3, (I3.obj.cell0 3).trans rfl, ?_⟩⟩⟩
    rw [hac]
    have hn' : n < ((r.C : Nat) : Int) := by omega
    refine onPtr_mk ⟨by omega, hn', hd.1, hd.2.1, hd.2.2, (by rw [Nat.mul_one]; exact ⟨cell_some c0, I3.loc_ne hpc S⟩), (by rw [Nat.mul_one]; exact c0), fun w8 e8 => ?_⟩
    have hpush := I3.push (Q' := Q + 1) (s := (t, 7, m)) (t := V.heap.size) hQ hpc hhd hxs (Nat.le_refl _) rfl (C := fun w7 => (∃ q' l' c', Value.tuple #[.slice q l c, .int .i64 0] = .tuple #[.slice q' l' c', .int .i64 0] ∧ WokeR w w7 base (Q + 1) o g q' l' c' (giveR r m.toNat t).1 ((giveR r m.toNat t).2.put (2 * (r.M + r.L) + n.toNat) ((giveR r m.toNat t).2.row (2 * (r.M + r.L) + n.toNat) ++ [(t, 7, m)])))) (fun w7 g7 I7 st7 _ _ => ⟨q, l, c, rfl, st7.keepI I3 A3, g7, by rw [show (giveR r m.toNat t).2.row (2 * (r.M + r.L) + n.toNat) = xs from R8.row_of hxs]; exact I7, st3.trans st7⟩) w8 e8
    obtain ⟨p1, q5, l5, c5, w5, p2, p3, p4, p5⟩ := hpush
    refine ⟨p1, q5, l5, c5, w5, p2, p3, onPtr_mk ⟨by omega, hn', ?_⟩⟩
    rw [Nat.mul_one]
    exact ⟨p4, p5⟩
  · have fin : ∀ {b : Bool} {w1 : World}, b = (inR n r.C && inR m r.M) → Chg none_ w w1 → bcase ((askedR r t b : Int) != 0) (∃ q l c, Value.tuple #[.slice none 0 0, .int .i64 (askedR r t b)] = .tuple #[.slice q l c, .int .i64 (waitR r t n m).2.1] ∧ WokeR w w1 base (Q + 1) o g q l c (waitR r t n m).1 (waitR r t n m).2.2) (Chg none_ w w1 ∧ askedR r t (inR n r.C && inR m r.M) = 0) := fun {b w1} hb k1 => by
      subst hb
      refine bc (fun hne => ?_) fun heq => ⟨k1, by simpa using heq⟩
      rw [waitR, if_pos (by simpa using hne)]
      exact ⟨_, _, _, rfl, SE.nil _ _ _ _, g, (h.chgN k1).up (by omega), StpR.ofN k1⟩
    refine bc (fun h1 => onPtr_mk ⟨_, _, _, (h.obj.cell0 3).trans rfl, bc (fun h2 => bc (fun h3 => onPtr_mk ⟨_, _, _, (h.obj.cell0 1).trans rfl, Calls.use (asked101 h hQ t _) ?_⟩) fun h3 => Calls.use (asked101 h hQ t false) ?_) fun h2 => Calls.use (asked101 h hQ t false) ?_⟩) fun h1 => Calls.use (asked101 h hQ t false) ?_
    · rintro _ w1 ⟨rfl, k1⟩
      exact ⟨_, rfl, fin (by rw [inR_pos (of_decide_eq_true h1), h2, Bool.true_and, inR_pos (of_decide_eq_true h3)]) k1⟩
    · rintro _ w1 ⟨rfl, k1⟩
      exact ⟨_, rfl, fin (by rw [inR_neg (of_decide_eq_false h3), Bool.and_false]) k1⟩
    · rintro _ w1 ⟨rfl, k1⟩
      exact ⟨_, rfl, fin (by rw [inR_pos (of_decide_eq_true h1), h2, Bool.false_and]) k1⟩
    · rintro _ w1 ⟨rfl, k1⟩
      exact ⟨_, rfl, fin (by rw [inR_neg (of_decide_eq_false h1), Bool.false_and]) k1⟩
/-- a counter is written -/
theorem InvR.num {w7 : World} (h : InvR w base Q o g r) {i : Nat} (hi : i < r.ns.length) {a : Addr} (ha : g.q4 = some a) (x : Int) (e7 : w7 = setCells (a.add (i * 1)) 0 [.int .i64 x] w) : InvR w7 base Q o g { r with ns := r.ns.set i x } ∧ StpR o w g w7 g := by
  obtain ⟨c7, k7⟩ := h.ct.set (w' := w7) ha (i := i) (x' := x) hi e7
  have keep : ∀ {α : Type} {E : En α} {e : TypeId} {q' : Option Addr} {l' c' : Nat} {zs : List α}, SE E w base e q' l' c' zs → e ≠ 2 → SE E w7 base e q' l' c' zs := fun S ht => S.chg k7 fun b hb e => S.ne2 h.ct (Ne.symm ht) b hb e
  refine ⟨⟨?_, h.bo, h.hl, keep h.mx (by decide), keep h.lk (by decide), keep h.cd (by decide), ?_, h.que.chgS h.ct (by decide) k7, h.ap, h.hq⟩, ⟨k7.mono fun b _ hb => .ct hb.symm, fun b hb => .inl hb⟩⟩
  · show Blk w7 o 152 #[.bool true, _, _, _, .slice g.q4 (r.ns.set i x).length g.c4]
    rw [List.length_set]
    exact k7.blk h.obj fun e => SE.ne h.ct h.obj (by decide) _ e.symm rfl
  · show SE En.int w7 base 2 g.q4 (r.ns.set i x).length g.c4 (r.ns.set i x)
    rw [List.length_set]
    exact c7
theorem rAdd74 (h : InvR w base Q o g r) (hQ : Q ≤ 4398046511104) (t n by_ : Int) :
    Calls Try.prog 74 #[.pointer (some (ad o)), .int .i64 t, .int .i64 n, .int .i64 by_] w (Ret fun v w' => v = .tuple #[.int .i64 (addR r t n by_).1, .int .i64 (addR r t n by_).2.1] ∧ ∃ g', InvR w' base Q o g' (addR r t n by_).2.2 ∧ StpR o w g w' g') := by
  refine f74.calls _ _ _ _ ?_
  unfold f74.wp
  refine ⟨fun w1 => Chg none_ w w1 ∧ askedR r t (inR n r.ns.length) = 0, ?_, ?_⟩
  · rintro w1 ⟨k1, heq⟩
    obtain ⟨en, hn⟩ := asked_in heq
    have h1 := h.chgN k1
    obtain ⟨m, hm⟩ := get_ex hn
    obtain ⟨a, ha, hr⟩ := h1.ct.re.get n.toNat m hm
    have c0 := reads_at hr (i := 0) rfl
    rw [add_zero'] at c0
    obtain ⟨a', ha', hcan⟩ := h1.ct.can hn
    rw [ha] at ha'; cases ha'
    have n0 := hcan 0 1 (by decide)
    rw [add_zero'] at n0
    rw [addR, if_neg (by simp [heq]), hm]
    refine onPtr_mk ⟨_, _, _, (h1.obj.cell0 4).trans rfl, ?_⟩
    rw [ha]
    refine onPtr_mk ⟨by omega, by omega, m, c0, onPtr_mk ⟨by omega, by omega, n0, fun w4 e4 => ?_⟩⟩
    obtain ⟨I4, st4⟩ := h1.num hn ha _ e4
    obtain ⟨a', ha', hr4⟩ := I4.ct.re.get n.toNat (IntKind.wrap .i64 (m + by_)) (by show (r.ns.set _ _)[_]? = _; exact List.getElem?_set_self hn)
    rw [ha] at ha'; cases ha'
    have c4 := reads_at hr4 (i := 0) rfl
    rw [add_zero'] at c4
    refine onPtr_mk ⟨_, _, _, (I4.obj.cell0 4).trans rfl, ?_⟩
    rw [ha]
    refine onPtr_mk ⟨by omega, by show n < (((r.ns.set _ _).length : Nat) : Int); rw [List.length_set]; omega, _, c4, rfl, g, I4, (StpR.ofN k1).trans st4⟩
  · have fin : ∀ {b : Bool} {w1 : World}, b = inR n r.ns.length → Chg none_ w w1 → bcase ((askedR r t b : Int) != 0) (Value.tuple #[.int .i64 0, .int .i64 (askedR r t b)] = .tuple #[.int .i64 (addR r t n by_).1, .int .i64 (addR r t n by_).2.1] ∧ ∃ g', InvR w1 base Q o g' (addR r t n by_).2.2 ∧ StpR o w g w1 g') (Chg none_ w w1 ∧ askedR r t (inR n r.ns.length) = 0) := fun {b w1} hb k1 => by
      subst hb
      refine bc (fun hne => ?_) fun heq => ⟨k1, by simpa using heq⟩
      rw [addR, if_pos (by simpa using hne)]
      exact ⟨rfl, g, h.chgN k1, StpR.ofN k1⟩
    refine bc (fun h1 => onPtr_mk ⟨_, _, _, (h.obj.cell0 4).trans rfl, Calls.use (asked101 h hQ t _) ?_⟩) fun h1 => Calls.use (asked101 h hQ t false) ?_
    · rintro _ w1 ⟨rfl, k1⟩
      exact ⟨_, rfl, fin (inR_pos (of_decide_eq_true h1)).symm k1⟩
    · rintro _ w1 ⟨rfl, k1⟩
      exact ⟨_, rfl, fin (inR_neg (of_decide_eq_false h1)).symm k1⟩
end
end Full
end Go.Proofs.Ytibpbbjlecohiaa
set_option maxRecDepth 20000
namespace Go.Proofs.Ytibpbbjlecohiaa
namespace Full
open Go Go.Vc Go.RowKit
/-! # a call of a task, of the document -/
def WokeQ (w w' : World) (base Q o : Nat) (g : GR) (q : Option Addr) (l : Nat) (r : List Int) (s' : R8) : Prop :=
  RE En.int w' q l r ∧ (∀ b, qB q = some b → w.heap.size ≤ b ∧ b < w'.heap.size) ∧ ∃ g', InvR w' base Q o g' s' ∧ StpR o w g w' g' ∧ ∀ b, qB q = some b → ¬ OwnR g' o b
theorem WokeR.q {w w' : World} {base Q o : Nat} {g : GR} {q : Option Addr} {l c : Nat} {wk : List Int} {r' : R8} (h : WokeR w w' base Q o g q l c wk r') : WokeQ w w' base Q o g q l wk r' := by
  obtain ⟨A, g', I, st⟩ := h
  refine ⟨A.re, fun b hb => ⟨(A.lt hb).2, (A.lt hb).1⟩, g', I, st, fun b hb => ?_⟩
  obtain ⟨cs, B⟩ := A.blk hb
  exact I.not_own B (by decide)
theorem WokeQ.up {w w' : World} {base Q Q' o : Nat} {g : GR} {q : Option Addr} {l : Nat} {r : List Int} {s' : R8} (h : WokeQ w w' base Q o g q l r s') (hQ : Q ≤ Q') : WokeQ w w' base Q' o g q l r s' := by
  obtain ⟨h1, h2, g', I, st, hn⟩ := h
  exact ⟨h1, h2, g', I.up hQ, st, hn⟩
theorem WokeQ.nil {w w' : World} {base Q o : Nat} {g g' : GR} {s' : R8} (I : InvR w' base Q o g' s') (st : StpR o w g w' g') : WokeQ w w' base Q o g none 0 [] s' := ⟨RE.nil _ _ _, fun b hb => by simp [qB] at hb, g', I, st, fun b hb => by simp [qB] at hb⟩
theorem StpR.blk {o : Nat} {w w' : World} {g g' : GR} (h : StpR o w g w' g') {b : Nat} {t : TypeId} {cs : Array Value} (B : Blk w b t cs) (hn : ¬ OwnR g o b) : Blk w' b t cs := h.chg.blk B hn
section
variable {w w' : World} {base Q o : Nat} {g : GR} {s : R8}
theorem WokeQ.put {w w3 w4 w7 : World} {q : Option Addr} {l : Nat} {r : List Int} {s' : R8} (hW : WokeQ w3 w4 base Q o g q l r s') {S : Nat → Prop} (k : Chg S w4 w7) (hS : ∀ b, S b → b < w3.heap.size ∧ ¬ OwnR g o b) (L : StpR o w g w3 g) (hlow : ∀ b, S b → w.heap.size ≤ b) : WokeQ w w7 base Q o g q l r s' := by
  obtain ⟨h1, h2, g', I, st, hn⟩ := hW
  refine ⟨h1.chgS k fun a ha hs => ?_, fun b hb => ⟨Nat.le_trans L.chg.size (h2 b hb).1, Nat.lt_of_lt_of_le (h2 b hb).2 k.size⟩, g', I.chg k fun b hb => st.nown (hS b hb).1 (hS b hb).2, ⟨(L.trans st).chg.trans' k fun b hb => .inr (hlow b hb), (L.trans st).grow⟩, hn⟩
  have := (h2 a.block (by rw [ha]; rfl)).1
  have := (hS _ hs).1
  omega
/-- the end of each way: told's block written, copied, read -/
theorem told_endR {w w3 w4 : World} {a b j : Nat} {q : Option Addr} {l c : Nat} {s' : R8} {t : Told} {v : Value} {C : Value → World → Prop} (hW : WokeQ w3 w4 base Q o g q l t.woken s') (L : StpR o w g w3 g) (T3 : Blk w3 a 42 #[.bool false, .slice none 0 0, .int .i64 0, .int .i64 0]) (D3 : Blk w3 b 42 #[.bool false, .slice none 0 0, .int .i64 0, .int .i64 0]) (hab : a ≠ b) (na : ¬ OwnR g o a) (nb : ¬ OwnR g o b) (la : w.heap.size ≤ a) (lb : w.heap.size ≤ b)
    (T4 : Blk w4 a 42 #[.bool false, .slice none 0 0, .int .i64 0, .int .i64 0]) (D4 : Blk w4 b 42 #[.bool false, .slice none 0 0, .int .i64 0, .int .i64 0]) (hj : j < 3)
    (hres : putC (putC #[.bool false, .slice none 0 0, .int .i64 0, .int .i64 0] j [v]) 3 [.int .i64 t.err] = #[.bool t.got, .slice q l c, .int .i64 t.n, .int .i64 t.err])
    (hC : ∀ w7, WokeQ w w7 base Q o g q l t.woken s' → C (.agg #[.bool t.got, .slice q l c, .int .i64 t.n, .int .i64 t.err]) w7) :
    canStore w4 ⟨a, j, none⟩ 1 ∧ ∀ w5 : World, w5 = setCells (⟨a, j, none⟩ : Addr) 0 [v] w4 → canStore w5 ((⟨a, 0, none⟩ : Addr).add 3) 1 ∧ ∀ w6 : World, w6 = setCells ((⟨a, 0, none⟩ : Addr).add 3) 0 [.int .i64 t.err] w5 →
      ∃ b2 : Bool, ∃ (q1 : Option Addr) (l1 c1 : Nat), ∃ n5 : Int, ∃ n6 : Int, reads w6 (⟨a, 0, none⟩ : Addr) [.bool b2, .slice q1 l1 c1, .int .i64 n5, .int .i64 n6] ∧ canStore w6 (⟨b, 0, none⟩ : Addr) 4 ∧
      ∀ w7 : World, w7 = setCells (⟨b, 0, none⟩ : Addr) 0 [.bool b2, .slice q1 l1 c1, .int .i64 n5, .int .i64 n6] w6 →
      ∃ b3 : Bool, ∃ (q2 : Option Addr) (l2 c2 : Nat), ∃ n7 : Int, ∃ n8 : Int, reads w7 (⟨b, 0, none⟩ : Addr) [.bool b3, .slice q2 l2 c2, .int .i64 n7, .int .i64 n8] ∧ C (.agg #[.bool b3, .slice q2 l2 c2, .int .i64 n7, .int .i64 n8]) w7 := by
  refine ⟨T4.canStore (by show j + 1 ≤ 4; omega), fun w5 e5 => ?_⟩
  have T5 := T4.sets' e5
  have k5 : Chg (fun k => k = a ∨ k = b) w4 w5 := (Chg.refl _ w4).sets' e5 (.inl (.inl rfl))
  have D5 := D4.far' e5 (fun e => hab e.symm)
  have hsz : (putC #[Value.bool false, .slice none 0 0, .int .i64 0, .int .i64 0] (j + 0) [v]).size = 4 := by
    rcases j with _ | _ | _ | j <;> first | rfl | omega
  refine ⟨T5.canStore0 (by rw [hsz]; decide), fun w6 e6 => ?_⟩
  rw [add_mk, Nat.zero_add] at e6
  have T6 := T5.sets' e6
  have k6 : Chg (fun k => k = a ∨ k = b) w5 w6 := (Chg.refl _ w5).sets' e6 (.inl (.inl rfl))
  have D6 := D5.far' e6 (fun e => hab e.symm)
  rw [show putC (putC #[Value.bool false, .slice none 0 0, .int .i64 0, .int .i64 0] (j + 0) [v]) (3 + 0) [.int .i64 t.err] = #[.bool t.got, .slice q l c, .int .i64 t.n, .int .i64 t.err] from hres] at T6
  refine ⟨_, _, _, _, _, _, T6.reads0, D6.canStore (by show 0 + 4 ≤ 4; decide), fun w7 e7 => ?_⟩
  have D7 := D6.over e7 rfl
  have k7 : Chg (fun k => k = a ∨ k = b) w6 w7 := (Chg.refl _ w6).sets' e7 (.inl (.inr rfl))
  exact ⟨_, _, _, _, _, _, D7.reads0, hC w7 (hW.put (k5.trans (k6.trans k7)) (fun x hx => by
    rcases hx with rfl | rfl
    · exact ⟨T3.lt, na⟩
    · exact ⟨D3.lt, nb⟩) L (fun x hx => by
    rcases hx with rfl | rfl
    · exact la
    · exact lb))⟩
def DoneQ (w : World) (base Q o : Nat) (g : GR) (t : Told) (s' : R8) (v : Value) (w' : World) : Prop := ∃ q l c, v = .agg #[.bool t.got, .slice q l c, .int .i64 t.n, .int .i64 t.err] ∧ WokeQ w w' base Q o g q l t.woken s'
theorem must33 (h : InvR w base Q o g s) (hm : CondM s) (hQ : Q ≤ 4398046511104) (task kind n m : Int) :
    Calls Try.prog 33 #[.pointer (some (ad o)), .agg #[.int .i64 task, .int .i64 kind, .int .i64 n, .int .i64 m]] w (Ret (DoneQ w base (Q + 1) o g (mustR s task kind n m).1 (mustR s task kind n m).2)) := by
  refine f33.calls _ _ _ _ _ ?_
  unfold f33.wp
  refine newBox fun w1 B1 k1 s1 => newBox fun w2 D2 k2 s2 => newBox fun w3 T3 k3 s3 => ?_
  have k13 := k2.trans k3
  have k03 := k1.trans k13
  have h3 := h.chgN k03
  have B3 := k13.blk B1 (fun x => x)
  have D3 := k3.blk D2 (fun x => x)
  have L : StpR o w g w3 g := StpR.ofN k03
  have n1 : ¬ OwnR g o w1.heap.size := fun ho => by have := (h.own_lt ho).1; omega
  have n2 : ¬ OwnR g o w2.heap.size := fun ho => by have := (h.own_lt ho).1; omega
  have hab : w2.heap.size ≠ w1.heap.size := by omega
  refine ⟨_, (B3.cell0 1).trans rfl, ?_⟩
  refine bc (fun hk => ?_) (fun hk1 => ?_)
  · have hk : kind = 1 := by simpa using hk
    subst hk
    refine ⟨_, (B3.cell 0).trans rfl, _, (B3.cell0 2).trans rfl, Calls.use (rLock65 h3 hQ task n) ?_⟩
    rintro _ w4 ⟨rfl, g4, I4, st4⟩
    refine ⟨_, _, rfl, told_endR (j := 0) (q := none) (l := 0) (c := 0) (t := ⟨(lockR s task n).1, [], 0, (lockR s task n).2.1⟩) (s' := (lockR s task n).2.2) (WokeQ.nil I4 st4) L T3 D3 hab n2 n1 (by omega) (by omega) (st4.blk T3 n2) (st4.blk D3 n1) (by decide) rfl fun w7 hW => ⟨none, 0, 0, rfl, hW⟩⟩
  refine bc (fun hk => ?_) (fun hk2 => ?_)
  · have hk : kind = 2 := by simpa using hk
    subst hk
    refine ⟨_, (B3.cell 0).trans rfl, _, (B3.cell0 2).trans rfl, Calls.use (rUnlock66 h3 hQ task n) ?_⟩
    rintro _ w4 ⟨q, l, c, rfl, hW⟩
    have hW := hW.q.up (Nat.le_succ Q)
    have st4 := hW
    obtain ⟨_, _, g4, _, st4, _⟩ := st4
    refine ⟨_, _, _, _, rfl, ?_⟩
    have := told_endR (j := 1) (v := .slice q l c) (c := c) (t := ⟨false, (unlockR s task n).1, 0, (unlockR s task n).2.1⟩) (C := DoneQ w base (Q + 1) o g (⟨false, (unlockR s task n).1, 0, (unlockR s task n).2.1⟩) (unlockR s task n).2.2) hW L T3 D3 hab n2 n1 (by omega) (by omega) (st4.blk T3 n2) (st4.blk D3 n1) (by decide) rfl fun w7 hW => ⟨q, l, c, rfl, hW⟩
    rw [add_mk, Nat.zero_add]
    rw [add_mk, Nat.zero_add] at this
    exact this
  refine bc (fun hk => ?_) (fun hk3 => ?_)
  · have hk : kind = 3 := by simpa using hk
    subst hk
    refine ⟨_, (B3.cell 0).trans rfl, _, (B3.cell0 2).trans rfl, Calls.use (rRLock67 h3 hQ task n) ?_⟩
    rintro _ w4 ⟨rfl, g4, I4, st4⟩
    refine ⟨_, _, rfl, told_endR (j := 0) (q := none) (l := 0) (c := 0) (t := ⟨(takeLR s task n 3).1, [], 0, (takeLR s task n 3).2.1⟩) (s' := (takeLR s task n 3).2.2) (WokeQ.nil I4 st4) L T3 D3 hab n2 n1 (by omega) (by omega) (st4.blk T3 n2) (st4.blk D3 n1) (by decide) rfl fun w7 hW => ⟨none, 0, 0, rfl, hW⟩⟩
  refine bc (fun hk => ?_) (fun hk4 => ?_)
  · have hk : kind = 4 := by simpa using hk
    subst hk
    refine ⟨_, (B3.cell 0).trans rfl, _, (B3.cell0 2).trans rfl, Calls.use (rRUnlock68 h3 hQ task n) ?_⟩
    rintro _ w4 ⟨q, l, c, rfl, hW⟩
    have hW := hW.q.up (Nat.le_succ Q)
    have st4 := hW
    obtain ⟨_, _, g4, _, st4, _⟩ := st4
    refine ⟨_, _, _, _, rfl, ?_⟩
    have := told_endR (j := 1) (v := .slice q l c) (c := c) (t := ⟨false, (giveLR s task n 3).1, 0, (giveLR s task n 3).2.1⟩) (C := DoneQ w base (Q + 1) o g (⟨false, (giveLR s task n 3).1, 0, (giveLR s task n 3).2.1⟩) (giveLR s task n 3).2.2) hW L T3 D3 hab n2 n1 (by omega) (by omega) (st4.blk T3 n2) (st4.blk D3 n1) (by decide) rfl fun w7 hW => ⟨q, l, c, rfl, hW⟩
    rw [add_mk, Nat.zero_add]
    rw [add_mk, Nat.zero_add] at this
    exact this
  refine bc (fun hk => ?_) (fun hk5 => ?_)
  · have hk : kind = 5 := by simpa using hk
    subst hk
    refine ⟨_, (B3.cell 0).trans rfl, _, (B3.cell0 2).trans rfl, Calls.use (rWLock69 h3 hQ task n) ?_⟩
    rintro _ w4 ⟨rfl, g4, I4, st4⟩
    refine ⟨_, _, rfl, told_endR (j := 0) (q := none) (l := 0) (c := 0) (t := ⟨(takeLR s task n 5).1, [], 0, (takeLR s task n 5).2.1⟩) (s' := (takeLR s task n 5).2.2) (WokeQ.nil I4 st4) L T3 D3 hab n2 n1 (by omega) (by omega) (st4.blk T3 n2) (st4.blk D3 n1) (by decide) rfl fun w7 hW => ⟨none, 0, 0, rfl, hW⟩⟩
  refine bc (fun hk => ?_) (fun hk6 => ?_)
  · have hk : kind = 6 := by simpa using hk
    subst hk
    refine ⟨_, (B3.cell 0).trans rfl, _, (B3.cell0 2).trans rfl, Calls.use (rWUnlock70 h3 hQ task n) ?_⟩
    rintro _ w4 ⟨q, l, c, rfl, hW⟩
    have hW := hW.q.up (Nat.le_succ Q)
    have st4 := hW
    obtain ⟨_, _, g4, _, st4, _⟩ := st4
    refine ⟨_, _, _, _, rfl, ?_⟩
    have := told_endR (j := 1) (v := .slice q l c) (c := c) (t := ⟨false, (giveLR s task n 5).1, 0, (giveLR s task n 5).2.1⟩) (C := DoneQ w base (Q + 1) o g (⟨false, (giveLR s task n 5).1, 0, (giveLR s task n 5).2.1⟩) (giveLR s task n 5).2.2) hW L T3 D3 hab n2 n1 (by omega) (by omega) (st4.blk T3 n2) (st4.blk D3 n1) (by decide) rfl fun w7 hW => ⟨q, l, c, rfl, hW⟩
    rw [add_mk, Nat.zero_add]
    rw [add_mk, Nat.zero_add] at this
    exact this
  refine bc (fun hk => ?_) (fun hk7 => ?_)
  · have hk : kind = 7 := by simpa using hk
    subst hk
    refine ⟨_, (B3.cell 0).trans rfl, _, (B3.cell0 2).trans rfl, _, (B3.cell0 3).trans rfl, Calls.use (rWait71 h3 hQ task n m) ?_⟩
    rintro _ w4 ⟨q, l, c, rfl, hW⟩
    have hW := hW.q
    have st4 := hW
    obtain ⟨_, _, g4, _, st4, _⟩ := st4
    refine ⟨_, _, _, _, rfl, ?_⟩
    have := told_endR (j := 1) (v := .slice q l c) (c := c) (t := ⟨false, (waitR s task n m).1, 0, (waitR s task n m).2.1⟩) (C := DoneQ w base (Q + 1) o g (⟨false, (waitR s task n m).1, 0, (waitR s task n m).2.1⟩) (waitR s task n m).2.2) hW L T3 D3 hab n2 n1 (by omega) (by omega) (st4.blk T3 n2) (st4.blk D3 n1) (by decide) rfl fun w7 hW => ⟨q, l, c, rfl, hW⟩
    rw [add_mk, Nat.zero_add]
    rw [add_mk, Nat.zero_add] at this
    exact this
  refine bc (fun hk => ?_) (fun hk8 => ?_)
  · have hk : kind = 8 := by simpa using hk
    subst hk
    refine ⟨_, (B3.cell 0).trans rfl, _, (B3.cell0 2).trans rfl, Calls.use (rSignal72 h3 hQ hm task n) ?_⟩
    rintro _ w4 ⟨q, l, c, rfl, hW⟩
    have hW := hW.q.up (Nat.le_succ Q)
    have st4 := hW
    obtain ⟨_, _, g4, _, st4, _⟩ := st4
    refine ⟨_, _, _, _, rfl, ?_⟩
    have := told_endR (j := 1) (v := .slice q l c) (c := c) (t := ⟨false, (sigR s task n).1, 0, (sigR s task n).2.1⟩) (C := DoneQ w base (Q + 1) o g (⟨false, (sigR s task n).1, 0, (sigR s task n).2.1⟩) (sigR s task n).2.2) hW L T3 D3 hab n2 n1 (by omega) (by omega) (st4.blk T3 n2) (st4.blk D3 n1) (by decide) rfl fun w7 hW => ⟨q, l, c, rfl, hW⟩
    rw [add_mk, Nat.zero_add]
    rw [add_mk, Nat.zero_add] at this
    exact this
  refine bc (fun hk => ?_) (fun hk9 => ?_)
  · have hk : kind = 9 := by simpa using hk
    subst hk
    refine ⟨_, (B3.cell 0).trans rfl, _, (B3.cell0 2).trans rfl, Calls.use (rBroadcast73 h3 hQ hm task n) ?_⟩
    rintro _ w4 ⟨q, l, c, rfl, hW⟩
    have hW := hW.q.up (Nat.le_succ Q)
    have st4 := hW
    obtain ⟨_, _, g4, _, st4, _⟩ := st4
    refine ⟨_, _, _, _, rfl, ?_⟩
    have := told_endR (j := 1) (v := .slice q l c) (c := c) (t := ⟨false, (broR s task n).1, 0, (broR s task n).2.1⟩) (C := DoneQ w base (Q + 1) o g (⟨false, (broR s task n).1, 0, (broR s task n).2.1⟩) (broR s task n).2.2) hW L T3 D3 hab n2 n1 (by omega) (by omega) (st4.blk T3 n2) (st4.blk D3 n1) (by decide) rfl fun w7 hW => ⟨q, l, c, rfl, hW⟩
    rw [add_mk, Nat.zero_add]
    rw [add_mk, Nat.zero_add] at this
    exact this
  refine bc (fun hk => ?_) (fun hk10 => ?_)
  · have hk : kind = 10 := by simpa using hk
    subst hk
    refine ⟨_, (B3.cell 0).trans rfl, _, (B3.cell0 2).trans rfl, _, (B3.cell0 3).trans rfl, Calls.use (rAdd74 h3 hQ task n m) ?_⟩
    rintro _ w4 ⟨rfl, g4, I4, st4⟩
    refine ⟨_, _, rfl, ?_⟩
    have := told_endR (j := 2) (v := .int .i64 (addR s task n m).1) (q := none) (l := 0) (c := 0) (t := ⟨false, [], (addR s task n m).1, (addR s task n m).2.1⟩) (s' := (addR s task n m).2.2) (C := DoneQ w base (Q + 1) o g (⟨false, [], (addR s task n m).1, (addR s task n m).2.1⟩) (addR s task n m).2.2) (WokeQ.nil (I4.up (Nat.le_succ Q)) st4) L T3 D3 hab n2 n1 (by omega) (by omega) (st4.blk T3 n2) (st4.blk D3 n1) (by decide) rfl fun w7 hW => ⟨none, 0, 0, rfl, hW⟩
    rw [add_mk, Nat.zero_add]
    rw [add_mk, Nat.zero_add] at this
    exact this
  have e : mustR s task kind n m = (⟨false, [], 0, 0⟩, s) := by
    have f : ∀ k : Int, (kind == k) = false → ¬ kind = k := fun k h => ne_of_beq_false h
    unfold mustR
    rw [if_neg (f 1 hk1), if_neg (f 2 hk2), if_neg (f 3 hk3), if_neg (f 4 hk4), if_neg (f 5 hk5), if_neg (f 6 hk6), if_neg (f 7 hk7), if_neg (f 8 hk8), if_neg (f 9 hk9), if_neg (f 10 hk10)]
  rw [e]
  refine ⟨_, _, _, _, _, _, T3.reads0, D3.canStore (by show 0 + 4 ≤ 4; decide), fun w4 e4 => ?_⟩
  have D4 := D3.over e4 rfl
  have k4 : Chg (fun k => k = w1.heap.size) w3 w4 := (Chg.refl _ w3).sets' e4 (.inl rfl)
  refine ⟨_, _, _, _, _, _, D4.reads0, none, 0, 0, rfl, ?_⟩
  exact (WokeQ.nil (h3.up (by omega)) (StpR.refl o w3 g)).put k4 (fun b hb => by
    subst hb
    exact ⟨D3.lt, n1⟩) L (fun b hb => by omega)
end
end Full
end Go.Proofs.Ytibpbbjlecohiaa
set_option maxRecDepth 20000
namespace Go.Proofs.Ytibpbbjlecohiaa
namespace Full
open Go Go.Vc Go.RowKit
/-! # the document's New -/
def new8R (a b c d : Nat) : R8 := ⟨a, b, c, List.replicate (2 * (a + b) + c) [], List.replicate d 0⟩
theorem hd_made {w : World} {b base n : Nat} {e : TypeId} (B : Blk w b e (madeCells #[.slice none 0 0, .slice none 0 0] (n * 2))) (hb : base ≤ b) (hn : 2 * n ≤ maxLen) : SE En.hd w base e (some ⟨b, 0, none⟩) (2 * n) (2 * n) (List.replicate (2 * n) ((none, 0, 0) : Hd)) := by
  refine SE.lit B hb (fun i v hv => ?_) (by simp) (Nat.le_refl _) hn (by simp [madeCells, En.hd]; omega)
  obtain ⟨i', j, y, rfl, hj, hy, hyv⟩ := En.hd.flat_ex hv
  have hj : j < 1 := hj
  have hj0 : j = 0 := by omega
  subst hj0
  have hi := get_lt hy
  rw [List.length_replicate] at hi
  have := List.eq_of_mem_replicate (List.mem_of_getElem? hy)
  subst this
  cases hyv
  rw [show i' * En.hd.k + 0 = i' from Nat.mul_one i']
  refine (madeCells_get #[.slice none 0 0, .slice none 0 0] (by decide) n i' (by show i' < n * 2; omega)).trans ?_
  rcases Nat.mod_two_eq_zero_or_one i' with h | h
  · show (#[Value.slice none 0 0, .slice none 0 0] : Array Value)[i' % 2]? = _
    rw [h]; rfl
  · show (#[Value.slice none 0 0, .slice none 0 0] : Array Value)[i' % 2]? = _
    rw [h]; rfl
theorem mkStepR {W w : World} {L : List (Nat × TypeId × Array Value)} {M : Option Nat} {n : Int} {k : Nat} {t : TypeId} {cs : Array Value} {C : World → Prop} (h : St W w L M) (h1 : 0 ≤ n) (h2 : ((k : Nat) : Int) * n ≤ 281474976710656) (h3 : n ≤ 9223372036854775807) (hC : ∀ w', St W w' ((w.heap.size, t, cs) :: L) M → w'.heap.size = w.heap.size + 1 → C w') :
    0 ≤ n ∧ n ≤ n ∧ ((k : Nat) : Int) * n ≤ 281474976710656 ∧ n ≤ 9223372036854775807 ∧ ∀ w' : World, w' = w.alloc (.cells cs t) → Keeps (fun p => p.block < W.heap.size) W w' ∧ C w' :=
  ⟨h1, Int.le_refl _, h2, h3, fun w' e => ⟨(h.step e).chg.keeps, hC w' (h.step e) (by rw [e]; simp)⟩⟩
def NewP (w : World) (a b c d : Int) (v : Value) (w' : World) : Prop :=
  (¬ (okN a ∧ okN b ∧ okN c ∧ okN d) ∧ v = .tuple #[.pointer none, .int .i64 1] ∧ Chg none_ w w') ∨ ((okN a ∧ okN b ∧ okN c ∧ okN d) ∧ ∃ o g, v = .tuple #[.pointer (some (ad o)), .int .i64 0] ∧ InvR w' w.heap.size 0 o g (new8R a.toNat b.toNat c.toNat d.toNat) ∧ Chg none_ w w')
theorem leafR {w0 W w : World} {L : List (Nat × TypeId × Array Value)} {a b c d : Int} {b1 b2 b3 b4 : Nat} (hall : okN a ∧ okN b ∧ okN c ∧ okN d) (k0 : Chg none_ w0 W) (h : St W w L none) (h1 : (b1, 155, madeCells #[.slice none 0 0, .slice none 0 0] (a.toNat * 2)) ∈ L) (h2 : (b2, 155, madeCells #[.slice none 0 0, .slice none 0 0] (b.toNat * 2)) ∈ L)
    (h3 : (b3, 153, madeCells #[.slice none 0 0] (c.toNat * 1)) ∈ L) (h4 : (b4, 2, madeCells #[.int .i64 0] (d.toNat * 1)) ∈ L) (hne : b1 ≠ b2) :
    ∀ w' : World, w' = w.alloc (.cells #[.bool true, .slice (some (⟨b1, 0, none⟩ : Addr)) a.toNat a.toNat, .slice (some (⟨b2, 0, none⟩ : Addr)) b.toNat b.toNat, .slice (some (⟨b3, 0, none⟩ : Addr)) c.toNat c.toNat, .slice (some (⟨b4, 0, none⟩ : Addr)) d.toNat d.toNat] 152) → NewP w0 a b c d (.tuple #[.pointer (some (⟨w.heap.size, 0, none⟩ : Addr)), .int .i64 0]) w' := fun w' e => by
  have s := h.step e
  have O := s.blk _ _ _ (.head _)
  have x1 := s.blk _ _ _ (.tail _ h1)
  have x2 := s.blk _ _ _ (.tail _ h2)
  have x3 := s.blk _ _ _ (.tail _ h3)
  have x4 := s.blk _ _ _ (.tail _ h4)
  have hz := k0.size
  obtain ⟨ha, hb, hc, hd⟩ := id hall
  obtain ⟨n1, rfl⟩ : ∃ n : Nat, a = n := ⟨a.toNat, by have := ha.1; omega⟩
  obtain ⟨n2, rfl⟩ : ∃ n : Nat, b = n := ⟨b.toNat, by have := hb.1; omega⟩
  obtain ⟨n3, rfl⟩ : ∃ n : Nat, c = n := ⟨c.toNat, by have := hc.1; omega⟩
  obtain ⟨n4, rfl⟩ : ∃ n : Nat, d = n := ⟨d.toNat, by have := hd.1; omega⟩
  have ha := ha.2
  have hb := hb.2
  have hc := hc.2
  have hd := hd.2
  simp only [Int.toNat_natCast] at *
  have S1 := hd_made x1.1 x1.2 (by simp only [maxLen]; omega)
  have S2 := hd_made x2.1 x2.2 (by simp only [maxLen]; omega)
  have S3 : SE En.hd w' W.heap.size 153 (some ⟨b3, 0, none⟩) n3 n3 (List.replicate n3 ((none, 0, 0) : Hd)) := SE.made (n := n3) (x := ((none, 0, 0) : Hd)) x3.1 rfl x3.2 (by simp only [maxLen]; omega)
  have S4 : SE En.int w' W.heap.size 2 (some ⟨b4, 0, none⟩) n4 n4 (List.replicate n4 (0 : Int)) := SE.made (n := n4) (x := (0 : Int)) x4.1 rfl x4.2 (by simp only [maxLen]; omega)
  refine .inr ⟨hall, w.heap.size, ⟨some ⟨b1, 0, none⟩, n1, some ⟨b2, 0, none⟩, n2, some ⟨b3, 0, none⟩, n3, some ⟨b4, 0, none⟩, n4, List.replicate (2 * (n1 + n2) + n3) (none, 0, 0)⟩, rfl, ?_, k0.trans s.chg⟩
  simp only [Int.toNat_natCast]
  exact { obj := by simp only [new8R, List.length_replicate]; exact O.1
          bo := Nat.le_trans hz h.chg.size
          hl := by simp [new8R]
          mx := by
            simp only [new8R, List.take_replicate]
            rw [Nat.min_eq_left (by omega)]; exact S1.lower hz
          lk := by
            simp only [new8R, List.drop_replicate, List.take_replicate]
            rw [Nat.min_eq_left (by omega)]; exact S2.lower hz
          cd := by
            simp only [new8R, List.drop_replicate]
            rw [show 2 * (n1 + n2) + n3 - 2 * (n1 + n2) = n3 by omega]; exact S3.lower hz
          ct := by simp only [new8R, List.length_replicate]; exact S4.lower hz
          que := ⟨by simp [new8R], fun i h xs hh hx => by
            have e1 := List.eq_of_mem_replicate (List.mem_of_getElem? hh)
            have e2 := List.eq_of_mem_replicate (List.mem_of_getElem? (show (List.replicate _ ([] : List W3))[i]? = some xs from hx))
            subst e1; subst e2
            exact SE.nil _ _ _ _, fun i j h h' g hh _ hg _ => by
            have e1 := List.eq_of_mem_replicate (List.mem_of_getElem? hh)
            subst e1
            simp [qB] at hg⟩
          ap := fun x hx hy => by simp [qB] at hx hy; omega
          hq := by
            have : ∀ n, tot (List.replicate n ([] : List W3)) = 0 := fun n => by
              induction n with
              | zero => rfl
              | succ n ih => simp [tot] at ih ⊢
            simp only [new8R, this]; exact Nat.le_refl _ }
theorem new58 (w : World) (a b c d : Int) : Calls Try.prog 58 #[.agg #[.int .i64 a, .int .i64 b, .int .i64 c, .int .i64 d]] w (Ret (NewP w a b c d)) := by
  refine f58.calls _ _ _ _ ?_
  unfold f58.wp
  refine newBox fun w1 B1 k1 _ => ⟨_, (B1.cell 0).trans rfl, _, (B1.cell0 1).trans rfl, _, (B1.cell0 2).trans rfl, _, (B1.cell0 3).trans rfl, newBox fun w2 B2 k2 _ => ?_⟩
  have k02 := k1.trans k2
  have A2 := k2.blk B1 (fun x => x)
  have at4 : ∀ i : Nat, i < 4 → ∃ v, [a, b, c, d][i]? = some v ∧ w2.cell? ((⟨w1.heap.size, 0, none⟩ : Addr).add (i * 1)) = some (.int .i64 v) := fun i hi => by
    obtain ⟨v, hv⟩ := get_ex (l := [a, b, c, d]) (i := i) hi
    refine ⟨v, hv, ?_⟩
    rw [Nat.mul_one, B2.cell0]
    rcases i with _ | _ | _ | _ | i
    · cases hv; rfl
    · cases hv; rfl
    · cases hv; rfl
    · cases hv; rfl
    · omega
  refine ⟨fun x w' => ∃ i : Nat, x = i ∧ i ≤ 4 ∧ w2 = w' ∧ ∀ (j : Nat) v, j < i → [a, b, c, d][j]? = some v → okN v, fun x _ => 4 - x.toNat, ⟨0, rfl, by decide, rfl, fun j v hj => by omega⟩, ?_⟩
  rintro x _ ⟨i, rfl, hi, rfl, hin⟩
  refine bc (fun hlt => ?_) (fun hge => ?_)
  · have hi' : i < 4 := by have := of_decide_eq_true hlt; omega
    obtain ⟨v, hv, hc⟩ := at4 i hi'
    have bad : ¬ okN v → ¬ (okN a ∧ okN b ∧ okN c ∧ okN d) := fun hb h => hb (by
      have : v ∈ [a, b, c, d] := List.mem_of_getElem? hv
      simp at this
      rcases this with rfl | rfl | rfl | rfl
      · exact h.1
      · exact h.2.1
      · exact h.2.2.1
      · exact h.2.2.2)
    rw [wrapS (x := (i : Int) + 1) (by omega) (by omega)]
    refine ⟨by omega, by omega, v, hc, bc (fun h => .inl ⟨bad fun ho => ?_, rfl, k02⟩) (fun h0 => bc (fun h => .inl ⟨bad fun ho => ?_, rfl, k02⟩) (fun h1 => ⟨⟨i + 1, by omega, hi', rfl, fun j u hj hu => ?_⟩, ?_⟩))⟩
    · have := of_decide_eq_true h; have := ho.1; omega
    · have := of_decide_eq_true h; have := ho.2; omega
    · rcases Nat.lt_or_ge j i with h2 | h2
      · exact hin j u h2 hu
      · have : j = i := by omega
        subst this
        rw [hv] at hu; cases hu
        have := of_decide_eq_false h0; have := of_decide_eq_false h1
        exact ⟨by omega, by omega⟩
    · show 4 - ((i : Int) + 1).toNat < 4 - (i : Int).toNat
      omega
  have hi4 : i = 4 := by have := of_decide_eq_false hge; omega
  subst hi4
  have ha : okN a := hin 0 a (by decide) rfl
  have hb : okN b := hin 1 b (by decide) rfl
  have hc : okN c := hin 2 c (by decide) rfl
  have hd : okN d := hin 3 d (by decide) rfl
  have hall : okN a ∧ okN b ∧ okN c ∧ okN d := ⟨ha, hb, hc, hd⟩
  obtain ⟨ha0, ha1⟩ := ha
  obtain ⟨hb0, hb1⟩ := hb
  obtain ⟨hc0, hc1⟩ := hc
  obtain ⟨hd0, hd1⟩ := hd
  have D2 := A2.drew
  have k02' := k02.drew
  generalize w2.drew = W at *
  refine ⟨fun p => p.block < W.heap.size, _, D2.lt, (D2.cell 0).trans rfl, _, D2.lt, (D2.cell0 1).trans rfl, _, D2.lt, (D2.cell0 2).trans rfl, _, D2.lt, (D2.cell0 3).trans rfl, ?_⟩
  have S0 : St W W [] none := ⟨Chg.refl _ _, fun b t cs hm => (by cases hm), fun m hm => (by cases hm)⟩
  clear hin at4 hge hi B2 A2 D2 B1 k1 k2 k02
  repeat' (first
    | (refine mkStepR (by assumption) (by omega) (by omega) (by omega) fun w' h' hz' => ?_)
    | (refine leafR hall k02' (by assumption) (by repeat' (first | exact .head _ | apply List.Mem.tail)) (by repeat' (first | exact .head _ | apply List.Mem.tail)) (by repeat' (first | exact .head _ | apply List.Mem.tail)) (by repeat' (first | exact .head _ | apply List.Mem.tail)) (by omega))
    | (refine ⟨?_, ?_⟩))
end Full
end Go.Proofs.Ytibpbbjlecohiaa
