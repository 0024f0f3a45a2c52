import Derived.Test.YtibpbbjlecohiaaLcD
set_option maxRecDepth 20000
namespace Go.Proofs.Ytibpbbjlecohiaa
namespace Full
open Go Go.Vc Go.RowKit
/-! # a thing is given back -/
def WokeR (w w' : World) (base Q o : Nat) (g : GR) (q : Option Addr) (l c : Nat) (wk : List Int) (r' : R8) : Prop :=
  SE En.int w' w.heap.size 3 q l c wk ∧ ∃ g', InvR w' base Q o g' r' ∧ StpR o w g w' g'
theorem R8.two_a (r : R8) {i : Nat} {a b : List W3} (h : 2 * i + 1 < r.rows.length) : ((r.put (2 * i) a).put (2 * i + 1) b).rows[2 * i]? = some a := by
  show ((r.rows.set _ _).set _ _)[_]? = _
  rw [List.getElem?_set_ne (by omega), List.getElem?_set_self (by omega)]
theorem R8.two_b (r : R8) {i : Nat} {a b : List W3} (h : 2 * i + 1 < r.rows.length) : ((r.put (2 * i) a).put (2 * i + 1) b).rows[2 * i + 1]? = some b := by
  show ((r.rows.set _ _).set _ _)[_]? = _
  rw [List.getElem?_set_self (by rw [List.length_set]; exact h)]
theorem R8.put_b (r : R8) {i : Nat} {a b b' : List W3} : ((r.put (2 * i) a).put (2 * i + 1) b).put (2 * i + 1) b' = (r.put (2 * i) a).put (2 * i + 1) b' := by
  simp [R8.put, List.set_set]
theorem R8.put_a (r : R8) {i : Nat} {a a' b : List W3} : ((r.put (2 * i) a).put (2 * i + 1) b).put (2 * i) a' = (r.put (2 * i) a').put (2 * i + 1) b := by
  unfold R8.put
  simp only [R8.mk.injEq, true_and, and_true]
  rw [List.set_comm _ _ (by omega), List.set_set]
theorem R8.put_same (r : R8) {j : Nat} {b : List W3} (h : r.rows[j]? = some b) : r.put j b = r := by unfold R8.put; rw [set_same h]
theorem passW_no {hs q : List W3} {s : W3} (h : mayW hs s = false) : passW hs (s :: q) = ([], hs, s :: q) := by unfold passW; rw [if_neg (by rw [h]; simp)]
theorem passW_yes {hs q : List W3} {s : W3} (h : mayW hs s = true) : passW hs (s :: q) = (s.1 :: (passW (hs ++ [s]) q).1, (passW (hs ++ [s]) q).2) := by rw [passW, if_pos h]
theorem passW_len : ∀ (q hs : List W3), (passW hs q).1.length ≤ q.length
  | [], _ => Nat.le_refl _
  | s :: q, hs => by
    have := passW_len q (hs ++ [s])
    unfold passW
    split
    · simp only [List.length_cons]; omega
    · simp
section
variable {w w' : World} {base Q o : Nat} {g : GR} {r : R8}
theorem give98 (h : InvR w base Q o g r) (hQ : Q ≤ 4398046511104) {k : Nat} {p : Addr} (hp : At g r k p) (t : Int) :
    Calls Try.prog 98 #[.pointer (some p), .int .i64 t] w (Ret fun v w' => ∃ q l c, v = .slice q l c ∧ WokeR w w' base Q o g q l c (giveR r k t).1 (giveR r k t).2) := by
  obtain ⟨lh, lq⟩ := hp.loc
  obtain ⟨h0, xs, hh0, hx0, S0, c0, n0⟩ := h.row_at lh
  obtain ⟨h1, ys, hh1, hx1, S1, c1, n1⟩ := h.row_at lq
  have l0 := S0.len
  have lx := h.len hx0
  have bw : base ≤ w.heap.size := Nat.le_trans h.bo (Nat.le_of_lt h.obj.lt)
  have hrow := get_lt hx1
  have eg : giveR r k t = ((passW (xs.filter fun s => s.1 != t) ys).1, (r.put (2 * k) (passW (xs.filter fun s => s.1 != t) ys).2.1).put (2 * k + 1) (passW (xs.filter fun s => s.1 != t) ys).2.2) := by
    unfold giveR; rw [R8.row_of hx0, R8.row_of hx1]
  rw [eg]
  obtain ⟨F, hF⟩ : ∃ F, F = xs.filter fun s => s.1 != t := ⟨_, rfl⟩
  rw [← hF]
  refine f98.calls _ _ ?_
  unfold f98.wp
  refine onPtr_mk ⟨_, _, _, c0, fun q2 l2 c2 x1 w1 => ∃ (i : Nat) (acc : List W3), x1 = (i : Int) ∧ i ≤ h0.2.1 ∧ acc = (xs.take i).filter (fun s => s.1 != t) ∧ SE En.w3 w1 w.heap.size 158 q2 l2 c2 acc ∧ Chg none_ w w1, fun _ _ _ x1 _ => h0.2.1 - x1.toNat,
    ⟨0, [], rfl, Nat.zero_le _, by simp, SE.nil _ _ _ _, Chg.refl _ _⟩, ?_⟩
  rintro q2 l2 c2 _ w1 ⟨i, acc, rfl, hi, hacc, A1, k1⟩
  have la := A1.len
  have hal : acc.length ≤ i := by
    rw [hacc]
    exact Nat.le_trans (List.length_filter_le _ _) (by rw [List.length_take]; omega)
  refine bc (fun hlt => ?_) fun hge => ?_
  · have hlt : i < h0.2.1 := by have := of_decide_eq_true hlt; omega
    obtain ⟨a, x, ha, hx, hr⟩ := (S0.re.chg k1).ex hlt
    rw [wrapS (x := (i : Int) + 1) (by omega) (by omega), ha]
    have etk : xs.take (i + 1) = xs.take i ++ [x] := by rw [List.take_add_one, hx]; rfl
    refine onPtr_mk ⟨by omega, by omega, _, _, _, hr, boxed rfl rfl fun w3 B3 k3 _ => ⟨_, (B3.cell 0).trans rfl, bc (fun hne => ?_) fun hne => ?_⟩⟩
    · refine ⟨_, _, _, B3.reads0, newBox fun w4 B4 k4 _ => ?_⟩
      have k04 := (k1.trans k3).trans k4
      have A4 := (A1.chgN k3).chgN k4
      obtain ⟨q', c', w5, hrun, A5, k5, _, _⟩ := A4.append1 (t := 153) (ty := 153) (x := x) elemSt B4 (by simp only [maxLen]; omega) (by show (l2 + 1) * 24 ≤ _; omega) k04.size
      refine ⟨q', l2 + 1, c', w5, hrun, ⟨i + 1, acc ++ [x], by omega, hlt, ?_, A5, k04.up k5 fun b hb => (A4.lt hb.symm).2⟩, meas hlt⟩
      rw [etk, List.filter_append, ← hacc]
      simp [hne]
    · refine ⟨⟨i + 1, acc, by omega, hlt, ?_, A1.chgN k3, k1.trans k3⟩, meas hlt⟩
      rw [etk, List.filter_append, ← hacc]
      simp [hne]
  have hil : i = h0.2.1 := by have := of_decide_eq_false hge; omega
  have hacc : acc = F := by rw [hacc, hF, List.take_of_length_le (by omega)]
  subst hacc
  refine onPtr_mk (h.put (Q' := Q) lh hh0 hx0 (k1.of_none _) (h1 := ⟨q2, l2, c2⟩) (A1.lower bw) (.inr fun b hb => (A1.lt hb).2) (by omega) fun w6 I6 st6 _ => ?_)
  clear hge hi hal la hil
  refine ⟨fun q4 l4 c4 w7 => ∃ (wk : List Int) (g1 : GR) (a b : List W3), SE En.int w7 w.heap.size 3 q4 l4 c4 wk ∧ InvR w7 base Q o g1 ((r.put (2 * k) a).put (2 * k + 1) b) ∧ StpR o w g w7 g1 ∧ At g1 r k p ∧ wk ++ (passW a b).1 = (passW acc ys).1 ∧ (passW a b).2 = (passW acc ys).2, fun _ l4 _ _ => (passW acc ys).1.length - l4,
    ⟨[], _, acc, ys, SE.nil _ _ _ _, by rw [R8.put_same (r.put (2 * k) acc) (b := ys) (by show (r.rows.set _ _)[_]? = _; rw [List.getElem?_set_ne (by omega)]; exact hx1)]; exact I6, (StpR.ofN (Chg.refl none_ w)).trans st6, hp, rfl, rfl⟩, ?_⟩
  rintro q4 l4 c4 w7 ⟨wk, g1, a, b, A7, I7, st7, hp7, e1, e2⟩
  have lw := A7.len
  have A7 := A7.drew
  have I7 := I7.chgN (Chg.refl none_ w7).drew
  have st7 := st7.trans (StpR.ofN (o := o) (g := g1) (Chg.refl none_ w7).drew)
  generalize w7.drew = W at *
  have hp7' : At g1 ((r.put (2 * k) a).put (2 * k + 1) b) k p := hp7
  obtain ⟨lh7, lq7⟩ := hp7'.loc
  obtain ⟨ha, xa, hha, hxa, Sa, ca, na⟩ := I7.row_at lh7
  obtain ⟨hb, xb, hhb, hxb, Sb, cb, nb⟩ := I7.row_at lq7
  rw [r.two_a hrow] at hxa; cases hxa
  rw [r.two_b hrow] at hxb; cases hxb
  have lb := Sb.len
  have fin : passW a b = ([], a, b) → ∀ {w'}, Chg none_ W w' → ∃ q l c, Value.slice q4 l4 c4 = .slice q l c ∧ WokeR w w' base Q o g q l c (passW acc ys).1 ((r.put (2 * k) (passW acc ys).2.1).put (2 * k + 1) (passW acc ys).2.2) := fun e {w'} kk => by
    rw [e] at e1 e2
    rw [← e1, ← e2, List.append_nil]
    exact ⟨_, _, _, rfl, A7.chgN kk, g1, I7.chgN kk, st7.trans (StpR.ofN kk)⟩
  refine onPtr_mk ⟨_, _, _, cb, bc (fun hpos => ?_) fun hz => ?_⟩
  rotate_left
  · have : b = [] := List.eq_nil_of_length_eq_zero (by have := of_decide_eq_false hz; omega)
    exact fin (by rw [this]; rfl) (Chg.refl _ _)
  have hpos : 0 < hb.2.1 := by have := of_decide_eq_true hpos; omega
  obtain ⟨s, bt, rfl⟩ : ∃ s bt, b = s :: bt := by
    cases b with
    | nil => simp at lb; omega
    | cons s bt => exact ⟨s, bt, rfl⟩
  obtain ⟨pa, s', hpa, hs', hrs⟩ := Sb.re.ex (i := 0) hpos
  cases hs'
  refine onPtr_mk ⟨_, _, _, _, _, _, reads2 ca cb, onPtr_mk ⟨_, _, _, cb, ?_⟩⟩
  rw [hpa]
  refine onPtr_mk ⟨by decide, by omega, _, _, _, hrs, Calls.use (may115 Sa.re s) ?_⟩
  rintro _ w8 ⟨rfl, k8⟩
  refine ⟨_, rfl, bc (fun hm => ?_) fun hm => fin (passW_no hm) k8⟩
  have hps := passW_yes (q := bt) hm
  have cb8 := k8.cellS cb (fun h => h)
  refine onPtr_mk ⟨_, _, _, cb8, ?_⟩
  rw [hpa]
  refine onPtr_mk ⟨by decide, by omega, _, _, _, k8.readsN hrs, boxed rfl rfl fun w10 B10 k10 z10 => newBox fun w11 B11 k11 z11 => ?_⟩
  have z10 : w10.heap.size = w8.heap.size + 1 := z10
  have k711 := (k8.trans k10).trans k11
  have zW := k8.size
  have cb11 := k711.cellS cb (fun h => h)
  have S11 : SE En.w3 w11 w10.heap.size 158 (some ⟨w10.heap.size, 0, none⟩) 0 0 [] := SE.lit B11 (Nat.le_refl _) (fun n v hv => by simp [En.flat] at hv) rfl (Nat.le_refl _) (by decide) (by simp)
  have lQ := I7.len (r.two_b hrow)
  have hcut := (Sb.re.chg k711).cut (n := 1) (c := hb.2.2) (by omega) Sb.le
  obtain ⟨q11, c11, w12, hrun, S12, k12, _, _, _, _⟩ := S11.append (t := 153) (ty := 153) (c2 := hb.2.2 - 1) elemSt hcut (by simp only [maxLen]; omega) (by show (0 + (hb.2.1 - 1)) * 24 ≤ _; omega) (by have := k11.size; omega)
  have k712 : Chg none_ W w12 := k711.up k12 fun x hx => by simp [qB] at hx; omega
  have S12' : SE En.w3 w12 w10.heap.size 158 q11 (0 + (hb.2.1 - 1)) c11 bt := by simpa using S12
  have Q1 : 1 ≤ Q := by simp only [List.length_cons] at lQ; omega
  have bW : base ≤ W.heap.size := Nat.le_trans I7.bo (Nat.le_of_lt I7.obj.lt)
  have B12 := (k11.blk B10 (fun x => x))
  have B12 := k12.blk B12 (fun e => by simp [qB] at e; omega)
  refine onPtr_mk ⟨_, _, _, cb11, by decide, by omega, q11, 0 + (hb.2.1 - 1), c11, w12, hrun, onPtr_mk (I7.put (Q' := Q - 1) lq7 hhb (r.two_b hrow) (k712.of_none _) (h1 := ⟨q11, 0 + (hb.2.1 - 1), c11⟩) (S12'.lower (by omega)) (.inr fun x hx => by have := (S12'.lt hx).2; omega) (by simp; omega) fun w13 I13 st13 c13 => ?_)⟩
  rw [r.put_b] at I13
  have pW := cell_some cb
  have B13 := c13.blk B12 (fun e => by rw [add_block] at e pW; omega)
  have A13 := A7.chg st13.chg fun x hx ho => by
    obtain ⟨cs, B⟩ := A7.blk hx
    exact I7.not_own B (by decide) ho
  have I13 := I13.chgN (Chg.refl none_ w13).drew
  have B13 := B13.drew
  have A13 := A13.drew
  have st13 := st13.trans (StpR.ofN (Chg.refl none_ w13).drew)
  generalize w13.drew = V at *
  have hp13 : At { g1 with hs := g1.hs.set (2 * k + 1) (q11, 0 + (hb.2.1 - 1), c11) } ((r.put (2 * k) a).put (2 * k + 1) bt) k p := hp7
  obtain ⟨lh13, lq13⟩ := hp13.loc
  obtain ⟨hc, xc, hhc, hxc, Sc, cc, nc⟩ := I13.row_at lh13
  rw [r.two_a hrow] at hxc; cases hxc
  have ehc : hc = ha := by
    have : (g1.hs.set (2 * k + 1) (q11, 0 + (hb.2.1 - 1), c11))[2 * k]? = some hc := hhc
    rw [List.getElem?_set_ne (by omega), hha] at this
    exact (Option.some.inj this).symm
  subst ehc
  have bnew : ¬ some w8.heap.size = qB hc.1 := fun e => by have := (Sa.lt e.symm).1; omega
  refine ⟨fun x => x.block < V.heap.size ∧ ¬ some x.block = qB hc.1, onPtr_mk ⟨_, _, _, ⟨cell_some cc, I13.loc_ne lh13 Sc⟩, cc, _, _, _, fun j _ => ?_, B13.reads0, I13.push (Q' := Q) (by omega) lh13 hhc (r.two_a hrow) (by omega) rfl fun w16 g16 I16 st16 hg16 c16 => ?_⟩⟩
  · show (Addr.add _ _).block < _ ∧ ¬ some (Addr.add _ _).block = _
    rw [add_block]; exact ⟨B13.lt, bnew⟩
  rw [r.put_a] at I16
  have pW := cell_some ca
  have B16 := c16.blk B13 (fun e => by rcases e with e | e; · exact bnew e
                                       · omega)
  have A16 := A13.chg st16.chg fun x hx ho => by
    obtain ⟨cs, B⟩ := A13.blk hx
    exact I13.not_own B (by decide) ho
  refine ⟨_, (B16.cell 0).trans rfl, newBox fun w17 B17 k17 z17 => ?_⟩
  have hwl : l4 ≤ (passW acc ys).1.length - 1 ∧ 1 ≤ (passW acc ys).1.length := by
    rw [← e1, hps, List.length_append, List.length_cons]; omega
  have lW : (passW acc ys).1.length ≤ Q := Nat.le_trans (passW_len ys acc) (h.len hx1)
  have st716 := (st7.trans st13).trans st16
  obtain ⟨q14, c14, w18, hrun18, A18, k18, _, _⟩ := (A16.chgN k17).append1 (t := 35) (ty := 35) (x := s.1) elemInt B17 (by simp only [maxLen]; omega) (by show (l4 + 1) * 8 ≤ _; omega) (by have := st716.chg.size; have := k17.size; omega)
  obtain ⟨hd16, hg16⟩ := hg16
  have k1618 : Chg (fun b => some b = qB q4) w16 w18 := (k17.of_none _).trans k18
  refine ⟨q14, l4 + 1, c14, w18, hrun18, ⟨wk ++ [s.1], g16, a ++ [s], bt, A18, (I16.chgN k17).chg k18 fun x hx ho => ?_, ⟨st716.chg.trans' k1618 fun x hx => .inr (A16.lt hx.symm).2, st716.grow⟩, ?_, ?_, ?_⟩, ?_⟩
  · obtain ⟨cs, B⟩ := (A16.chgN k17).blk hx.symm
    exact (I16.chgN k17).not_own B (by decide) ho
  · subst hg16; exact hp7
  · rw [← e1, hps]; simp
  · rw [← e2, hps]
  · show (passW acc ys).1.length - (l4 + 1) < (passW acc ys).1.length - l4
    omega
end
end Full
end Go.Proofs.Ytibpbbjlecohiaa
set_option maxRecDepth 20000
namespace Go.Proofs.Ytibpbbjlecohiaa
namespace Full
open Go Go.Vc Go.RowKit
/-! # what is asked of the document, and its calls -/
section
variable {w w' : World} {base Q o : Nat} {g : GR} {r : R8}
theorem InvR.thing (h : InvR w base Q o g r) {k : Nat} {p : Addr} (hp : At g r k p) : ∃ hh hq : Hd, reads w p [.slice hh.1 hh.2.1 hh.2.2, .slice hq.1 hq.2.1 hq.2.2] ∧ SE En.w3 w base 158 hh.1 hh.2.1 hh.2.2 (r.row (2 * k)) ∧ SE En.w3 w base 158 hq.1 hq.2.1 hq.2.2 (r.row (2 * k + 1)) := by
  obtain ⟨lh, lq⟩ := hp.loc
  obtain ⟨h0, xs, hh0, hx0, S0, c0, n0⟩ := h.row_at lh
  obtain ⟨h1, ys, hh1, hx1, S1, c1, n1⟩ := h.row_at lq
  exact ⟨h0, h1, reads2 c0 c1, by rw [R8.row_of hx0]; exact S0, by rw [R8.row_of hx1]; exact S1⟩
theorem InvR.mat (h : InvR w base Q o g r) {n : Nat} (hn : n < r.M) : ∃ a, g.qm = some a ∧ At g r n (a.add (n * 2)) := by
  obtain ⟨a, _, ha, _⟩ := h.mx.re.ex (i := 0) (by omega)
  exact ⟨a, ha, .inl ⟨hn, a, ha, rfl⟩⟩
theorem InvR.lat (h : InvR w base Q o g r) {n : Nat} (hn : n < r.L) : ∃ a, g.q2 = some a ∧ At g r (r.M + n) (a.add (n * 2)) := by
  obtain ⟨a, _, ha, _⟩ := h.lk.re.ex (i := 0) (by omega)
  exact ⟨a, ha, .inr ⟨n, hn, rfl, a, ha, rfl⟩⟩
theorem InvR.cat (h : InvR w base Q o g r) {n : Nat} (hn : n < r.C) : ∃ a, g.q3 = some a ∧ Loc g r (2 * (r.M + r.L) + n) (a.add n) := by
  obtain ⟨a, _, ha, _⟩ := h.cd.re.ex (i := 0) (by omega)
  exact ⟨a, ha, .inr (.inr ⟨n, hn, rfl, a, ha, rfl⟩)⟩
theorem InvR.rowLen (h : InvR w base Q o g r) (j : Nat) : (r.row j).length ≤ Q := by
  unfold R8.row
  cases hj : r.rows[j]? with
  | none => exact Nat.zero_le _
  | some x => exact h.len hj
theorem range_yes {p : Nat → Bool} {n k : Nat} (hk : k < n) (h : p k = true) : (List.range n).any p = true := List.any_eq_true.2 ⟨k, List.mem_range.2 hk, h⟩
theorem range_no {p : Nat → Bool} {n : Nat} (h : ∀ k, k < n → p k = false) : (List.range n).any p = false := by
  rw [List.any_eq_false]
  intro k hk
  simp [h k (List.mem_range.1 hk)]
theorem small (h : InvR w base Q o g r) : r.M ≤ maxLen ∧ r.L ≤ maxLen ∧ r.C ≤ maxLen := by
  have a := h.mx.re.len
  have b := h.mx.le
  have hm : ∀ {α : Type} {E : En α} {e : TypeId} {q : Option Addr} {l c : Nat} {xs : List α}, SE E w base e q l c xs → l ≤ maxLen := fun S => by
    rcases S.ex with ⟨_, h1, _⟩ | ⟨_, _, _, _, _, _, h1, h2, _⟩
    · omega
    · omega
  have m1 := hm h.mx
  have m2 := hm h.lk
  have m3 := hm h.cd
  simp only [maxLen] at *
  omega
theorem waits117 (h : InvR w base Q o g r) (hQ : Q ≤ 4398046511104) (t : Int) :
    Calls Try.prog 117 #[.pointer (some (ad o)), .int .i64 t] w (Ret fun v w' => v = .bool (waitsR r t) ∧ Chg none_ w w') := by
  obtain ⟨mM, mL, mC⟩ := small h
  simp only [maxLen] at mM mL mC
  refine f117.calls _ _ ?_
  unfold f117.wp
  refine onPtr_mk ⟨_, _, _, (h.obj.cell0 1).trans rfl, fun x w' => ∃ i : Nat, x = (i : Int) ∧ i ≤ r.M ∧ (∀ k, k < i → hasW (r.row (2 * k + 1)) t = false) ∧ Chg none_ w w', fun x _ => r.M - x.toNat, ⟨0, rfl, Nat.zero_le _, fun k hk => by omega, Chg.refl _ _⟩, ?_⟩
  rintro _ w1 ⟨i, rfl, hi, hin, k1⟩
  refine bc (fun hlt => ?_) fun hge => ?_
  · have hlt : i < r.M := by have := of_decide_eq_true hlt; omega
    have h1 := h.chgN k1
    obtain ⟨a, ha, hp⟩ := h1.mat hlt
    obtain ⟨hh, hq, hr, Sh, Sq⟩ := h1.thing hp
    have lq := Sq.len
    have ll := h1.rowLen (2 * i + 1)
    rw [ha, wrapS (x := (i : Int) + 1) (by omega) (by omega)]
    refine onPtr_mk ⟨by omega, by omega, _, _, _, _, _, _, hr, boxed rfl rfl fun w3 B3 k3 _ => ⟨_, _, _, (B3.cell0 1).trans rfl, Calls.use (has78 (Sq.re.chg k3) (by omega) t) ?_⟩⟩
    rintro _ w4 ⟨rfl, k4⟩
    have kk := (k1.trans k3).trans k4
    refine ⟨_, rfl, bc (fun hb => ⟨?_, kk⟩) fun hb => ⟨⟨i + 1, by omega, hlt, fun k hk => ?_, kk⟩, meas hlt⟩⟩
    · rw [waitsR, range_yes (p := fun k => hasW (r.row (2 * k + 1)) t) hlt hb]; rfl
    · rcases Nat.lt_or_ge k i with h' | h'
      · exact hin k h'
      · have : k = i := by omega
        subst this; exact hb
  have hiM : i = r.M := by have := of_decide_eq_false hge; omega
  subst hiM
  clear hge hi
  have h1 := h.chgN k1
  refine onPtr_mk ⟨_, _, _, (h1.obj.cell0 2).trans rfl, fun x w' => ∃ i : Nat, x = (i : Int) ∧ i ≤ r.L ∧ (∀ k, k < i → hasW (r.row (2 * (r.M + k) + 1)) t = false) ∧ Chg none_ w w', fun x _ => r.L - x.toNat, ⟨0, rfl, Nat.zero_le _, fun k hk => by omega, k1⟩, ?_⟩
  clear h1 k1
  rintro _ w1 ⟨i, rfl, hi, hin2, k1⟩
  refine bc (fun hlt => ?_) fun hge => ?_
  · have hlt : i < r.L := by have := of_decide_eq_true hlt; omega
    have h1 := h.chgN k1
    obtain ⟨a, ha, hp⟩ := h1.lat hlt
    obtain ⟨hh, hq, hr, Sh, Sq⟩ := h1.thing hp
    have lq := Sq.len
    have ll := h1.rowLen (2 * (r.M + i) + 1)
    rw [ha, wrapS (x := (i : Int) + 1) (by omega) (by omega)]
    refine onPtr_mk ⟨by omega, by omega, _, _, _, _, _, _, hr, boxed rfl rfl fun w3 B3 k3 _ => ⟨_, _, _, (B3.cell0 1).trans rfl, Calls.use (has78 (Sq.re.chg k3) (by omega) t) ?_⟩⟩
    rintro _ w4 ⟨rfl, k4⟩
    have kk := (k1.trans k3).trans k4
    refine ⟨_, rfl, bc (fun hb => ⟨?_, kk⟩) fun hb => ⟨⟨i + 1, by omega, hlt, fun k hk => ?_, kk⟩, meas hlt⟩⟩
    · rw [waitsR, range_yes (p := fun k => hasW (r.row (2 * (r.M + k) + 1)) t) hlt hb]; simp
    · rcases Nat.lt_or_ge k i with h' | h'
      · exact hin2 k h'
      · have : k = i := by omega
        subst this; exact hb
  have hiL : i = r.L := by have := of_decide_eq_false hge; omega
  subst hiL
  clear hge hi
  have h1 := h.chgN k1
  refine onPtr_mk ⟨_, _, _, (h1.obj.cell0 3).trans rfl, fun x w' => ∃ i : Nat, x = (i : Int) ∧ i ≤ r.C ∧ (∀ k, k < i → hasW (r.row (2 * (r.M + r.L) + k)) t = false) ∧ Chg none_ w w', fun x _ => r.C - x.toNat, ⟨0, rfl, Nat.zero_le _, fun k hk => by omega, k1⟩, ?_⟩
  clear h1 k1
  rintro _ w1 ⟨i, rfl, hi, hin3, k1⟩
  refine bc (fun hlt => ?_) fun hge => ?_
  · have hlt : i < r.C := by have := of_decide_eq_true hlt; omega
    have h1 := h.chgN k1
    obtain ⟨a, ha, hp⟩ := h1.cat hlt
    obtain ⟨hd, xs, hhd, hxs, S, c0, _⟩ := h1.row_at hp
    have lq := S.len
    have ll := h1.len hxs
    rw [ha, wrapS (x := (i : Int) + 1) (by omega) (by omega)]
    refine onPtr_mk ⟨by omega, by omega, _, _, _, (by rw [Nat.mul_one]; exact c0), Calls.use (has78 S.re (by omega) t) ?_⟩
    rintro _ w4 ⟨rfl, k4⟩
    have kk := k1.trans k4
    refine ⟨_, rfl, bc (fun hb => ⟨?_, kk⟩) fun hb => ⟨⟨i + 1, by omega, hlt, fun k hk => ?_, kk⟩, meas hlt⟩⟩
    · rw [waitsR, range_yes (p := fun k => hasW (r.row (2 * (r.M + r.L) + k)) t) hlt (by rw [R8.row_of hxs]; exact hb)]; simp
    · rcases Nat.lt_or_ge k i with h' | h'
      · exact hin3 k h'
      · have : k = i := by omega
        subst this; rw [R8.row_of hxs]; exact hb
  have hiC : i = r.C := by have := of_decide_eq_false hge; omega
  subst hiC
  exact ⟨by rw [waitsR, range_no hin, range_no hin2, range_no hin3]; rfl, k1⟩
theorem asked101 (h : InvR w base Q o g r) (hQ : Q ≤ 4398046511104) (t : Int) (b : Bool) :
    Calls Try.prog 101 #[.pointer (some (ad o)), .int .i64 t, .bool b] w (Ret fun v w' => v = .int .i64 (askedR r t b) ∧ Chg none_ w w') := by
  refine f101.calls _ _ _ ?_
  unfold f101.wp
  refine onPtr_mk ⟨true, (h.obj.cell 0).trans rfl, bcF rfl (bc (fun h1 => ⟨?_, Chg.refl _ _⟩) fun h1 => bc (fun h2 => ⟨?_, Chg.refl _ _⟩) fun h2 => bc (fun h3 => ⟨?_, Chg.refl _ _⟩) fun h3 => Calls.use (waits117 h hQ t) ?_)⟩
  · rw [askedR, if_pos (.inl (of_decide_eq_true h1))]
  · rw [askedR, if_pos (.inr (of_decide_eq_true h2))]
  · have e1 := of_decide_eq_false h1
    have e2 := of_decide_eq_false h2
    have : b = false := by simpa using h3
    rw [askedR, if_neg (by omega), if_pos this]
  · rintro _ w1 ⟨rfl, k1⟩
    have e1 := of_decide_eq_false h1
    have e2 := of_decide_eq_false h2
    have : b = true := by simpa using h3
    refine ⟨_, rfl, bc (fun hb => ⟨?_, k1⟩) fun hb => ⟨?_, k1⟩⟩
    · rw [askedR, if_neg (by omega), if_neg (by rw [this]; simp), if_pos hb]
    · rw [askedR, if_neg (by omega), if_neg (by rw [this]; simp), if_neg (by rw [hb]; simp)]
theorem inR_pos {n : Int} {k : Nat} (h : 0 ≤ n) : inR n k = decide (n < (k : Int)) := by rw [inR, decide_eq_true h, Bool.true_and]
theorem inR_neg {n : Int} {k : Nat} (h : ¬ 0 ≤ n) : inR n k = false := by rw [inR, decide_eq_false h, Bool.false_and]
theorem asked_in {t n : Int} {k : Nat} (h : askedR r t (inR n k) = 0) : n = (n.toNat : Int) ∧ n.toNat < k := by
  unfold askedR at h
  split at h
  · cases h
  · split at h
    · cases h
    · rename_i hb
      exact inR_nat (by simpa using hb)
theorem inside96 (h : InvR w base Q o g r) (hQ : Q ≤ 4398046511104) (t n : Int) :
    Calls Try.prog 96 #[.pointer (some (ad o)), .int .i64 t, .int .i64 n] w (Ret fun v w' => v = .int .i64 (askedR r t (inR n r.M)) ∧ Chg none_ w w') := by
  refine f96.calls _ _ _ ?_
  unfold f96.wp
  refine bc (fun h1 => onPtr_mk ⟨_, _, _, (h.obj.cell0 1).trans rfl, Calls.use (asked101 h hQ t _) ?_⟩) fun h1 => Calls.use (asked101 h hQ t false) ?_
  · rintro _ w1 ⟨rfl, k1⟩
    exact ⟨_, rfl, by rw [inR_pos (of_decide_eq_true h1)], k1⟩
  · rintro _ w1 ⟨rfl, k1⟩
    exact ⟨_, rfl, by rw [inR_neg (of_decide_eq_false h1)], k1⟩
theorem inside116 (h : InvR w base Q o g r) (hQ : Q ≤ 4398046511104) (t n : Int) :
    Calls Try.prog 116 #[.pointer (some (ad o)), .int .i64 t, .int .i64 n] w (Ret fun v w' => v = .int .i64 (askedR r t (inR n r.L)) ∧ Chg none_ w w') := by
  refine f116.calls _ _ _ ?_
  unfold f116.wp
  refine bc (fun h1 => onPtr_mk ⟨_, _, _, (h.obj.cell0 2).trans rfl, Calls.use (asked101 h hQ t _) ?_⟩) fun h1 => Calls.use (asked101 h hQ t false) ?_
  · rintro _ w1 ⟨rfl, k1⟩
    exact ⟨_, rfl, by rw [inR_pos (of_decide_eq_true h1)], k1⟩
  · rintro _ w1 ⟨rfl, k1⟩
    exact ⟨_, rfl, by rw [inR_neg (of_decide_eq_false h1)], k1⟩
theorem rLock65 (h : InvR w base Q o g r) (hQ : Q ≤ 4398046511104) (t n : Int) :
    Calls Try.prog 65 #[.pointer (some (ad o)), .int .i64 t, .int .i64 n] w (Ret fun v w' => v = .tuple #[.bool (lockR r t n).1, .int .i64 (lockR r t n).2.1] ∧ ∃ g', InvR w' base (Q + 1) o g' (lockR r t n).2.2 ∧ StpR o w g w' g') := by
  refine f65.calls _ _ _ ?_
  unfold f65.wp
  refine Calls.use (inside96 h hQ t n) ?_
  rintro _ w1 ⟨rfl, k1⟩
  have h1 := h.chgN k1
  refine ⟨_, rfl, bc (fun hne => ?_) fun heq => ?_⟩
  · have hne : askedR r t (inR n r.M) ≠ 0 := by simpa using hne
    rw [lockR, if_pos hne]
    exact ⟨rfl, g, h1.up (by omega), StpR.ofN k1⟩
  have heq : askedR r t (inR n r.M) = 0 := by simpa using heq
  obtain ⟨en, hn⟩ := asked_in heq
  obtain ⟨a, ha, hp⟩ := h1.mat hn
  obtain ⟨hh, hq, hr, Sh, Sq⟩ := h1.thing hp
  have ll := h1.rowLen (2 * n.toNat)
  have lS := Sh.len
  have ob := (h1.obj.cell0 1).trans rfl
  rw [lockR, if_neg (by simp [heq])]
  refine onPtr_mk ⟨_, _, _, ob, ?_⟩
  rw [ha]
  refine onPtr_mk ⟨by omega, by omega, _, _, _, _, _, _, hr, Calls.use (held80 Sh.re (by omega) t 0) ?_⟩
  rintro _ w2 ⟨rfl, k2⟩
  have h2 := h1.chgN k2
  refine ⟨_, rfl, bc (fun hb => ?_) fun hb => ?_⟩
  · rw [if_pos hb]
    exact ⟨rfl, g, h2.up (by omega), StpR.ofN (k1.trans k2)⟩
  · rw [if_neg (by rw [hb]; simp)]
    refine onPtr_mk ⟨_, _, _, (h2.obj.cell0 1).trans rfl, ?_⟩
    rw [ha]
    refine onPtr_mk ⟨by omega, by omega, Calls.use (take97 h2 hQ hp (t, 1, 0)) ?_⟩
    rintro _ w3 ⟨rfl, g', I3, st3⟩
    exact ⟨_, rfl, rfl, g', I3, (StpR.ofN (k1.trans k2)).trans st3⟩
theorem rUnlock66 (h : InvR w base Q o g r) (hQ : Q ≤ 4398046511104) (t n : Int) :
    Calls Try.prog 66 #[.pointer (some (ad o)), .int .i64 t, .int .i64 n] w (Ret fun v w' => ∃ q l c, v = .tuple #[.slice q l c, .int .i64 (unlockR r t n).2.1] ∧ WokeR w w' base Q o g q l c (unlockR r t n).1 (unlockR r t n).2.2) := by
  refine f66.calls _ _ _ ?_
  unfold f66.wp
  refine Calls.use (inside96 h hQ t n) ?_
  rintro _ w1 ⟨rfl, k1⟩
  have h1 := h.chgN k1
  refine ⟨_, rfl, bc (fun hne => ?_) fun heq => ?_⟩
  · have hne : askedR r t (inR n r.M) ≠ 0 := by simpa using hne
    rw [unlockR, if_pos hne]
    exact ⟨_, _, _, rfl, SE.nil _ _ _ _, g, h1, StpR.ofN k1⟩
  have heq : askedR r t (inR n r.M) = 0 := by simpa using heq
  obtain ⟨en, hn⟩ := asked_in heq
  obtain ⟨a, ha, hp⟩ := h1.mat hn
  obtain ⟨hh, hq, hr, Sh, Sq⟩ := h1.thing hp
  have ll := h1.rowLen (2 * n.toNat)
  have lS := Sh.len
  rw [unlockR, if_neg (by simp [heq])]
  refine onPtr_mk ⟨_, _, _, (h1.obj.cell0 1).trans rfl, ?_⟩
  rw [ha]
  refine onPtr_mk ⟨by omega, by omega, _, _, _, _, _, _, hr, Calls.use (held80 Sh.re (by omega) t 0) ?_⟩
  rintro _ w2 ⟨rfl, k2⟩
  have h2 := h1.chgN k2
  refine ⟨_, rfl, bc (fun hb => ?_) fun hb => ?_⟩
  · rw [if_pos (by simpa using hb)]
    exact ⟨_, _, _, rfl, SE.nil _ _ _ _, g, h2, StpR.ofN (k1.trans k2)⟩
  · rw [if_neg (by simpa using hb)]
    refine onPtr_mk ⟨_, _, _, (h2.obj.cell0 1).trans rfl, ?_⟩
    rw [ha]
    refine onPtr_mk ⟨by omega, by omega, Calls.use (give98 h2 hQ hp t) ?_⟩
    rintro _ w3 ⟨q, l, c, rfl, A3, g', I3, st3⟩
    exact ⟨q, l, c, rfl, q, l, c, rfl, A3.lower (k1.trans k2).size, g', I3, (StpR.ofN (k1.trans k2)).trans st3⟩
theorem rTakeL99 (h : InvR w base Q o g r) (hQ : Q ≤ 4398046511104) (t n kind : Int) :
    Calls Try.prog 99 #[.pointer (some (ad o)), .int .i64 t, .int .i64 n, .int .i64 kind] w (Ret fun v w' => v = .tuple #[.bool (takeLR r t n kind).1, .int .i64 (takeLR r t n kind).2.1] ∧ ∃ g', InvR w' base (Q + 1) o g' (takeLR r t n kind).2.2 ∧ StpR o w g w' g') := by
  refine f99.calls _ _ _ _ ?_
  unfold f99.wp
  refine Calls.use (inside116 h hQ t n) ?_
  rintro _ w1 ⟨rfl, k1⟩
  have h1 := h.chgN k1
  refine ⟨_, rfl, bc (fun hne => ?_) fun heq => ?_⟩
  · have hne : askedR r t (inR n r.L) ≠ 0 := by simpa using hne
    rw [takeLR, if_pos hne]
    exact ⟨rfl, g, h1.up (by omega), StpR.ofN k1⟩
  have heq : askedR r t (inR n r.L) = 0 := by simpa using heq
  obtain ⟨en, hn⟩ := asked_in heq
  obtain ⟨a, ha, hp⟩ := h1.lat hn
  obtain ⟨hh, hq, hr, Sh, Sq⟩ := h1.thing hp
  have ll := h1.rowLen (2 * (r.M + n.toNat))
  have lS := Sh.len
  have ob := (h1.obj.cell0 2).trans rfl
  rw [takeLR, if_neg (by simp [heq])]
  refine onPtr_mk ⟨_, _, _, ob, ?_⟩
  rw [ha]
  refine onPtr_mk ⟨by omega, by omega, _, _, _, _, _, _, hr, Calls.use (held80 Sh.re (by omega) t 0) ?_⟩
  rintro _ w2 ⟨rfl, k2⟩
  have h2 := h1.chgN k2
  refine ⟨_, rfl, bc (fun hb => ?_) fun hb => ?_⟩
  · rw [if_pos hb]
    exact ⟨rfl, g, h2.up (by omega), StpR.ofN (k1.trans k2)⟩
  · rw [if_neg (by rw [hb]; simp)]
    refine onPtr_mk ⟨_, _, _, (h2.obj.cell0 2).trans rfl, ?_⟩
    rw [ha]
    refine onPtr_mk ⟨by omega, by omega, Calls.use (take97 h2 hQ hp (t, kind, 0)) ?_⟩
    rintro _ w3 ⟨rfl, g', I3, st3⟩
    exact ⟨_, rfl, rfl, g', I3, (StpR.ofN (k1.trans k2)).trans st3⟩
theorem rGiveL100 (h : InvR w base Q o g r) (hQ : Q ≤ 4398046511104) (t n kind : Int) :
    Calls Try.prog 100 #[.pointer (some (ad o)), .int .i64 t, .int .i64 n, .int .i64 kind] w (Ret fun v w' => ∃ q l c, v = .tuple #[.slice q l c, .int .i64 (giveLR r t n kind).2.1] ∧ WokeR w w' base Q o g q l c (giveLR r t n kind).1 (giveLR r t n kind).2.2) := by
  refine f100.calls _ _ _ _ ?_
  unfold f100.wp
  refine Calls.use (inside116 h hQ t n) ?_
  rintro _ w1 ⟨rfl, k1⟩
  have h1 := h.chgN k1
  refine ⟨_, rfl, bc (fun hne => ?_) fun heq => ?_⟩
  · have hne : askedR r t (inR n r.L) ≠ 0 := by simpa using hne
    rw [giveLR, if_pos hne]
    exact ⟨_, _, _, rfl, SE.nil _ _ _ _, g, h1, StpR.ofN k1⟩
  have heq : askedR r t (inR n r.L) = 0 := by simpa using heq
  obtain ⟨en, hn⟩ := asked_in heq
  obtain ⟨a, ha, hp⟩ := h1.lat hn
  obtain ⟨hh, hq, hr, Sh, Sq⟩ := h1.thing hp
  have ll := h1.rowLen (2 * (r.M + n.toNat))
  have lS := Sh.len
  rw [giveLR, if_neg (by simp [heq])]
  refine onPtr_mk ⟨_, _, _, (h1.obj.cell0 2).trans rfl, ?_⟩
  rw [ha]
  refine onPtr_mk ⟨by omega, by omega, _, _, _, _, _, _, hr, Calls.use (held80 Sh.re (by omega) t kind) ?_⟩
  rintro _ w2 ⟨rfl, k2⟩
  have h2 := h1.chgN k2
  refine ⟨_, rfl, bc (fun hb => ?_) fun hb => ?_⟩
  · rw [if_pos (by simpa using hb)]
    exact ⟨_, _, _, rfl, SE.nil _ _ _ _, g, h2, StpR.ofN (k1.trans k2)⟩
  · rw [if_neg (by simpa using hb)]
    refine onPtr_mk ⟨_, _, _, (h2.obj.cell0 2).trans rfl, ?_⟩
    rw [ha]
    refine onPtr_mk ⟨by omega, by omega, Calls.use (give98 h2 hQ hp t) ?_⟩
    rintro _ w3 ⟨q, l, c, rfl, A3, g', I3, st3⟩
    exact ⟨q, l, c, rfl, q, l, c, rfl, A3.lower (k1.trans k2).size, g', I3, (StpR.ofN (k1.trans k2)).trans st3⟩
theorem rRLock67 (h : InvR w base Q o g r) (hQ : Q ≤ 4398046511104) (t n : Int) :
    Calls Try.prog 67 #[.pointer (some (ad o)), .int .i64 t, .int .i64 n] w (Ret fun v w' => v = .tuple #[.bool (takeLR r t n 3).1, .int .i64 (takeLR r t n 3).2.1] ∧ ∃ g', InvR w' base (Q + 1) o g' (takeLR r t n 3).2.2 ∧ StpR o w g w' g') := by
  refine f67.calls _ _ _ ?_
  unfold f67.wp
  refine Calls.use (rTakeL99 h hQ t n 3) ?_
  rintro _ w1 ⟨rfl, h1⟩
  exact ⟨_, _, rfl, rfl, h1⟩
theorem rRUnlock68 (h : InvR w base Q o g r) (hQ : Q ≤ 4398046511104) (t n : Int) :
    Calls Try.prog 68 #[.pointer (some (ad o)), .int .i64 t, .int .i64 n] w (Ret fun v w' => ∃ q l c, v = .tuple #[.slice q l c, .int .i64 (giveLR r t n 3).2.1] ∧ WokeR w w' base Q o g q l c (giveLR r t n 3).1 (giveLR r t n 3).2.2) := by
  refine f68.calls _ _ _ ?_
  unfold f68.wp
  refine Calls.use (rGiveL100 h hQ t n 3) ?_
  rintro _ w1 ⟨q, l, c, rfl, h1⟩
  exact ⟨_, _, _, _, rfl, q, l, c, rfl, h1⟩
theorem rWLock69 (h : InvR w base Q o g r) (hQ : Q ≤ 4398046511104) (t n : Int) :
    Calls Try.prog 69 #[.pointer (some (ad o)), .int .i64 t, .int .i64 n] w (Ret fun v w' => v = .tuple #[.bool (takeLR r t n 5).1, .int .i64 (takeLR r t n 5).2.1] ∧ ∃ g', InvR w' base (Q + 1) o g' (takeLR r t n 5).2.2 ∧ StpR o w g w' g') := by
  refine f69.calls _ _ _ ?_
  unfold f69.wp
  refine Calls.use (rTakeL99 h hQ t n 5) ?_
  rintro _ w1 ⟨rfl, h1⟩
  exact ⟨_, _, rfl, rfl, h1⟩
theorem rWUnlock70 (h : InvR w base Q o g r) (hQ : Q ≤ 4398046511104) (t n : Int) :
    Calls Try.prog 70 #[.pointer (some (ad o)), .int .i64 t, .int .i64 n] w (Ret fun v w' => ∃ q l c, v = .tuple #[.slice q l c, .int .i64 (giveLR r t n 5).2.1] ∧ WokeR w w' base Q o g q l c (giveLR r t n 5).1 (giveLR r t n 5).2.2) := by
  refine f70.calls _ _ _ ?_
  unfold f70.wp
  refine Calls.use (rGiveL100 h hQ t n 5) ?_
  rintro _ w1 ⟨q, l, c, rfl, h1⟩
  exact ⟨_, _, _, _, rfl, q, l, c, rfl, h1⟩
end
end Full
end Go.Proofs.Ytibpbbjlecohiaa
