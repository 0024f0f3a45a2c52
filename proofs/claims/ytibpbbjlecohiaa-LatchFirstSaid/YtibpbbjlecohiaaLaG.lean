import Derived.Test.YtibpbbjlecohiaaLaF
set_option maxRecDepth 20000
namespace Go.Proofs.Ytibpbbjlecohiaa
open Go Go.Vc Go.RowKit
theorem Inv.chgT {w w' : World} {base N Q o : Nat} {ms : List Mx} {wt : Int → Option W3} (h : Inv w base N Q o ms wt) {S : Nat → Prop} (k : Chg S w w') (hS : ∀ b, S b → ∃ t cs, Blk w b t cs ∧ t ≠ 89 ∧ t ≠ 97 ∧ t ≠ 106) : Inv w' base N Q o ms wt := by
  obtain ⟨qm, cm, q2, l2, c2, q3, l3, c3, q4, l4, c4, m, n, hs, B, hb, Sm, ho, R, M, hm, hn, hN⟩ := h.ex
  have nb : ∀ {b : Nat} {t : TypeId} {cs : Array Value}, Blk w b t cs → (t = 89 ∨ t = 97 ∨ t = 106) → ¬ S b := fun Bt ht hs => by
    obtain ⟨t', cs', B', h1, h2, h3⟩ := hS _ hs
    rw [Blk, Bt] at B'
    cases B'
    rcases ht with ht | ht | ht
    · exact h1 ht
    · exact h2 ht
    · exact h3 ht
  refine ⟨qm, cm, q2, l2, c2, q3, l3, c3, q4, l4, c4, m, n, hs, k.blk B (nb B (.inl rfl)), hb, Sm.chg k fun g hg => ?_, ho, R.chg k fun x hx g hg => ?_, M.chg k fun hs => ?_, hm, hn, hN⟩
  · obtain ⟨cur, Bg⟩ := Sm.blk hg
    exact nb Bg (.inr (.inl rfl))
  · obtain ⟨i, hi⟩ := List.getElem?_of_mem hx
    obtain ⟨xs, _, s⟩ := R.at' hi
    obtain ⟨cur, Bg⟩ := s.blk hg
    exact nb Bg (.inr (.inr rfl))
  · obtain ⟨t', cs', B', _⟩ := hS _ hs
    exact Mp.ne M B' rfl
structure FI (w0 w : World) (base b o i : Nat) (s : LS) (hds : List Hd) (qs : List (List Int)) : Prop where
  inv : Inv w base i i o s.ms s.wt
  row : SE En.hd w b 35 (some (ad b)) 64 64 hds
  rows : RowsE En.int w b 3 hds qs
  rel : Rel s.ms qs
  len : s.ms.length ≤ 64
  small : ∀ q ∈ qs, q.length ≤ i
  chg : Chg none_ w0 w
theorem FI.step {w0 w w' : World} {base b o i : Nat} {s : LS} {hds : List Hd} {qs : List (List Int)} (h : FI w0 w base b o i s hds qs) (hb : w0.heap.size ≤ base) {s' : LS} (L : LC base w w') (I : Inv w' base (i + 1) (i + 1) o s'.ms s'.wt) (e : ∀ j, qOf s'.ms j = qOf s.ms j) (el : s'.ms.length = s.ms.length) : FI w0 w' base b o (i + 1) s' hds qs :=
  ⟨I, L.se h.row (by decide) (by decide), L.rows h.rows (by decide) (by decide), h.rel.same e, by rw [el]; exact h.len, fun q hq => Nat.le_succ_of_le (h.small q hq), L.chg h.chg hb⟩
theorem FI.chgN {w0 w w' : World} {base b o i : Nat} {s : LS} {hds : List Hd} {qs : List (List Int)} (h : FI w0 w base b o i s hds qs) (k : Chg none_ w w') : FI w0 w' base b o i s hds qs :=
  ⟨h.inv.chgN k, h.row.chgN k, h.rows.chgN k, h.rel, h.len, h.small, h.chg.trans k⟩
theorem FI.up {w0 w : World} {base b o i : Nat} {s : LS} {hds : List Hd} {qs : List (List Int)} (h : FI w0 w base b o i s hds qs) : FI w0 w base b o (i + 1) s hds qs :=
  ⟨h.inv.up (by omega) (by omega), h.row, h.rows, h.rel, h.len, fun q hq => Nat.le_succ_of_le (h.small q hq), h.chg⟩
theorem qB_cutP (q : Option Addr) (c n k : Nat) : qB (cutP q c n k) = qB q := by
  unfold cutP
  split
  · rfl
  · cases q with
    | none => rfl
    | some a => simp [qB, add_block]
theorem first4 {w : World} {q : Option Addr} {l c : Nat} {ops : List OpV} (a1 a2 a3 a4 : Int) (h : RE En.op w q l ops) (hl : l ≤ 4398046511104) :
    Calls Try.prog 4 #[.agg #[.int .i64 a1, .int .i64 a2, .int .i64 a3, .int .i64 a4], .slice q l c] w (Ret fun v w' => v = .bool true ∧ Chg none_ w w') := by
  refine f4.calls _ _ _ _ _ _ _ ?_
  unfold f4.wp
  have hlen := h.len
  refine newBox fun w1 B1 k1 _ => ⟨_, _, _, _, B1.reads0, Calls.use (new17 w1 a1 a2 a3 a4) ?_⟩
  rintro _ w2 (⟨_, rfl, k2⟩ | ⟨hok, o, rfl, I2, k2⟩)
  · refine ⟨_, _, rfl, Calls.use (awake16 w2) ?_⟩
    rintro _ w3 ⟨rfl, k3⟩
    exact ⟨_, rfl, bcF rfl ⟨fun _ _ h => (by cases h), bcF rfl (bcT rfl ⟨rfl, k1.trans (k2.trans k3)⟩)⟩⟩
  refine ⟨_, _, rfl, Calls.use (awake16 w2) ?_⟩
  rintro _ w3 ⟨rfl, k3⟩
  have I3 := I2.chgN k3
  have k13 := k2.trans k3
  have hok1 : okN a1 := hok.1
  have hfl : (free a1.toNat).length ≤ 64 := by simp only [free, List.length_replicate]; have := hok1.2; have := hok1.1; omega
  refine ⟨_, rfl, bcF rfl ⟨ptrOk_none _ _, bcF rfl (bcF rfl ⟨by decide, by decide, by decide, by decide, newBox fun w4 B4 k4 s4 => ?_⟩)⟩⟩
  have S4 : SE En.hd w4 w3.heap.size 35 (some (ad w3.heap.size)) 64 64 (List.replicate 64 ((none, 0, 0) : Hd)) := SE.made (n := 64) (x := ((none, 0, 0) : Hd)) B4 rfl (Nat.le_refl _) (by decide)
  have F4 : FI w1 w4 w1.heap.size w3.heap.size o 0 ⟨free a1.toNat, fun _ => none⟩ (List.replicate 64 (none, 0, 0)) (List.replicate 64 []) := by
    refine ⟨I3.chgN k4, S4, ⟨by simp, fun j x xs hj hx => ?_, fun j j' x x' g hj _ hg _ => ?_⟩, ⟨by simp, fun j hj => ?_⟩, hfl, fun x hx => ?_, k13.trans k4⟩
    · rw [List.eq_of_mem_replicate (List.mem_of_getElem? hj), List.eq_of_mem_replicate (List.mem_of_getElem? hx)]
      exact SE.nil _ _ _ _
    · rw [List.eq_of_mem_replicate (List.mem_of_getElem? hj)] at hg
      simp [qB] at hg
    · have : qOf (free a1.toNat) j = [] := by
        unfold qOf
        cases hf : (free a1.toNat)[j]? with
        | none => rfl
        | some x =>
          rw [free] at hf
          rw [List.eq_of_mem_replicate (List.mem_of_getElem? hf)]; rfl
      rw [this, List.getElem?_replicate, if_pos hj]
    · rw [List.eq_of_mem_replicate hx]; exact Nat.le_refl _
  have hb13 : w1.heap.size ≤ w3.heap.size := k13.size
  refine ⟨fun x w' => ∃ (i : Nat) (s : LS) (hds : List Hd) (qs : List (List Int)), x = i ∧ i ≤ l ∧ FI w1 w' w1.heap.size w3.heap.size o i s hds qs, fun x _ => l - x.toNat, ⟨0, _, _, _, rfl, Nat.zero_le _, F4⟩, ?_⟩
  rintro x w5 ⟨i, s, hds, qs, rfl, hi, F5⟩
  have k05 := k1.trans F5.chg
  refine bc (fun hlt => ?_) (fun hge => ⟨rfl, k05⟩)
  have hi' : i < l := by simpa using hlt
  obtain ⟨a, op, rfl, hop, hr⟩ := (h.chg k05).ex hi'
  rw [wrapS (x := (i : Int) + 1) (by omega) (by omega)]
  refine onPtr_mk ⟨by omega, by omega, _, _, _, _, hr, boxed rfl rfl fun w7 B7 k7 s7 => ?_⟩
  have F7 := F5.chgN k7
  have hms : l - ((i : Int) + 1).toNat < l - ((i : Int)).toNat := meas hi'
  refine ⟨_, (B7.cell0 2).trans rfl, bc (fun hn0 => ⟨⟨i + 1, s, hds, qs, rfl, hi', F7.up⟩, hms⟩) (fun hn0 => ⟨_, (B7.cell0 2).trans rfl, bc (fun hn1 => ⟨⟨i + 1, s, hds, qs, rfl, hi', F7.up⟩, hms⟩) (fun hn1 => ?_)⟩)⟩
  have hn0 := of_decide_eq_false hn0
  have hn1 := of_decide_eq_false hn1
  obtain ⟨n, hn⟩ : ∃ n : Nat, op.n = n := ⟨op.n.toNat, by omega⟩
  have hn64 : n < 64 := by omega
  refine ⟨_, (B7.cell0 3).trans rfl, by decide, bc (fun hm => ?_) (fun hm => ?_)⟩
  · refine ⟨_, (B7.cell 0).trans rfl, _, (B7.cell0 2).trans rfl, Calls.use (lock18 F7.inv (by omega) (by omega) op.task op.n) ?_⟩
    rintro _ w8 ⟨rfl, I8, L8⟩
    obtain ⟨ql, q1, q2⟩ := lock_q s op.task op.n
    have B8 := L8.keep _ _ _ B7 (by decide) (by decide)
    refine ⟨_, _, rfl, fun x2 w' => w8 = w' ∧ (x2 = true ↔ (lockS s op.task op.n).2.1 = 0 ∧ (lockS s op.task op.n).1 = false), ?_, bc (fun h0 => ⟨rfl, ?_⟩) (fun h0 => ⟨rfl, ?_⟩)⟩
    · rintro x2 _ ⟨rfl, hx2⟩
      refine bc (fun hp => ?_) (fun hp => ?_)
      · obtain ⟨_, _, hq⟩ := q1 (hx2.1 hp)
        have hnt : op.n.toNat = n := by omega
        rw [hnt] at hq
        have F8r : SE En.hd w8 w3.heap.size 35 (some (ad w3.heap.size)) 64 64 hds := L8.se F7.row (by decide) (by decide)
        have F8q : RowsE En.int w8 w3.heap.size 3 hds qs := L8.rows F7.rows (by decide) (by decide)
        have k18 := L8.chg F7.chg (Nat.le_refl _)
        have B8' := B8.drew
        have F8r' := F8r.drew
        have F8q' := F8q.chgN (Chg.refl none_ w8).drew
        have k18' := k18.drew
        have I8' := I8.chgN (Chg.refl none_ w8).drew
        generalize w8.drew = W at *
        obtain ⟨hd, hhd⟩ := get_ex (l := hds) (i := n) (by rw [F8r'.len]; exact hn64)
        obtain ⟨xs, hxs, Sq⟩ := F8q'.at' hhd
        have hxq : xs = qOf s.ms n := by
          have := F7.rel.2 n hn64
          rw [hxs] at this
          exact Option.some.inj this
        have hxl := F7.small xs (List.mem_of_getElem? hxs)
        obtain ⟨ar, y, har, hy, hrr⟩ := F8r'.re.ex (i := n) hn64
        cases har
        rw [hhd] at hy; cases hy
        have hcell := reads_one' hrr
        obtain ⟨curR, BR⟩ := F8r'.blk (g := w3.heap.size) rfl
        have b57 : w5.heap.size ≠ w3.heap.size := blk_ne B8' BR (by decide)
        refine ⟨fun p => p.block = w5.heap.size ∨ p.block = w3.heap.size, op.n, .inl (by rw [add_block]), (B8'.cell0 2).trans rfl, op.n, .inl (by rw [add_block]), (B8'.cell0 2).trans rfl, by omega, ?_, hd.1, hd.2.1, hd.2.2, .inr (by rw [add_block]), ?_, op.task, .inl rfl, (B8'.cell 0).trans rfl, newBox fun w10 B10 k10 s10 => ⟨?_, ?_⟩⟩
        · show op.n < ((64 : Nat) : Int)
          omega
        · rw [hn]; exact hcell
        · exact fun p hp => k10.cell (by rcases hp with hp | hp <;> rw [hp] <;> first | exact B8'.lt | exact (F8r'.lt rfl).1) (fun x => x)
        have S10 := Sq.chgN k10
        have hl10 : hd.2.1 = xs.length := Sq.len.symm
        obtain ⟨q', c', w11, hrun, S11, k11, hq11, _⟩ := S10.append1 (t := 35) (ty := 35) (x := op.task) elemInt B10 (by simp only [maxLen]; omega) (by show (hd.2.1 + 1) * 8 ≤ _; omega) (by have := BR.lt; have := k10.size; omega)
        have F10r := F8r'.chgN k10
        have B10o := k10.blk B8' (fun x => x)
        have nB : ∀ {b : Nat} {t : TypeId} {cs : Array Value}, Blk w10 b t cs → t ≠ 3 → ¬ (some b = qB hd.1) := fun Bt ht e => SE.ne S10 Bt ht _ e.symm rfl
        obtain ⟨cur, Brow⟩ := F10r.blk (g := w3.heap.size) rfl
        have F11r : SE En.hd w11 w3.heap.size 35 (some (ad w3.heap.size)) 64 64 hds := F10r.chg k11 fun g hg e => SE.ne2 S10 F10r (by decide) g e.symm hg.symm
        have F11q := (F8q'.chgN k10).set (h1 := (q', hd.2.1 + 1, c')) hhd k11 S11 (hq11.imp id .inl)
        obtain ⟨ar, har, hcan⟩ := F11r.can (i := n) hn64
        cases har
        have hc0 := hcan 0 1 (by decide)
        rw [add_zero'] at hc0
        refine ⟨q', hd.2.1 + 1, c', w11, hrun, ?_, by omega, ?_, ?_, fun w12 e12 => ?_⟩
        · intro p hp
          rw [k11.cell (by rcases hp with hp | hp <;> rw [hp] <;> first | exact B10o.lt | exact Brow.lt) (by rcases hp with hp | hp <;> rw [hp] <;> first | exact nB B10o (by decide) | exact nB Brow (by decide))]
          exact k10.cell (by rcases hp with hp | hp <;> rw [hp] <;> first | exact B8'.lt | exact (F8r'.lt rfl).1) (fun x => x)
        · show op.n < ((64 : Nat) : Int)
          omega
        · rw [hn]; exact hc0
        · rw [hn] at e12
          obtain ⟨S12, k12⟩ := F11r.set (x' := (q', hd.2.1 + 1, c')) rfl (i := n) hn64 e12
          have F12q := F11q.chgS F11r (by decide) k12
          have k1W : Chg none_ w1 W := k18'
          have k111 : Chg none_ w1 w11 := (k1W.trans k10).up k11 fun k hk => by have := (S10.lt hk.symm).2; omega
          have k112 : Chg none_ w1 w12 := k111.up k12 fun k hk => by simp [qB] at hk; omega
          have I12 : Inv w12 w1.heap.size (i + 1) (i + 1) o (lockS s op.task op.n).2.2.ms (lockS s op.task op.n).2.2.wt := by
            refine ((I8'.chgN k10).chgT k11 fun b hb => ?_).chgT k12 fun b hb => ?_
            · obtain ⟨cur, Bg⟩ := S10.blk hb.symm
              exact ⟨3, cur, Bg, by decide, by decide, by decide⟩
            · obtain ⟨cur, Bg⟩ := F11r.blk hb.symm
              exact ⟨35, cur, Bg, by decide, by decide, by decide⟩
          refine ⟨⟨i + 1, (lockS s op.task op.n).2.2, _, _, rfl, hi', ⟨I12, S12, F12q, F7.rel.set hn64 (fun j => by rw [hq j, hxq]; by_cases e : n = j <;> simp [e]), by rw [ql]; exact F7.len, fun z hz => ?_, k112⟩⟩, hms⟩
          rcases List.mem_or_eq_of_mem_set hz with hz | rfl
          · exact Nat.le_succ_of_le (F7.small z hz)
          · simp; omega
      · have hp' : ¬ ((lockS s op.task op.n).2.1 = 0 ∧ (lockS s op.task op.n).1 = false) := fun h => by rw [hx2.2 h] at hp; cases hp
        exact ⟨⟨i + 1, _, hds, qs, rfl, hi', F7.step (Nat.le_refl _) L8 I8 (q2 hp') ql⟩, hms⟩
    · have h0 := eq_of_beq h0
      rw [h0]; simp
    · have h0 := ne_of_beq_false h0
      simp [h0]
  · refine ⟨_, (B7.cell 0).trans rfl, _, (B7.cell0 2).trans rfl, Calls.use (unlock19 F7.inv op.task op.n) ?_⟩
    rintro _ w8 ⟨q3, l3, c3, rfl, hw, I8, L8⟩
    obtain ⟨ul, u1, u2⟩ := unlock_q s op.task op.n
    have B8 := L8.keep _ _ _ B7 (by decide) (by decide)
    have I8' := I8.up (Nat.le_succ i) (Nat.le_succ i)
    refine ⟨_, _, _, _, rfl, bc (fun he => ?_) (fun he => ?_)⟩
    · have he : (unlockS s op.task op.n).2.1 ≠ 0 := by simpa using he
      have es := u1 he
      exact ⟨⟨i + 1, _, hds, qs, rfl, hi', F7.step (Nat.le_refl _) L8 I8' (fun j => by rw [es]) ul⟩, hms⟩
    have he : (unlockS s op.task op.n).2.1 = 0 := by simpa using he
    obtain ⟨_, _, hu⟩ := u2 he
    have hnt : op.n.toNat = n := by omega
    rw [hnt] at hu
    have F8r : SE En.hd w8 w3.heap.size 35 (some (ad w3.heap.size)) 64 64 hds := L8.se F7.row (by decide) (by decide)
    have F8q : RowsE En.int w8 w3.heap.size 3 hds qs := L8.rows F7.rows (by decide) (by decide)
    obtain ⟨hd, hhd⟩ := get_ex (l := hds) (i := n) (by rw [F8r.len]; exact hn64)
    obtain ⟨xs, hxs, Sq⟩ := F8q.at' hhd
    have hxq : xs = qOf s.ms n := by
      have := F7.rel.2 n hn64
      rw [hxs] at this
      exact Option.some.inj this
    have hxl := F7.small xs (List.mem_of_getElem? hxs)
    have hl4 : xs.length = hd.2.1 := Sq.len
    have rd : ∀ {w' : World}, SE En.hd w' w3.heap.size 35 (some (ad w3.heap.size)) 64 64 hds → w'.cell? ((ad w3.heap.size).add (n * 1)) = some (.slice hd.1 hd.2.1 hd.2.2) := fun S' => by
      obtain ⟨ar, y, har, hy, hrr⟩ := S'.re.ex (i := n) hn64
      cases har
      rw [hhd] at hy; cases hy
      exact reads_one' hrr
    refine ⟨op.n, (B8.cell0 2).trans rfl, by omega, ?_, hd.1, hd.2.1, hd.2.2, ?_, ?_⟩
    · show op.n < ((64 : Nat) : Int)
      omega
    · rw [hnt]; exact rd F8r
    rcases hu with ⟨h1, h2, h3⟩ | ⟨x, xs', h1, h2, h3⟩
    · rw [h2] at hw
      have hl3 : l3 = 0 := hw.len.symm
      have hl40 : hd.2.1 = 0 := by rw [← hl4, hxq, h1]; rfl
      refine bcT (by simp [hl40]) (bcF (by simp [hl3]) ⟨⟨i + 1, _, hds, qs, rfl, hi', F7.step (Nat.le_refl _) L8 I8' h3 ul⟩, hms⟩)
    · rw [h2] at hw
      have hl3 : l3 = 1 := hw.len.symm
      subst hl3
      have hxx : xs = x :: xs' := hxq.trans h1
      subst hxx
      simp at hl4
      have k18 := L8.chg F7.chg (Nat.le_refl _)
      obtain ⟨a3, y3, rfl, hy3, hr3⟩ := hw.ex (i := 0) (by decide)
      cases hy3
      obtain ⟨a4, y4, ha4, hy4, hr4⟩ := Sq.re.ex (i := 0) (by omega)
      cases hy4
      obtain ⟨hq, hl', hc'⟩ := hd
      simp only at ha4 hl4
      subst ha4
      refine bcF (by simp; omega) (bcF rfl (onPtr_mk ⟨by decide, by decide, x, reads_one' hr3, onPtr_mk ⟨by decide, by show (0 : Int) < (hl' : Int); omega, x, reads_one' hr4, bcF (by simp) ?_⟩⟩))
      have kd : Chg none_ w8 w8.drew.drew := (Chg.refl none_ w8).drew.drew
      have B8' := kd.blk B8 (fun x => x)
      have F8r' := F8r.chgN kd
      have F8q' := F8q.chgN kd
      have I8d := I8'.chgN kd
      have k18' := k18.trans kd
      generalize w8.drew.drew = W at *
      obtain ⟨ar, har, hcan⟩ := F8r'.can (i := n) hn64
      cases har
      have hc0 := hcan 0 1 (by decide)
      rw [add_zero'] at hc0
      have hle := Sq.le
      simp only at hle
      refine ⟨op.n, (B8'.cell0 2).trans rfl, by decide, by show (1 : Int) ≤ (hl' : Int); omega, by omega, ?_, ?_, fun w14 e14 => ?_⟩
      · show op.n < ((64 : Nat) : Int)
        omega
      · rw [hnt]; exact hc0
      rw [hnt] at e14
      obtain ⟨S14, k14⟩ := F8r'.set (x' := (cutP (some a4) hc' 1 1, hl' - 1, hc' - 1)) rfl (i := n) hn64 e14
      have Sq' := (Sq.chgN kd).cut (n := 1) (by show 1 ≤ hl'; omega)
      have R' := F8q'.set (h1 := (cutP (some a4) hc' 1 1, hl' - 1, hc' - 1)) hhd (Chg.refl _ W) Sq' (.inl (qB_cutP _ _ _ _))
      have R14 := R'.chgS F8r' (by decide) k14
      have k114 : Chg none_ w1 w14 := k18'.up k14 fun k hk => by simp [qB] at hk; omega
      have I14 := I8d.chgT k14 fun b hb => by
        obtain ⟨cur, Bg⟩ := F8r'.blk hb.symm
        exact ⟨35, cur, Bg, by decide, by decide, by decide⟩
      refine ⟨⟨i + 1, (unlockS s op.task op.n).2.2, _, _, rfl, hi', ⟨I14, S14, R14, F7.rel.set hn64 (fun j => by rw [h3 j]; rfl), by rw [ul]; exact F7.len, fun z hz => ?_, k114⟩⟩, hms⟩
      rcases List.mem_or_eq_of_mem_set hz with hz | rfl
      · exact Nat.le_succ_of_le (F7.small z hz)
      · simp at hxl ⊢; omega
end Go.Proofs.Ytibpbbjlecohiaa
