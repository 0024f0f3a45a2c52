import Derived.Test.YtdlbmmodlkmofaaGreatDoorPzX
set_option maxRecDepth 20000
namespace Go.Proofs.YtdlbmmodlkmofaaGreatDoor
open Go Go.Vc Go.RowKit
theorem noS {α : Type} {E : En α} {w : World} {b0 : Nat} {e t : TypeId} {q : Option Addr} {l c : Nat} {xs : List α} (A : SE E w b0 e q l c xs) (ht : e ≠ t) {b : Nat} {cs : Array Value} (hb : some b = qB q) (Bk : Blk w b t cs) : False := by
  obtain ⟨cs', B'⟩ := SE.blk A hb.symm
  exact ht (B'.type Bk).1
theorem read29 {w : World} {base b n : Nat} {fs : List T3} {cs : List Cr} (P : PO w base b n fs cs) (t : Tm w) (hn : n ≤ 1000000) (s : ByteArray) (hs : s.size < 4294967281) :
    Calls Tryz.prog 29 #[.pointer (some (ad b)), .string s] w (Ret (RdQ base b n fs cs (wordsF s) w)) := by
  refine f29.calls _ _ ?_
  unfold f29.wp
  refine Calls.use (split31 t s hs) ?_
  rintro _ w1 ⟨q0, c0, rfl, W1, k1⟩
  generalize wordsF s = ws at *
  have P1 := P.chgN k1
  obtain ⟨q1, l1, c1, q2, l2, c2, hs', B1, S1, T1, hl, ho, hap⟩ := P1.ex
  have e1 := S1.len
  have e2 := T1.len
  have nf := P.nf
  have nc := P.nc
  have hb := P.hb
  have hb1 : b < w1.heap.size := B1.lt
  refine ⟨_, _, _, rfl, onPtr_mk ⟨_, _, _, (B1.cell0 1).trans rfl, Calls.use (fault52 W1) ?_⟩⟩
  rintro _ w2 ⟨⟨x, y, z, ok, rfl, hok, hno⟩, k2⟩
  refine ⟨_, _, _, _, rfl, boxed rfl rfl fun w4 X4 k4 s4 => ?_⟩
  have k24 := k2.trans k4
  have k04 := k1.trans k24
  cases ok with
  | true =>
    have hF := hok rfl
    have kd : Chg none_ w1 w4.drew := k24.drew
    have Bd := kd.blk B1 (fun x => x)
    have Sd := S1.chgN kd
    have X4d := X4.drew
    have hz2 := k2.size
    refine bcT rfl ⟨fun p => p.block = b ∨ p.block = w2.heap.size, onPtr_mk ⟨_, _, _, .inl rfl, (Bd.cell 0).trans rfl, _, _, _, (fun j _ => .inr (add_block _ _)), X4d.reads0, newBox fun w5 B5 k5 s5 => ?_⟩⟩
    obtain ⟨q4, c4, w6, hrun, S6, k6, hq, _⟩ := (Sd.chgN k5).append1 (t := 24) (ty := 24) (x := (x, y, z)) elemFault B5 (by simp only [maxLen]; omega) (by show (l1 + 1) * 24 ≤ _; omega) (by have h1 := kd.size; have h2 := k5.size; omega)
    have B5b := k5.blk Bd (fun x => x)
    have B6 := k6.blk B5b (fun e => noS (Sd.chgN k5) (by decide) e B5b)
    have nX : some w2.heap.size ≠ qB q1 := fun e => by have := (S1.lt e.symm).1; omega
    have ke5 : Keeps (fun p => p.block = b ∨ p.block = w2.heap.size) w4.drew w5 := fun p hp => k5.cell (by rcases hp with hp | hp <;> rw [hp]; exact Bd.lt; exact X4d.lt) (fun x => x)
    have ke6 : Keeps (fun p => p.block = b ∨ p.block = w2.heap.size) w4.drew w6 := fun p hp => (k6.cell (by rcases hp with hp | hp <;> rw [hp]; exact B5b.lt; exact (k5.blk X4d (fun x => x)).lt) (by
      rcases hp with hp | hp <;> rw [hp]
      · exact fun e => noS (Sd.chgN k5) (by decide) e B5b
      · exact nX)).trans (ke5 p hp)
    refine ⟨ke5, q4, l1 + 1, c4, w6, hrun, ke6, onPtr_mk ⟨B6.canStore0 (o := 0) (n := 1) (by show 0 + 1 ≤ 2; decide), fun w7 e7 => ?_⟩⟩
    obtain ⟨B7, k7⟩ := B6.put0 e7
    have kk : Chg (fun k => base ≤ k) w w7 := (((k1.trans kd).of_none _).trans' (k5.of_none _) fun i h => .inl h).trans' k6 (fun i h => .inl ((Sd.chgN k5).lt h.symm).2) |>.trans' k7 fun i h => .inl (by rw [h]; exact hb)
    refine ⟨_, rfl, fun hc => ?_, fun hc => ?_, kk⟩
    · have hc0 : l2 = 0 := by have : ((l2 : Nat) : Int) = 0 := eq_of_beq hc; omega
      have hcs : cs.length = 0 := by omega
      refine ⟨fs ++ [(x, y, z)], cs, by rw [readF, hF]; simp only; rw [if_pos hcs], ⟨⟨q4, l1 + 1, c4, q2, l2, c2, hs', B7, S6.chg k7 fun g hg he => ?_, ?_, hl, ?_, hap⟩, hb, by simp; omega, by omega, fun c hc => by have := P.nt c hc; omega⟩⟩
      · obtain ⟨cs', B'⟩ := SE.blk S6 hg
        rw [he] at B'
        exact absurd (B'.type B6).1 (by decide)
      · have T5 := ((T1.chgN kd).chgN k5)
        have T6 := T5.chg k6 fun g hg he => (by obtain ⟨cs', B'⟩ := SE.blk T5 hg; exact noS (Sd.chgN k5) (by decide) he B')
        exact T6.chg k7 fun g hg he => (by obtain ⟨cs', B'⟩ := SE.blk T6 hg; rw [he] at B'; exact absurd (B'.type B6).1 (by decide))
      · intro i h c hh hc'
        have := get_lt hh
        omega
    · have hc0 : l2 ≠ 0 := by have : ¬ ((l2 : Nat) : Int) = 0 := ne_of_beq_false hc; omega
      rw [readF, hF]; simp only; rw [if_neg (by omega)]
  | false =>
    have hF := hno rfl
    refine bcF rfl (Calls.use (crash53 (W1.chg k24)) ?_)
    rintro _ w8 ⟨⟨x2, y2, ok, rfl, hok2, hno2⟩, k8⟩
    refine ⟨_, _, _, _, _, _, rfl, boxed rfl rfl fun w10 X10 k10 s10 => ?_⟩
    have k110 := k24.trans (k8.trans k10)
    have hz8 := (k24.trans k8).size
    cases ok with
    | true =>
      have hC := hok2 rfl
      have kd : Chg none_ w1 w10.drew := k110.drew
      have Bd := kd.blk B1 (fun x => x)
      have Td := T1.chgN kd
      have X10d := X10.drew
      refine bcT rfl ⟨fun p => p.block = b ∨ p.block = w8.heap.size, onPtr_mk ⟨_, _, _, .inl rfl, (Bd.cell0 1).trans rfl, _, _, _, _, _, (fun j _ => .inr (add_block _ _)), X10d.reads0, newBox fun w11 B11 k11 s11 => ?_⟩⟩
      obtain ⟨q8, c8, w12, hrun, S12, k12, hq, _⟩ := (Td.chgN k11).append1 (t := 25) (ty := 25) (x := ⟨x2, y2, none, 0, 0⟩) elemCrash B11 (by simp only [maxLen]; omega) (by show (l2 + 1) * 40 ≤ _; omega) (by have h1 := kd.size; have h2 := k11.size; omega)
      have B11b := k11.blk Bd (fun x => x)
      have X11 := k11.blk X10d (fun x => x)
      have nX : some w8.heap.size ≠ qB q2 := fun e => by have := (T1.lt e.symm).1; omega
      have B12 := k12.blk B11b (fun e => noS (Td.chgN k11) (by decide) e B11b)
      have ke5 : Keeps (fun p => p.block = b ∨ p.block = w8.heap.size) w10.drew w11 := fun p hp => k11.cell (by rcases hp with hp | hp <;> rw [hp]; exact Bd.lt; exact X10d.lt) (fun x => x)
      have ke6 : Keeps (fun p => p.block = b ∨ p.block = w8.heap.size) w10.drew w12 := fun p hp => (k12.cell (by rcases hp with hp | hp <;> rw [hp]; exact B11b.lt; exact X11.lt) (by
        rcases hp with hp | hp <;> rw [hp]
        · exact fun e => noS (Td.chgN k11) (by decide) e B11b
        · exact nX)).trans (ke5 p hp)
      refine ⟨ke5, q8, l2 + 1, c8, w12, hrun, ke6, onPtr_mk ⟨B12.canStore0 (o := 1) (n := 1) (by show 1 + 1 ≤ 2; decide), fun w13 e13 => ?_⟩⟩
      obtain ⟨B13, k13⟩ := B12.put e13
      have kk : Chg (fun k => base ≤ k) w w13 := (((k1.trans kd).of_none _).trans' (k11.of_none _) fun i h => .inl h).trans' k12 (fun i h => .inl ((Td.chgN k11).lt h.symm).2) |>.trans' k13 fun i h => .inl (by rw [h]; exact hb)
      have cut : ∀ {α : Type} {E : En α} {e : TypeId} {q : Option Addr} {l c : Nat} {xs : List α}, e ≠ 46 → e ≠ 27 → SE E w1 base e q l c xs → SE E w13 base e q l c xs := fun h46 h27 A => by
        have A5 := (A.chgN kd).chgN k11
        have A6 := A5.chg k12 fun g hg he => (by obtain ⟨cs', B'⟩ := SE.blk A5 hg; exact noS (Td.chgN k11) (Ne.symm h46) he B')
        exact A6.chg k13 fun g hg he => (by obtain ⟨cs', B'⟩ := SE.blk A6 hg; rw [he] at B'; exact absurd (B'.type B12).1 h27)
      refine ⟨_, rfl, fun _ => ⟨fs, cs ++ [⟨x2, y2, []⟩], by rw [readF, hF, hC], ⟨⟨q1, l1, c1, q8, l2 + 1, c8, hs' ++ [⟨x2, y2, none, 0, 0⟩], B13, cut (by decide) (by decide) S1, S12.chg k13 fun g hg he => ?_, by simp [hl], fun i h c hh hc => ?_, fun i j h h' g hh hh' hg hg' => ?_⟩, hb, by omega, by simp; omega, fun c hc => ?_⟩⟩, (fun h => by cases h), kk⟩
      · obtain ⟨cs', B'⟩ := SE.blk S12 hg
        rw [he] at B'
        exact absurd (B'.type B12).1 (by decide)
      · by_cases hi : i < hs'.length
        · rw [List.getElem?_append_left hi] at hh
          rw [List.getElem?_append_left (by omega)] at hc
          obtain ⟨h1, h2, h3⟩ := ho i h c hh hc
          exact ⟨h1, h2, cut (by decide) (by decide) h3⟩
        · rw [List.getElem?_append_right (by omega)] at hh
          rw [List.getElem?_append_right (by omega)] at hc
          have h0 : i - hs'.length = 0 := by have := get_lt hh; simpa using this
          rw [h0] at hh
          rw [← hl, h0] at hc
          cases hh; cases hc
          exact ⟨rfl, rfl, SE.nil _ _ _ _⟩
      · have old : ∀ {i : Nat} {h : CrH}, (hs' ++ [⟨x2, y2, none, 0, 0⟩])[i]? = some h → qB h.q = some g → hs'[i]? = some h := fun {i h} hh hg => by
          by_cases hi : i < hs'.length
          · rw [List.getElem?_append_left hi] at hh; exact hh
          · rw [List.getElem?_append_right (by omega)] at hh
            have h0 : i - hs'.length = 0 := by have := get_lt hh; simpa using this
            rw [h0] at hh
            cases hh
            simp [qB] at hg
        exact hap i j h h' g (old hh hg) (old hh' hg') hg hg'
      · rcases List.mem_append.1 hc with hc | hc
        · have := P.nt c hc; omega
        · rw [List.mem_singleton.1 hc]; simp
    | false =>
      have hC := hno2 rfl
      refine bcF rfl (Calls.use (page54 (W1.chg k110)) ?_)
      rintro _ w14 ⟨⟨x3, y3, z3, ok, rfl, hok3, hno3⟩, k14⟩
      refine ⟨_, _, _, _, rfl, boxed rfl rfl fun w16 X16 k16 s16 => ?_⟩
      have k116 := k110.trans (k14.trans k16)
      have kb : Chg (fun k => base ≤ k) w w16 := (k1.trans k116).of_none _
      cases ok with
      | false =>
        refine bcT rfl ⟨false, rfl, (fun h => by cases h), fun _ => ?_, kb⟩
        rw [readF, hF, hC, hno3 rfl]
      | true =>
        have hG := hok3 rfl
        refine bcF rfl (bc (fun h0 => ⟨false, rfl, (fun h => by cases h), fun _ => ?_, kb⟩) fun h0 => ?_)
        · have h0 : ((l2 : Nat) : Int) = 0 := eq_of_beq h0
          rw [readF, hF, hC, hG]; simp only; rw [if_pos (by omega)]
        have h0 : ¬ ((l2 : Nat) : Int) = 0 := ne_of_beq_false h0
        have hz14 := (k110.trans k14).size
        have kd : Chg none_ w1 w16.drew := k116.drew
        have Bd := kd.blk B1 (fun x => x)
        have Td := T1.chgN kd
        have X16d := X16.drew
        obtain ⟨a, h, rfl, hh, hr⟩ := Td.re.ex (i := l2 - 1) (by omega)
        obtain ⟨c, hc⟩ := get_ex (l := cs) (i := l2 - 1) (by omega)
        obtain ⟨g1, g2, F1⟩ := ho _ h c hh hc
        have hfl := F1.len
        have hct := P.nt c (List.mem_of_getElem? hc)
        have Fd := F1.chgN kd
        have c2' := reads_at hr (i := 2) rfl
        have ew : IntKind.wrap .i64 (((l2 : Nat) : Int) - 1) = ((l2 - 1 : Nat) : Int) := by rw [wrapS (by omega) (by omega)]; omega
        have hab : some a.block = qB (some a) := rfl
        rw [ew]
        refine ⟨fun p => p.block = b ∨ p.block = a.block ∨ p.block = w14.heap.size, onPtr_mk ⟨_, _, _, .inl rfl, (Bd.cell0 1).trans rfl, onPtr_mk ⟨_, _, _, .inl rfl, (Bd.cell0 1).trans rfl, onPtr_mk ⟨by omega, by omega, _, _, _, .inr (.inl (by rw [add_block, add_block])), c2', _, _, _, (fun j _ => .inr (.inr (add_block _ _))), X16d.reads0, newBox fun w17 B17 k17 s17 => ?_⟩⟩⟩⟩
        obtain ⟨q12, c12, w18, hrun, S18, k18, hq, _⟩ := (Fd.chgN k17).append1 (t := 44) (ty := 44) (x := (x3, y3, z3)) elemFate B17 (by simp only [maxLen]; omega) (by show (h.l + 1) * 24 ≤ _; omega) (by have h1 := kd.size; have h2 := k17.size; omega)
        have B17b := k17.blk Bd (fun x => x)
        have X17 := k17.blk X16d (fun x => x)
        have T17 := Td.chgN k17
        obtain ⟨ca, Ba⟩ := SE.blk T17 hab.symm
        obtain ⟨ca', Ba'⟩ := SE.blk Td hab.symm
        have n1 : ¬ some b = qB h.q := fun e => noS (Fd.chgN k17) (by decide) e B17b
        have n2 : ¬ some a.block = qB h.q := fun e => noS (Fd.chgN k17) (by decide) e Ba
        have n3 : ¬ some w14.heap.size = qB h.q := fun e => by have := (F1.lt e.symm).1; omega
        have ke5 : Keeps (fun p => p.block = b ∨ p.block = a.block ∨ p.block = w14.heap.size) w16.drew w17 := fun p hp => k17.cell (by rcases hp with hp | hp | hp <;> rw [hp]; exact Bd.lt; exact Ba'.lt; exact X16d.lt) (fun x => x)
        have ke6 : Keeps (fun p => p.block = b ∨ p.block = a.block ∨ p.block = w14.heap.size) w16.drew w18 := fun p hp => (k18.cell (by rcases hp with hp | hp | hp <;> rw [hp]; exact B17b.lt; exact Ba.lt; exact X17.lt) (by
          rcases hp with hp | hp | hp <;> rw [hp]
          · exact n1
          · exact n2
          · exact n3)).trans (ke5 p hp)
        have T18 := T17.chg k18 fun g hg he => (by
          have : g = a.block := by rw [← hab] at hg; cases hg; rfl
          rw [this] at he; exact n2 he)
        obtain ⟨a', ha', hcan⟩ := T18.can (i := l2 - 1) (by omega)
        cases ha'
        refine ⟨ke5, q12, h.l + 1, c12, w18, hrun, ke6, onPtr_mk ⟨by omega, by omega, hcan 2 1 (by decide), fun w19 e19 => ?_⟩⟩
        obtain ⟨T19, k19⟩ := T18.setAt (i := l2 - 1) (o := 2) (x' := ⟨h.step, h.rest, q12, h.l + 1, c12⟩) (vs := [.slice q12 (h.l + 1) c12]) rfl hh (by show 2 + 1 ≤ 3; decide) (fun j => by rcases j with _ | _ | _ | j <;> rfl) e19
        have kk : Chg (fun k => base ≤ k) w w19 := (((k1.trans kd).of_none _).trans' (k17.of_none _) fun i h => .inl h).trans' k18 (fun i he => .inl ((Fd.chgN k17).lt he.symm).2) |>.trans' k19 fun i he => .inl (T18.lt he.symm).2
        have eS : setLast cs (x3, y3, z3) = cs.set (l2 - 1) ⟨c.step, c.rest, c.fates ++ [(x3, y3, z3)]⟩ := by
          have el : cs.length - 1 = l2 - 1 := by omega
          rw [setLast, el, hc]
        have cut : ∀ {q : Option Addr} {l c : Nat} {xs : List T3} {e : TypeId}, e ≠ 46 → (∀ g, qB q = some g → ¬ some g = qB h.q) → SE En.t3 w1 base e q l c xs → SE En.t3 w19 base e q l c xs := fun h46 hne A => by
          have A5 := (A.chgN kd).chgN k17
          have A6 := A5.chg k18 fun g hg he => hne g hg he
          exact A6.chg k19 fun g hg he => (by obtain ⟨cs', B'⟩ := SE.blk A6 hg; exact noS T18 (Ne.symm h46) he B')
        have B18 := k18.blk B17b n1
        refine ⟨true, rfl, fun _ => ⟨fs, setLast cs (x3, y3, z3), by rw [readF, hF, hC, hG]; simp only; rw [if_neg (by omega)], ⟨⟨q1, l1, c1, some a, l2, c2, _, k19.blk B18 (fun e => noS T18 (by decide) e B18), cut (by decide) (fun g hg he => ?_) S1, T19, by rw [eS]; simp [hl], fun i x y hx hy => ?_, fun i j x x' g hx hx' hg hg' => ?_⟩, hb, by omega, by rw [eS]; simp; omega, fun y hy => ?_⟩⟩, (fun h => by cases h), kk⟩
        · obtain ⟨cs', B'⟩ := SE.blk S1 hg
          exact noS F1 (by decide) he B'
        · rw [eS] at hy
          by_cases hi : i = l2 - 1
          · subst hi
            rw [List.getElem?_set_self (get_lt hh)] at hx
            rw [List.getElem?_set_self (get_lt hc)] at hy
            cases hx; cases hy
            exact ⟨g1, g2, S18.chg k19 fun g hg he => (by obtain ⟨cs', B'⟩ := SE.blk S18 hg; exact noS T18 (by decide) he B')⟩
          · rw [List.getElem?_set_ne (Ne.symm hi)] at hx hy
            obtain ⟨h1, h2, h3⟩ := ho i x y hx hy
            exact ⟨h1, h2, cut (by decide) (fun g hg he => hi (hap i (l2 - 1) x h g hx hh hg he.symm)) h3⟩
        · have old : ∀ {i : Nat} {x : CrH}, i ≠ l2 - 1 → hs'[i]? = some x → qB x.q = some g → qB q12 = some g → False := fun {i x} hi hx hg hg' => by
            rcases hq with hq | hq
            · rw [hq] at hg'; exact hi (hap i (l2 - 1) x h g hx hh hg hg')
            · rw [hq] at hg'
              cases hg'
              obtain ⟨y, hy⟩ := get_ex (l := cs) (i := i) (by have := get_lt hx; omega)
              have h1 := ((ho i x y hx hy).2.2.lt hg).1
              have h2 := kd.size
              have h3 := k17.size
              omega
          by_cases hi : i = l2 - 1 <;> by_cases hj : j = l2 - 1
          · rw [hi, hj]
          · subst hi
            rw [List.getElem?_set_self (get_lt hh)] at hx
            rw [List.getElem?_set_ne (Ne.symm hj)] at hx'
            cases hx
            exact (old hj hx' hg' hg).elim
          · subst hj
            rw [List.getElem?_set_self (get_lt hh)] at hx'
            rw [List.getElem?_set_ne (Ne.symm hi)] at hx
            cases hx'
            exact (old hi hx hg hg').elim
          · rw [List.getElem?_set_ne (Ne.symm hi)] at hx
            rw [List.getElem?_set_ne (Ne.symm hj)] at hx'
            exact hap i j x x' g hx hx' hg hg'
        · rw [eS] at hy
          rcases mem_set hy with rfl | hy
          · simp; omega
          · have := P.nt y hy; omega
end Go.Proofs.YtdlbmmodlkmofaaGreatDoor
