import Derived.Test.YtdlbmmodlkmofaaGreatDoorQ7
set_option maxRecDepth 20000
namespace Go.Proofs.YtdlbmmodlkmofaaGreatDoor
open Go Go.Vc Go.RowKit
/-! # the reference's line of a fault -/
/-- what a line's reader tells: what it turns was there when the plan was looked at -/
def RdS (base b n : Nat) (fs : List T3) (cs : List Cr) (ws : List ByteArray) (w0 w : World) (v : Value) (w' : World) : Prop :=
  ∃ ok, v = .bool ok ∧ (ok = true → ∃ fs' cs', readF fs cs ws = some (fs', cs') ∧ PO w' base b (n + 1) fs' cs') ∧ (ok = false → readF fs cs ws = none) ∧ Chg (fun k => base ≤ k ∧ k < w0.heap.size) w w'
theorem faultF_at {ws : List ByteArray} (h4 : ws.length = 4) (hw : wAt ws 0 = wFaultW) : faultF ws = (wix wOp (wAt ws 1) 0).bind fun a => (numF (wAt ws 2).data.toList).bind fun n => (wix wFault (wAt ws 3) 0).map fun k => ((a : Int), (n : Int), (k : Int)) := by
  rw [faultF, if_pos ⟨h4, hw⟩]
  cases wix wOp (wAt ws 1) 0 <;> cases numF (wAt ws 2).data.toList <;> cases wix wFault (wAt ws 3) 0 <;> rfl
theorem faultLine32 {w0 w : World} {base b n : Nat} {fs : List T3} {cs : List Cr} (P : PO w0 base b n fs cs) (k0 : Chg none_ w0 w) (hn : n ≤ 1000000) {q : Option Addr} {l c : Nat} {ws : List ByteArray} (W1 : RE En.str w q l ws) (hw : wAt ws 0 = wFaultW) :
    Calls Tryz.prog 32 #[.slice q l c, .pointer (some (ad b))] w (Ret (RdS base b n fs cs ws w0 w)) := by
  refine f32.calls _ _ _ _ ?_
  unfold f32.wp
  have hlen := W1.len
  obtain ⟨q1, l1, c1, q2, l2, c2, hs', B0, S0, T0, hl, ho0, hap⟩ := P.ex
  have B1 := k0.blk B0 (fun x => x)
  have S1 := S0.chgN k0
  have T1 := T0.chgN k0
  have ho : ∀ (i : Nat) (h : CrH) (c : Cr), hs'[i]? = some h → cs[i]? = some c → h.step = c.step ∧ h.rest = c.rest ∧ SE En.t3 w base 43 h.q h.l h.c c.fates := fun i h c hh hc => ⟨(ho0 i h c hh hc).1, (ho0 i h c hh hc).2.1, (ho0 i h c hh hc).2.2.chgN k0⟩
  have e1 := S1.len
  have e2 := T1.len
  have nf := P.nf
  have nc := P.nc
  have hb := P.hb
  have hb1 : b < w.heap.size := B1.lt
  refine bc (fun hne => ⟨false, rfl, (fun h => by cases h), fun _ => ?_, Chg.refl _ _⟩) fun heq => onPtr_mk ⟨_, _, _, (B1.cell0 1).trans rfl, bc (fun hgt => ⟨false, rfl, (fun h => by cases h), fun _ => ?_, Chg.refl _ _⟩) fun hle => ?_⟩
  · have hne : l ≠ 4 := by simp at hne; omega
    rw [read_fault hw, faultF, if_neg (by omega)]
  · have hgt : 0 < l2 := by have := of_decide_eq_true hgt; omega
    rw [read_fault hw]
    cases faultF ws with
    | none => rfl
    | some f => simp only; rw [if_neg (by omega)]
  have heq : l = 4 := by simp at heq; omega
  have hle : l2 = 0 := by have := of_decide_eq_false hle; omega
  have hcs0 : cs = [] := List.eq_nil_of_length_eq_zero (by omega)
  refine boxed rfl rfl fun w2 X2 k2 s2 => ?_
  refine ⟨fun x w' => ∃ i : Nat, x = ((i + 1 : Nat) : Int) ∧ i ≤ 4 ∧ Blk w' w.heap.size 41 #[iv ((opR (wAt ws 1) i : Nat) : Int), iv 0, iv 0] ∧ Chg none_ w w', fun x _ => 5 - x.toNat, ⟨0, rfl, Nat.zero_le _, X2, k2⟩, ?_⟩
  rintro _ w3 ⟨i, rfl, hi, X3, k3⟩
  refine bc (fun hlt => ?_) fun hge => ?_
  · have hi4 : i < 4 := by have := of_decide_eq_true hlt; omega
    have k3d : Chg none_ w w3.drew := k3.drew
    obtain ⟨a, rfl, r1, b1⟩ := rdW (W1.chg k3d) (i := 1) (by omega)
    refine ⟨fun p => p.block < w3.drew.heap.size, onPtr_mk ⟨by decide, by rw [heq]; decide, _, b1, r1, Calls.use (opName22 (w := w3.drew) (by omega) (by omega)) ?_⟩⟩
    rintro _ w4 ⟨rfl, k4⟩
    have X4 := k4.blk X3.drew (fun x => x)
    have k04 := k3d.trans k4
    have ew : IntKind.wrap .i64 (((i + 1 : Nat) : Int) + 1) = ((i + 1 + 1 : Nat) : Int) := by rw [wrapS (by omega) (by omega)]; omega
    refine ⟨_, rfl, k4.keeps, bc (fun h => ⟨X4.canStore0 (o := 0) (n := 1) (by show 0 + 1 ≤ 3; decide), fun w5 e5 => ?_⟩) fun h => ?_⟩
    · obtain ⟨X5, k5⟩ := X4.put0 e5
      rw [ew]
      refine ⟨⟨i + 1, rfl, by omega, ?_, k04.up k5 fun k hk => by rw [hk]; exact Nat.le_refl _⟩, by show 5 - ((i + 1 + 1 : Nat) : Int).toNat < 5 - ((i + 1 : Nat) : Int).toNat; omega⟩
      rw [opR, if_pos (ba_eq h)]; exact X5
    · rw [ew]
      refine ⟨⟨i + 1, rfl, by omega, ?_, k04⟩, by show 5 - ((i + 1 + 1 : Nat) : Int).toNat < 5 - ((i + 1 : Nat) : Int).toNat; omega⟩
      rw [opR, if_neg (ba_ne h)]; exact X4
  have hi4 : i = 4 := by have := of_decide_eq_false hge; omega
  subst hi4
  rw [opR_wix] at X3
  obtain ⟨a, rfl, r2, _⟩ := rdW (W1.chg k3) (i := 2) (by omega)
  refine onPtr_mk ⟨by decide, by rw [heq]; decide, _, r2, Calls.use (number57 (wAt ws 2) w3) ?_⟩
  rintro _ w6 ⟨rfl, k6⟩
  have X6 := k6.blk X3 (fun x => x)
  have k06 := k3.trans k6
  generalize hN : numF (wAt ws 2).data.toList = N
  generalize hO : wix wOp (wAt ws 1) 0 = O at X6
  refine ⟨_, _, rfl, X6.canStore0 (o := 1) (n := 1) (by show 1 + 1 ≤ 3; decide), fun w7 e7 => ?_⟩
  obtain ⟨X7, k7⟩ := X6.put e7
  have k07 : Chg none_ w w7 := k06.up k7 fun k hk => by rw [hk]; exact Nat.le_refl _
  obtain ⟨_, e, r3, _⟩ := rdW (W1.chg k07) (i := 3) (by omega)
  cases e
  refine ⟨fun w' => ∃ k : Nat, k = (if wAt ws 3 = bs [99, 108, 101, 97, 110] then 1 else 0) ∧ Blk w' w.heap.size 41 #[iv ((O.getD 0 : Nat) : Int), iv ((N.getD 0 : Nat) : Int), iv (k : Int)] ∧ Chg none_ w w', ?_, ?_⟩
  rotate_left
  · refine onPtr_mk ⟨by decide, by rw [heq]; decide, _, r3, bc (fun h => ⟨X7.canStore0 (o := 2) (n := 1) (by show 2 + 1 ≤ 3; decide), fun w9 e9 => ?_⟩) fun h => ⟨0, (if_neg (ba_ne h)).symm, X7, k07⟩⟩
    obtain ⟨X9, k9⟩ := X7.put e9
    exact ⟨1, (if_pos (ba_eq h)).symm, X9, k07.up k9 fun k hk => by rw [hk]; exact Nat.le_refl _⟩
  rintro w8 ⟨k1, hk1, X8, k08⟩
  obtain ⟨_, e, r3, _⟩ := rdW (W1.chg k08) (i := 3) (by omega)
  cases e
  refine ⟨fun w' => Blk w' w.heap.size 41 #[iv ((O.getD 0 : Nat) : Int), iv ((N.getD 0 : Nat) : Int), iv ((kdR (wAt ws 3) : Nat) : Int)] ∧ Chg none_ w w', ?_, ?_⟩
  rotate_left
  · refine onPtr_mk ⟨by decide, by rw [heq]; decide, _, r3, bc (fun h => ⟨X8.canStore0 (o := 2) (n := 1) (by show 2 + 1 ≤ 3; decide), fun w9 e9 => ?_⟩) fun h => ⟨?_, k08⟩⟩
    · obtain ⟨X9, k9⟩ := X8.put e9
      refine ⟨?_, k08.up k9 fun k hk => by rw [hk]; exact Nat.le_refl _⟩
      rw [kdR, if_pos (ba_eq h)]; exact X9
    · rw [kdR, if_neg (ba_ne h), ← hk1]; exact X8
  rintro w10 ⟨X10, k010⟩
  rw [kdR_wix] at X10
  generalize hK : wix wFault (wAt ws 3) 0 = K at X10
  have kd : Chg none_ w w10.drew := k010.drew
  have Bd := kd.blk B1 (fun x => x)
  have Sd := S1.chgN kd
  have X10d := X10.drew
  refine ⟨fun p => p.block = b ∨ p.block = w.heap.size, onPtr_mk ⟨_, _, _, .inl rfl, (Bd.cell 0).trans rfl, _, _, _, (fun j _ => .inr (add_block _ _)), X10d.reads0, newBox fun w5 B5 k5 s5 => ?_⟩⟩
  obtain ⟨q4, c4, w6', hrun, S6, k6', hq, _⟩ := (Sd.chgN k5).append1 (t := 24) (ty := 24) (x := (((O.getD 0 : Nat) : Int), ((N.getD 0 : Nat) : Int), ((K.getD 0 : Nat) : Int))) elemFault B5 (by simp only [maxLen]; omega) (by show (l1 + 1) * 24 ≤ _; omega) (by have h1 := kd.size; have h2 := k5.size; omega)
  have B5b := k5.blk Bd (fun x => x)
  have B6 := k6'.blk B5b (fun e => noS (Sd.chgN k5) (by decide) e B5b)
  have nX : some w.heap.size ≠ qB q1 := fun e => by have := (S1.lt e.symm).1; omega
  have X5 := k5.blk X10d (fun x => x)
  have X6 := k6'.blk X5 nX
  have ke5 : Keeps (fun p => p.block = b ∨ p.block = w.heap.size) w10.drew w5 := fun p hp => k5.cell (by rcases hp with hp | hp <;> rw [hp]; exact Bd.lt; exact X10d.lt) (fun x => x)
  have ke6 : Keeps (fun p => p.block = b ∨ p.block = w.heap.size) w10.drew w6' := fun p hp => (k6'.cell (by rcases hp with hp | hp <;> rw [hp]; exact B5b.lt; exact X5.lt) (by
    rcases hp with hp | hp <;> rw [hp]
    · exact fun e => noS (Sd.chgN k5) (by decide) e B5b
    · exact nX)).trans (ke5 p hp)
  refine ⟨ke5, q4, l1 + 1, c4, w6', hrun, ke6, onPtr_mk ⟨B6.canStore0 (o := 0) (n := 1) (by show 0 + 1 ≤ 2; decide), fun w7' e7' => ?_⟩⟩
  obtain ⟨B7, k7'⟩ := B6.put0 e7'
  have X7' := k7'.blk X6 (fun e => by have : w.heap.size = b := e; omega)
  have kk : Chg (fun k => base ≤ k ∧ k < w0.heap.size) w w7' := ((kd.of_none _).trans' (k5.of_none _) fun i h => .inl h).trans' k6' (fun i h => .inl ⟨(S0.lt h.symm).2, (S0.lt h.symm).1⟩) |>.trans' k7' fun i h => .inl (by rw [h]; exact ⟨hb, B0.lt⟩)
  have PF : PO w7' base b (n + 1) (fs ++ [(((O.getD 0 : Nat) : Int), ((N.getD 0 : Nat) : Int), ((K.getD 0 : Nat) : Int))]) cs := by
    refine ⟨⟨q4, l1 + 1, c4, q2, l2, c2, hs', B7, S6.chg k7' fun g hg he => ?_, ?_, hl, ?_, hap⟩, hb, by simp; omega, by omega, fun c hc => by have := P.nt c hc; omega⟩
    · obtain ⟨cs', B'⟩ := SE.blk S6 hg
      rw [he] at B'
      exact absurd (B'.type B6).1 (by decide)
    · have T5 := ((T1.chgN kd).chgN k5)
      have T6 := T5.chg k6' fun g hg he => (by obtain ⟨cs', B'⟩ := SE.blk T5 hg; exact noS (Sd.chgN k5) (by decide) he B')
      exact T6.chg k7' fun g hg he => (by obtain ⟨cs', B'⟩ := SE.blk T6 hg; rw [he] at B'; exact absurd (B'.type B6).1 (by decide))
    · intro i h c hh hc'
      have := get_lt hh
      omega
  have hF : faultF ws = O.bind fun a => N.bind fun n => K.map fun k => ((a : Int), (n : Int), (k : Int)) := by rw [faultF_at (by omega) hw, hO, hN, hK]
  have no : faultF ws = none → readF fs cs ws = none := fun h => by rw [read_fault hw, h]
  cases N with
  | none => exact bcF rfl ⟨false, rfl, (fun h => by cases h), (fun _ => no (by rw [hF]; cases O <;> rfl)), kk⟩
  | some nn =>
    refine bcT rfl ⟨_, (X7'.cell 0).trans rfl, ?_⟩
    cases O with
    | none => exact bcF rfl ⟨false, rfl, (fun h => by cases h), (fun _ => no hF), kk⟩
    | some oo =>
      have hoo := wix_pos hO
      refine bcT (by simp; omega) ⟨_, (X7'.cell0 2).trans rfl, ?_⟩
      cases K with
      | none => exact ⟨false, rfl, (fun h => by cases h), (fun _ => no hF), kk⟩
      | some kk' =>
        have hkk := wix_pos hK
        refine ⟨true, by simp; omega, fun _ => ⟨_, _, ?_, PF⟩, (fun h => by cases h), kk⟩
        rw [read_fault hw, hF]
        show (if cs.length = 0 then some (fs ++ [((oo : Int), (nn : Int), (kk' : Int))], cs) else none) = _
        rw [if_pos (by omega)]; rfl
end Go.Proofs.YtdlbmmodlkmofaaGreatDoor
