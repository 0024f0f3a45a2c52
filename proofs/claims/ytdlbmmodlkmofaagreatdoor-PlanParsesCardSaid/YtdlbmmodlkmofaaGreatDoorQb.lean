import Derived.Test.YtdlbmmodlkmofaaGreatDoorQ9
set_option maxRecDepth 20000
namespace Go.Proofs.YtdlbmmodlkmofaaGreatDoor
open Go Go.Vc Go.RowKit
/-! # the reference's line of a page -/
theorem pageF_at {ws : List ByteArray} (h3 : 3 ≤ ws.length) (hw : wAt ws 0 = wPageW) : pageF ws = (numF (wAt ws 1).data.toList).bind fun n =>
    if wAt ws 2 = wTorn then (if ws.length = 4 then (numF (wAt ws 3).data.toList).map fun a => ((n : Int), (3 : Int), (a : Int)) else none)
    else if ws.length = 3 then (if wAt ws 2 = wKept then some ((n : Int), (1 : Int), (0 : Int)) else if wAt ws 2 = wLost then some ((n : Int), (2 : Int), (0 : Int)) else none) else none := by
  rw [pageF, if_pos ⟨h3, hw⟩, wix4]
  cases numF (wAt ws 1).data.toList with
  | none => rfl
  | some n =>
    simp only [Option.bind_some]
    by_cases h1 : wAt ws 2 = wKept
    · rw [if_pos h1, if_neg (show ¬ wAt ws 2 = wTorn by rw [h1]; decide), if_pos h1]; rfl
    by_cases h2 : wAt ws 2 = wLost
    · rw [if_neg h1, if_pos h2, if_neg (show ¬ wAt ws 2 = wTorn by rw [h2]; decide), if_neg h1, if_pos h2]; rfl
    rw [if_neg h1, if_neg h2]
    by_cases h3 : wAt ws 2 = wTorn
    · rw [if_pos h3, if_pos h3]
      simp only [if_true]
      split
      · cases numF (wAt ws 3).data.toList <;> rfl
      · rfl
    · rw [if_neg h3, if_neg h3, if_neg h1, if_neg h2]; simp
theorem pageLine34 {w0 w : World} {base b n : Nat} {fs : List T3} {cs : List Cr} (P : PO w0 base b n fs cs) (k0 : Chg none_ w0 w) (hn : n ≤ 1000000) {q : Option Addr} {l c : Nat} {ws : List ByteArray} (W1 : RE En.str w q l ws) (hw : wAt ws 0 = wPageW) :
    Calls Tryz.prog 34 #[.slice q l c, .pointer (some (ad b))] w (Ret (RdS base b n fs cs ws w0 w)) := by
  refine f34.calls _ _ _ _ ?_
  unfold f34.wp
  have hlen := W1.len
  obtain ⟨q1, l1, c1, q2, l2, c2, hs', B0, S0, T0, hl, ho0, hap⟩ := P.ex
  have B1 := k0.blk B0 (fun x => x)
  have S1 := S0.chgN k0
  have T1 := T0.chgN k0
  have ho : ∀ (i : Nat) (h : CrH) (c : Cr), hs'[i]? = some h → cs[i]? = some c → h.step = c.step ∧ h.rest = c.rest ∧ SE En.t3 w base 43 h.q h.l h.c c.fates := fun i h c hh hc => ⟨(ho0 i h c hh hc).1, (ho0 i h c hh hc).2.1, (ho0 i h c hh hc).2.2.chgN k0⟩
  have e1 := S1.len
  have e2 := T1.len
  have nf := P.nf
  have nc := P.nc
  have hb := P.hb
  have hb1 : b < w.heap.size := B1.lt
  refine bc (fun hne => ⟨false, rfl, (fun h => by cases h), fun _ => ?_, Chg.refl _ _⟩) fun heq => onPtr_mk ⟨_, _, _, (B1.cell0 1).trans rfl, bc (fun h0 => ⟨false, rfl, (fun h => by cases h), fun _ => ?_, Chg.refl _ _⟩) fun h0 => ?_⟩
  · have hne : l < 3 := by have := of_decide_eq_true hne; omega
    rw [read_page hw, pageF, if_neg (by omega)]
  · have h0 : ((l2 : Nat) : Int) = 0 := eq_of_beq h0
    rw [read_page hw]
    cases pageF ws with
    | none => rfl
    | some f => simp only; rw [if_pos (by omega)]
  have h3 : 3 ≤ l := by have := of_decide_eq_false heq; omega
  have h0 : ¬ ((l2 : Nat) : Int) = 0 := ne_of_beq_false h0
  obtain ⟨a, rfl, r1, _⟩ := rdW W1 (i := 1) (by omega)
  refine onPtr_mk ⟨by decide, by omega, _, r1, Calls.use (number57 (wAt ws 1) w) ?_⟩
  rintro _ w1 ⟨rfl, k1⟩
  have hP := pageF_at (ws := ws) (by omega) hw
  generalize hN : numF (wAt ws 1).data.toList = N at hP
  refine ⟨_, _, rfl, boxed rfl rfl fun w3 X3 k3 s3 => ?_⟩
  have k03 := k1.trans k3
  have hz1 := k1.size
  have up : ∀ {w4 w5 : World}, Chg none_ w w4 → Chg (fun k => k = w1.heap.size) w4 w5 → Chg none_ w w5 := fun k k' => k.up k' fun i hi => by rw [hi]; exact hz1
  refine ⟨fun w' => Blk w' w1.heap.size 43 #[iv ((N.getD 0 : Nat) : Int), iv (((if l = 3 ∧ wAt ws 2 = wKept then 1 else 0 : Nat) : Nat) : Int), iv 0] ∧ Chg none_ w w', ?_, ?_⟩
  rotate_left
  · refine bc (fun h => ?_) fun h => ⟨?_, k03⟩
    · have h : l = 3 := by simp at h; omega
      obtain ⟨_, e, r2, _⟩ := rdW (W1.chg k03) (i := 2) (by omega)
      cases e
      refine onPtr_mk ⟨by decide, by omega, _, r2, bc (fun h5 => ⟨X3.canStore0 (o := 1) (n := 1) (by show 1 + 1 ≤ 3; decide), fun w5 e5 => ?_⟩) fun h5 => ⟨?_, k03⟩⟩
      · obtain ⟨X5, k5⟩ := X3.put e5
        rw [if_pos ⟨h, ba_eq h5⟩]
        exact ⟨X5, up k03 k5⟩
      · rw [if_neg fun hh => ba_ne h5 hh.2]; exact X3
    · have h : l ≠ 3 := by simp at h; omega
      rw [if_neg fun hh => h hh.1]; exact X3
  rintro w4 ⟨X4, k4⟩
  refine ⟨fun w' => ∃ kk : Nat, kk = (if l = 3 ∧ wAt ws 2 = wLost then 2 else if l = 3 ∧ wAt ws 2 = wKept then 1 else 0) ∧ Blk w' w1.heap.size 43 #[iv ((N.getD 0 : Nat) : Int), iv (kk : Int), iv 0] ∧ Chg none_ w w', ?_, ?_⟩
  rotate_left
  · refine bc (fun h => ?_) fun h => ⟨_, ?_, X4, k4⟩
    · have h : l = 3 := by simp at h; omega
      obtain ⟨_, e, r2, _⟩ := rdW (W1.chg k4) (i := 2) (by omega)
      cases e
      refine onPtr_mk ⟨by decide, by omega, _, r2, bc (fun h5 => ⟨X4.canStore0 (o := 1) (n := 1) (by show 1 + 1 ≤ 3; decide), fun w5 e5 => ?_⟩) fun h5 => ⟨_, ?_, X4, k4⟩⟩
      · obtain ⟨X5, k5⟩ := X4.put e5
        exact ⟨2, (if_pos ⟨h, ba_eq h5⟩).symm, X5, up k4 k5⟩
      · exact (if_neg fun hh => ba_ne h5 hh.2).symm
    · have h : l ≠ 3 := by simp at h; omega
      exact (if_neg fun hh => h hh.1).symm
  rintro w6 ⟨k2', hk2, X6, k6⟩
  refine ⟨fun x w' => ∃ kk at' : Nat, Blk w' w1.heap.size 43 #[iv ((N.getD 0 : Nat) : Int), iv (kk : Int), iv (at' : Int)] ∧ Chg none_ w w' ∧ (x = true → 0 < kk → pageF ws = some (((N.getD 0 : Nat) : Int), (kk : Int), (at' : Int))) ∧ (x = false ∨ kk = 0 → pageF ws = none), ?_, ?_⟩
  rotate_left
  · refine ⟨fun x w' => x = decide (l = 4 ∧ wAt ws 2 = wTorn) ∧ Blk w' w1.heap.size 43 #[iv ((N.getD 0 : Nat) : Int), iv (k2' : Int), iv 0] ∧ Chg none_ w w', ?_, ?_⟩
    rotate_left
    · refine bc (fun h => ?_) fun h => ⟨?_, X6, k6⟩
      · have h : l = 4 := by simp at h; omega
        obtain ⟨_, e, r2, _⟩ := rdW (W1.chg k6) (i := 2) (by omega)
        cases e
        refine onPtr_mk ⟨by decide, by omega, _, r2, ?_, X6, k6⟩
        cases hb5 : ((wAt ws 2).toList == (⟨#[116, 111, 114, 110]⟩ : ByteArray).toList) with
        | true => exact (decide_eq_true ⟨h, ba_eq hb5⟩).symm
        | false => exact (decide_eq_false fun hh => ba_ne hb5 hh.2).symm
      · have h : l ≠ 4 := by simp at h; omega
        exact (decide_eq_false fun hh => h hh.1).symm
    rintro x2 w9 ⟨rfl, X9, k9⟩
    by_cases h4 : l = 4 ∧ wAt ws 2 = wTorn
    · obtain ⟨h4, ht⟩ := h4
      refine bcT (decide_eq_true ⟨h4, ht⟩) ?_
      obtain ⟨_, e, r3, _⟩ := rdW (W1.chg k9) (i := 3) (by omega)
      cases e
      refine onPtr_mk ⟨by decide, by omega, _, r3, Calls.use (number57 (wAt ws 3) w9) ?_⟩
      rintro _ w10 ⟨rfl, k10⟩
      simp only [if_pos ht, if_pos (show ws.length = 4 by omega)] at hP
      generalize hA : numF (wAt ws 3).data.toList = A at hP
      have X10 := k10.blk X9 (fun x => x)
      have k010 := k9.trans k10
      refine ⟨_, _, rfl, X10.canStore0 (o := 1) (n := 1) (by show 1 + 1 ≤ 3; decide), fun w11 e11 => ?_⟩
      obtain ⟨X11, k11⟩ := X10.put e11
      have k011 := up k010 k11
      refine ⟨X11.canStore0 (o := 2) (n := 1) (by show 2 + 1 ≤ 3; decide), fun w12 e12 => ?_⟩
      obtain ⟨X12, k12⟩ := X11.put e12
      have k012 := up k011 k12
      cases N with
      | none => exact bcF rfl ⟨3, A.getD 0, X12, k012, (fun h => by cases h), fun _ => hP⟩
      | some nn =>
        refine bcT rfl ⟨3, A.getD 0, X12, k012, fun hx _ => ?_, fun hx => ?_⟩
        · cases A with
          | none => cases hx
          | some aa => exact hP
        · cases A with
          | none => exact hP
          | some aa => rcases hx with hx | hx <;> cases hx
    · refine bcF (decide_eq_false h4) ⟨k2', 0, X9, k9, fun hx hk => ?_, fun hx => ?_⟩
      · cases N with
        | none => cases hx
        | some nn =>
          rw [hP]
          by_cases g2 : l = 3 ∧ wAt ws 2 = wLost
          · rw [if_pos g2] at hk2
            rw [hk2]
            simp only [Option.bind_some, Option.getD_some]
            rw [if_neg (show ¬ wAt ws 2 = wTorn by rw [g2.2]; decide), if_pos (by omega), if_neg (show ¬ wAt ws 2 = wKept by rw [g2.2]; decide), if_pos g2.2]; rfl
          · rw [if_neg g2] at hk2
            by_cases g1 : l = 3 ∧ wAt ws 2 = wKept
            · rw [if_pos g1] at hk2
              rw [hk2]
              simp only [Option.bind_some, Option.getD_some]
              rw [if_neg (show ¬ wAt ws 2 = wTorn by rw [g1.2]; decide), if_pos (by omega), if_pos g1.2]; rfl
            · rw [if_neg g1] at hk2; omega
      · cases N with
        | none => exact hP
        | some nn =>
          have hk0 : k2' = 0 := by
            rcases hx with hx | hx
            · cases hx
            · exact hx
          rw [hP]
          simp only [Option.bind_some]
          by_cases ht : wAt ws 2 = wTorn
          · rw [if_pos ht, if_neg (by intro h; exact h4 ⟨by omega, ht⟩)]
          · rw [if_neg ht]
            by_cases hl3 : l = 3
            · rw [if_pos (by omega)]
              by_cases g1 : wAt ws 2 = wKept
              · by_cases g2 : wAt ws 2 = wLost
                · rw [if_pos ⟨hl3, g2⟩] at hk2; omega
                · rw [if_neg fun hh => g2 hh.2, if_pos ⟨hl3, g1⟩] at hk2; omega
              · by_cases g2 : wAt ws 2 = wLost
                · rw [if_pos ⟨hl3, g2⟩] at hk2; omega
                · rw [if_neg g1, if_neg g2]
            · rw [if_neg (by omega)]
  rintro x1 w8 ⟨kn, an, X8, k8, hyes, hno⟩
  have kd : Chg none_ w w8.drew.drew := k8.drew.drew
  have Bd := kd.blk B1 (fun x => x)
  have Td := T1.chgN kd
  have X8d : Blk w8.drew.drew w1.heap.size 43 _ := X8.drew.drew
  obtain ⟨a, h, rfl, hh, hr⟩ := Td.re.ex (i := l2 - 1) (by omega)
  obtain ⟨c, hc⟩ := get_ex (l := cs) (i := l2 - 1) (by omega)
  obtain ⟨g1, g2, F1⟩ := ho _ h c hh hc
  have F0 := (ho0 _ h c hh hc).2.2
  have hfl := F1.len
  have hct := P.nt c (List.mem_of_getElem? hc)
  have Fd := F1.chgN kd
  have c2' := reads_at hr (i := 2) rfl
  have ew : IntKind.wrap .i64 (((l2 : Nat) : Int) - 1) = ((l2 - 1 : Nat) : Int) := by rw [wrapS (by omega) (by omega)]; omega
  have hab : some a.block = qB (some a) := rfl
  have Bd8 : Blk w8.drew b 27 _ := (k8.drew).blk B1 (fun x => x)
  refine onPtr_mk ⟨_, _, _, (Bd8.cell0 1).trans rfl, onPtr_mk ⟨_, _, _, (Bd8.cell0 1).trans rfl, ?_⟩⟩
  rw [ew]
  refine onPtr_mk ⟨by omega, by omega, fun p => p.block = a.block ∨ p.block = w1.heap.size, _, _, _, .inl (by rw [add_block, add_block]), c2', _, _, _, (fun j _ => .inr (add_block _ _)), X8d.reads0, newBox fun w17 B17 k17 s17 => ?_⟩
  obtain ⟨q12, c12, w18, hrun, S18, k18, hq, _⟩ := (Fd.chgN k17).append1 (t := 44) (ty := 44) (x := (((N.getD 0 : Nat) : Int), (kn : Int), (an : Int))) elemFate B17 (by simp only [maxLen]; omega) (by show (h.l + 1) * 24 ≤ _; omega) (by have h1 := kd.size; have h2 := k17.size; omega)
  have B17b := k17.blk Bd (fun x => x)
  have X17 := k17.blk X8d (fun x => x)
  have T17 := Td.chgN k17
  obtain ⟨ca, Ba⟩ := SE.blk T17 hab.symm
  obtain ⟨ca', Ba'⟩ := SE.blk Td hab.symm
  have n1 : ¬ some b = qB h.q := fun e => noS (Fd.chgN k17) (by decide) e B17b
  have n2 : ¬ some a.block = qB h.q := fun e => noS (Fd.chgN k17) (by decide) e Ba
  have n3 : ¬ some w1.heap.size = qB h.q := fun e => by have := (F1.lt e.symm).1; omega
  have ke5 : Keeps (fun p => p.block = a.block ∨ p.block = w1.heap.size) w8.drew.drew w17 := fun p hp => k17.cell (by rcases hp with hp | hp <;> rw [hp]; exact Ba'.lt; exact X8d.lt) (fun x => x)
  have ke6 : Keeps (fun p => p.block = a.block ∨ p.block = w1.heap.size) w8.drew.drew w18 := fun p hp => (k18.cell (by rcases hp with hp | hp <;> rw [hp]; exact Ba.lt; exact X17.lt) (by
    rcases hp with hp | hp <;> rw [hp]
    · exact n2
    · exact n3)).trans (ke5 p hp)
  have T18 := T17.chg k18 fun g hg he => (by
    have : g = a.block := by rw [← hab] at hg; cases hg; rfl
    rw [this] at he; exact n2 he)
  have X18 := k18.blk X17 n3
  obtain ⟨a', ha', hcan⟩ := T18.can (i := l2 - 1) (by omega)
  cases ha'
  refine ⟨ke5, q12, h.l + 1, c12, w18, hrun, ke6, hcan 2 1 (by decide), fun w19 e19 => ?_⟩
  obtain ⟨T19, k19⟩ := T18.setAt (i := l2 - 1) (o := 2) (x' := ⟨h.step, h.rest, q12, h.l + 1, c12⟩) (vs := [.slice q12 (h.l + 1) c12]) rfl hh (by show 2 + 1 ≤ 3; decide) (fun j => by rcases j with _ | _ | _ | j <;> rfl) e19
  have X19 := k19.blk X18 (fun e => noS T18 (by decide) e X18)
  have kk : Chg (fun k => base ≤ k ∧ k < w0.heap.size) w w19 := ((kd.of_none _).trans' (k17.of_none _) fun i h => .inl h).trans' k18 (fun i he => .inl ⟨(F0.lt he.symm).2, (F0.lt he.symm).1⟩) |>.trans' k19 fun i he => .inl ⟨(T0.lt he.symm).2, (T0.lt he.symm).1⟩
  have eS : setLast cs (((N.getD 0 : Nat) : Int), (kn : Int), (an : Int)) = cs.set (l2 - 1) ⟨c.step, c.rest, c.fates ++ [(((N.getD 0 : Nat) : Int), (kn : Int), (an : Int))]⟩ := by
    have el : cs.length - 1 = l2 - 1 := by omega
    rw [setLast, el, hc]
  have cut : ∀ {q : Option Addr} {l c : Nat} {xs : List T3} {e : TypeId}, e ≠ 46 → (∀ g, qB q = some g → ¬ some g = qB h.q) → SE En.t3 w base e q l c xs → SE En.t3 w19 base e q l c xs := fun h46 hne A => by
    have A5 := (A.chgN kd).chgN k17
    have A6 := A5.chg k18 fun g hg he => hne g hg he
    exact A6.chg k19 fun g hg he => (by obtain ⟨cs', B'⟩ := SE.blk A6 hg; exact noS T18 (Ne.symm h46) he B')
  have B18 := k18.blk B17b n1
  have PG : PO w19 base b (n + 1) fs (setLast cs (((N.getD 0 : Nat) : Int), (kn : Int), (an : Int))) := by
    refine ⟨⟨q1, l1, c1, some a, l2, c2, _, k19.blk B18 (fun e => noS T18 (by decide) e B18), cut (by decide) (fun g hg he => ?_) S1, T19, by rw [eS]; simp [hl], fun i x y hx hy => ?_, fun i j x x' g hx hx' hg hg' => ?_⟩, hb, by omega, by rw [eS]; simp; omega, fun y hy => ?_⟩
    · obtain ⟨cs', B'⟩ := SE.blk S1 hg
      exact noS F1 (by decide) he B'
    · rw [eS] at hy
      by_cases hi : i = l2 - 1
      · subst hi
        rw [List.getElem?_set_self (get_lt hh)] at hx
        rw [List.getElem?_set_self (get_lt hc)] at hy
        cases hx; cases hy
        exact ⟨g1, g2, S18.chg k19 fun g hg he => (by obtain ⟨cs', B'⟩ := SE.blk S18 hg; exact noS T18 (by decide) he B')⟩
      · rw [List.getElem?_set_ne (Ne.symm hi)] at hx hy
        obtain ⟨h1, h2, h3⟩ := ho i x y hx hy
        exact ⟨h1, h2, cut (by decide) (fun g hg he => hi (hap i (l2 - 1) x h g hx hh hg he.symm)) h3⟩
    · have old : ∀ {i : Nat} {x : CrH}, i ≠ l2 - 1 → hs'[i]? = some x → qB x.q = some g → qB q12 = some g → False := fun {i x} hi hx hg hg' => by
        rcases hq with hq | hq
        · rw [hq] at hg'; exact hi (hap i (l2 - 1) x h g hx hh hg hg')
        · rw [hq] at hg'
          cases hg'
          obtain ⟨y, hy⟩ := get_ex (l := cs) (i := i) (by have := get_lt hx; omega)
          have h1 := ((ho i x y hx hy).2.2.lt hg).1
          have h2 := kd.size
          have h3 := k17.size
          omega
      by_cases hi : i = l2 - 1 <;> by_cases hj : j = l2 - 1
      · rw [hi, hj]
      · subst hi
        rw [List.getElem?_set_self (get_lt hh)] at hx
        rw [List.getElem?_set_ne (Ne.symm hj)] at hx'
        cases hx
        exact (old hj hx' hg' hg).elim
      · subst hj
        rw [List.getElem?_set_self (get_lt hh)] at hx'
        rw [List.getElem?_set_ne (Ne.symm hi)] at hx
        cases hx'
        exact (old hi hx hg hg').elim
      · rw [List.getElem?_set_ne (Ne.symm hi)] at hx
        rw [List.getElem?_set_ne (Ne.symm hj)] at hx'
        exact hap i j x x' g hx hx' hg hg'
    · rw [eS] at hy
      rcases mem_set hy with rfl | hy
      · simp; omega
      · have := P.nt y hy; omega
  cases x1 with
  | false => exact bcF rfl ⟨false, rfl, (fun h => by cases h), (fun _ => by rw [read_page hw, hno (.inl rfl)]), kk⟩
  | true =>
    refine bcT rfl ⟨_, (X19.cell0 1).trans rfl, _, rfl, fun h5 => ?_, fun h5 => ?_, kk⟩
    · have h5 : 0 < kn := by have := of_decide_eq_true h5; omega
      refine ⟨fs, _, ?_, PG⟩
      rw [read_page hw, hyes rfl h5]
      simp only
      rw [if_neg (by omega)]
    · have h5 : kn = 0 := by have := of_decide_eq_false h5; omega
      rw [read_page hw, hno (.inr h5)]
end Go.Proofs.YtdlbmmodlkmofaaGreatDoor
