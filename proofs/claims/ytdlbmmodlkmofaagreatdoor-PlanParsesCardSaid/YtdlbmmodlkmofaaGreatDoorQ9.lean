import Derived.Test.YtdlbmmodlkmofaaGreatDoorQ8
set_option maxRecDepth 20000
namespace Go.Proofs.YtdlbmmodlkmofaaGreatDoor
open Go Go.Vc Go.RowKit
/-! # the reference's lines of crashes and pages -/
def wKept : ByteArray := bs [107, 101, 112, 116]
def wLost : ByteArray := bs [108, 111, 115, 116]
def wTorn : ByteArray := bs [116, 111, 114, 110]
theorem wix3 (s : ByteArray) : wix (wFate.take 3) s 0 = if s = wKept then some 1 else if s = wLost then some 2 else none := by
  have e : wFate.take 3 = [bs [], wKept, wLost] := rfl
  rw [e]
  simp only [wix]
  by_cases h0 : bs [] = s
  · subst h0; decide
  by_cases h1 : wKept = s
  · subst h1; decide
  by_cases h2 : wLost = s
  · subst h2; decide
  rw [if_neg (Ne.symm h2), if_neg (Ne.symm h1), if_neg h0, if_neg h1, if_neg h2]
theorem wix4 (s : ByteArray) : wix wFate s 0 = if s = wKept then some 1 else if s = wLost then some 2 else if s = wTorn then some 3 else none := by
  have e : wFate = [bs [], wKept, wLost, wTorn] := rfl
  rw [e]
  simp only [wix]
  by_cases h0 : bs [] = s
  · subst h0; decide
  by_cases h1 : wKept = s
  · subst h1; decide
  by_cases h2 : wLost = s
  · subst h2; decide
  by_cases h3 : wTorn = s
  · subst h3; decide
  rw [if_neg (Ne.symm h3), if_neg (Ne.symm h2), if_neg (Ne.symm h1), if_neg h0, if_neg h1, if_neg h2, if_neg h3]
theorem crashLine33 {w0 w : World} {base b n : Nat} {fs : List T3} {cs : List Cr} (P : PO w0 base b n fs cs) (k0 : Chg none_ w0 w) (hn : n ≤ 1000000) {q : Option Addr} {l c : Nat} {ws : List ByteArray} (W1 : RE En.str w q l ws) (hw : wAt ws 0 = wCrashW) :
    Calls Tryz.prog 33 #[.slice q l c, .pointer (some (ad b))] w (Ret (RdS base b n fs cs ws w0 w)) := by
  refine f33.calls _ _ _ _ ?_
  unfold f33.wp
  have hlen := W1.len
  obtain ⟨q1, l1, c1, q2, l2, c2, hs', B0, S0, T0, hl, ho0, hap⟩ := P.ex
  have B1 := k0.blk B0 (fun x => x)
  have S1 := S0.chgN k0
  have T1 := T0.chgN k0
  have ho : ∀ (i : Nat) (h : CrH) (c : Cr), hs'[i]? = some h → cs[i]? = some c → h.step = c.step ∧ h.rest = c.rest ∧ SE En.t3 w base 43 h.q h.l h.c c.fates := fun i h c hh hc => ⟨(ho0 i h c hh hc).1, (ho0 i h c hh hc).2.1, (ho0 i h c hh hc).2.2.chgN k0⟩
  have e1 := S1.len
  have e2 := T1.len
  have nf := P.nf
  have nc := P.nc
  have hb := P.hb
  have hb1 : b < w.heap.size := B1.lt
  refine ⟨fun w' => w' = w ∧ l = 3 ∧ (wAt ws 2 = wKept ∨ wAt ws 2 = wLost), ?_, ?_⟩
  rotate_left
  · refine bc (fun hne => ⟨false, rfl, (fun h => by cases h), fun _ => ?_, Chg.refl _ _⟩) fun heq => ?_
    · have hne : l ≠ 3 := by simp at hne; omega
      rw [read_crash hw, crashF, if_neg (by omega)]
    have heq : l = 3 := by simp at heq; omega
    obtain ⟨a, rfl, r2, _⟩ := rdW W1 (i := 2) (by omega)
    refine onPtr_mk ⟨by decide, by rw [heq]; decide, _, r2, bc (fun h1 => onPtr_mk ⟨by decide, by rw [heq]; decide, _, r2, bc (fun h2 => ⟨false, rfl, (fun h => by cases h), fun _ => ?_, Chg.refl _ _⟩) fun h2 => ⟨rfl, heq, .inr (ba_eqN h2)⟩⟩) fun h1 => ⟨rfl, heq, .inl (ba_eqN h1)⟩⟩
    have n1 : wAt ws 2 ≠ wKept := ba_neN h1
    have n2 : wAt ws 2 ≠ wLost := ba_neN h2
    rw [read_crash hw, crashF, if_pos ⟨by omega, hw⟩, wix3, if_neg n1, if_neg n2]
    cases numF (wAt ws 1).data.toList <;> rfl
  rintro w1 ⟨rfl, heq, hkl⟩
  obtain ⟨a, rfl, r1, _⟩ := rdW W1 (i := 1) (by omega)
  refine onPtr_mk ⟨by decide, by rw [heq]; decide, _, r1, Calls.use (number57 (wAt ws 1) w1) ?_⟩
  rintro _ w2 ⟨rfl, k2⟩
  generalize hN : numF (wAt ws 1).data.toList = N
  refine ⟨_, _, rfl, boxed rfl rfl fun w4 X4 k4 s4 => ?_⟩
  have k04 := k2.trans k4
  have hz2 := k2.size
  refine ⟨fun w' => Blk w' w2.heap.size 46 #[iv ((N.getD 0 : Nat) : Int), iv (((if wAt ws 2 = wKept then 1 else 2 : Nat) : Nat) : Int), .slice none 0 0] ∧ Chg none_ w1 w', ?_, ?_⟩
  rotate_left
  · obtain ⟨_, e, r2, _⟩ := rdW (W1.chg k04) (i := 2) (by omega)
    cases e
    refine onPtr_mk ⟨by decide, by rw [heq]; decide, _, r2, bc (fun h => ⟨X4.canStore0 (o := 1) (n := 1) (by show 1 + 1 ≤ 3; decide), fun w6 e6 => ?_⟩) fun h => ⟨?_, k04⟩⟩
    · obtain ⟨X6, k6⟩ := X4.put e6
      have h2 : wAt ws 2 = wLost := ba_eq h
      have h1 : wAt ws 2 ≠ wKept := by rw [h2]; decide
      rw [if_neg h1]
      exact ⟨X6, k04.up k6 fun k hk => by rw [hk]; exact hz2⟩
    · have h1 : wAt ws 2 = wKept := hkl.resolve_right (ba_ne h)
      rw [if_pos h1]; exact X4
  rintro w5 ⟨X5, k5⟩
  have hC : crashF ws = N.map fun n => ((n : Int), (((if wAt ws 2 = wKept then 1 else 2 : Nat) : Nat) : Int)) := by
    rw [crashF, if_pos ⟨by omega, hw⟩, wix3, hN]
    rcases hkl with h | h
    · rw [if_pos h, if_pos h]; cases N <;> rfl
    · have h1 : wAt ws 2 ≠ wKept := by rw [h]; decide
      rw [if_neg h1, if_pos h, if_neg h1]; cases N <;> rfl
  generalize (if wAt ws 2 = wKept then 1 else 2 : Nat) = y2 at X5 hC
  have kd : Chg none_ w1 w5.drew := k5.drew
  have Bd := kd.blk B1 (fun x => x)
  have Td := T1.chgN kd
  have X5d := X5.drew
  refine ⟨fun p => p.block = b ∨ p.block = w2.heap.size, onPtr_mk ⟨_, _, _, .inl rfl, (Bd.cell0 1).trans rfl, _, _, _, _, _, (fun j _ => .inr (add_block _ _)), X5d.reads0, newBox fun w11 B11 k11 s11 => ?_⟩⟩
  obtain ⟨q8, c8, w12, hrun, S12, k12, hq, _⟩ := (Td.chgN k11).append1 (t := 25) (ty := 25) (x := ⟨((N.getD 0 : Nat) : Int), (y2 : Int), none, 0, 0⟩) elemCrash B11 (by simp only [maxLen]; omega) (by show (l2 + 1) * 40 ≤ _; omega) (by have h1 := kd.size; have h2 := k11.size; omega)
  have B11b := k11.blk Bd (fun x => x)
  have X11 := k11.blk X5d (fun x => x)
  have nX : some w2.heap.size ≠ qB q2 := fun e => by have := (T1.lt e.symm).1; omega
  have B12 := k12.blk B11b (fun e => noS (Td.chgN k11) (by decide) e B11b)
  have ke5 : Keeps (fun p => p.block = b ∨ p.block = w2.heap.size) w5.drew w11 := fun p hp => k11.cell (by rcases hp with hp | hp <;> rw [hp]; exact Bd.lt; exact X5d.lt) (fun x => x)
  have ke6 : Keeps (fun p => p.block = b ∨ p.block = w2.heap.size) w5.drew w12 := fun p hp => (k12.cell (by rcases hp with hp | hp <;> rw [hp]; exact B11b.lt; exact X11.lt) (by
    rcases hp with hp | hp <;> rw [hp]
    · exact fun e => noS (Td.chgN k11) (by decide) e B11b
    · exact nX)).trans (ke5 p hp)
  refine ⟨ke5, q8, l2 + 1, c8, w12, hrun, ke6, onPtr_mk ⟨B12.canStore0 (o := 1) (n := 1) (by show 1 + 1 ≤ 2; decide), fun w13 e13 => ?_⟩⟩
  obtain ⟨B13, k13⟩ := B12.put e13
  have kk : Chg (fun k => base ≤ k ∧ k < w0.heap.size) w1 w13 := ((kd.of_none _).trans' (k11.of_none _) fun i h => .inl h).trans' k12 (fun i h => .inl ⟨(T0.lt h.symm).2, (T0.lt h.symm).1⟩) |>.trans' k13 fun i h => .inl (by rw [h]; exact ⟨hb, B0.lt⟩)
  have cut : ∀ {α : Type} {E : En α} {e : TypeId} {q : Option Addr} {l c : Nat} {xs : List α}, e ≠ 46 → e ≠ 27 → SE E w1 base e q l c xs → SE E w13 base e q l c xs := fun h46 h27 A => by
    have A5 := (A.chgN kd).chgN k11
    have A6 := A5.chg k12 fun g hg he => (by obtain ⟨cs', B'⟩ := SE.blk A5 hg; exact noS (Td.chgN k11) (Ne.symm h46) he B')
    exact A6.chg k13 fun g hg he => (by obtain ⟨cs', B'⟩ := SE.blk A6 hg; rw [he] at B'; exact absurd (B'.type B12).1 h27)
  refine ⟨_, rfl, fun hok => ?_, fun hno => ?_, kk⟩
  rotate_left
  · cases N with
    | some n => cases hno
    | none => rw [read_crash hw, hC]; rfl
  refine ⟨fs, cs ++ [⟨((N.getD 0 : Nat) : Int), (y2 : Int), []⟩], ?_, ⟨⟨q1, l1, c1, q8, l2 + 1, c8, hs' ++ [⟨((N.getD 0 : Nat) : Int), (y2 : Int), none, 0, 0⟩], B13, cut (by decide) (by decide) S1, S12.chg k13 fun g hg he => ?_, by simp [hl], fun i h c hh hc => ?_, fun i j h h' g hh hh' hg hg' => ?_⟩, hb, by omega, by simp; omega, fun c hc => ?_⟩⟩
  · cases N with
    | none => cases hok
    | some n => rw [read_crash hw, hC]; rfl
  · obtain ⟨cs', B'⟩ := SE.blk S12 hg
    rw [he] at B'
    exact absurd (B'.type B12).1 (by decide)
  · by_cases hi : i < hs'.length
    · rw [List.getElem?_append_left hi] at hh
      rw [List.getElem?_append_left (by omega)] at hc
      obtain ⟨h1, h2, h3⟩ := ho i h c hh hc
      exact ⟨h1, h2, cut (by decide) (by decide) h3⟩
    · rw [List.getElem?_append_right (by omega)] at hh
      rw [List.getElem?_append_right (by omega)] at hc
      have h0 : i - hs'.length = 0 := by have := get_lt hh; simpa using this
      rw [h0] at hh
      rw [← hl, h0] at hc
      cases hh; cases hc
      exact ⟨rfl, rfl, SE.nil _ _ _ _⟩
  · have old : ∀ {i : Nat} {h : CrH}, (hs' ++ [⟨((N.getD 0 : Nat) : Int), (y2 : Int), none, 0, 0⟩])[i]? = some h → qB h.q = some g → hs'[i]? = some h := fun {i h} hh hg => by
      by_cases hi : i < hs'.length
      · rw [List.getElem?_append_left hi] at hh; exact hh
      · rw [List.getElem?_append_right (by omega)] at hh
        have h0 : i - hs'.length = 0 := by have := get_lt hh; simpa using this
        rw [h0] at hh
        cases hh
        simp [qB] at hg
    exact hap i j h h' g (old hh hg) (old hh' hg') hg hg'
  · rcases List.mem_append.1 hc with hc | hc
    · have := P.nt c hc; omega
    · rw [List.mem_singleton.1 hc]; simp
end Go.Proofs.YtdlbmmodlkmofaaGreatDoor
