import Derived.Test.YtibpbbjlecohiaaLfC
import Derived.Test.YtibpbbjlecohiaaLeH
set_option maxRecDepth 20000
namespace Go.Proofs.Ytibpbbjlecohiaa
namespace Full
open Go Go.Vc Go.RowKit
/-! # the document's play: plain, and where it lies -/
theorem cell_lt {w : World} {p : Addr} {v : Value} (h : w.cell? p = some v) : p.block < w.heap.size := by
  rcases Nat.lt_or_ge p.block w.heap.size with h1 | h1
  · exact h1
  · rw [World.cell?, Array.getElem?_eq_none h1] at h; cases h
theorem reads_lt {w : World} {p : Addr} {v : Value} {vs : List Value} (h : reads w p (v :: vs)) : p.block < w.heap.size := by
  have := cell_lt (h 0 v rfl)
  rwa [add_block] at this
/-- an array, by a function -/
def arG (f : Nat → Value) (n : Nat) : Array Value := ((List.range n).map f).toArray
theorem arG_size (f : Nat → Value) (n : Nat) : (arG f n).size = n := by simp [arG]
theorem arG_get {f : Nat → Value} {n i : Nat} (h : i < n) : (arG f n)[i]? = some (f i) := by simp [arG, h]
theorem arG_congr {f g : Nat → Value} {n : Nat} (h : ∀ i, i < n → f i = g i) : arG f n = arG g n := by
  unfold arG
  rw [List.map_congr_left fun i hi => h i (List.mem_range.1 hi)]
theorem arG_set {f : Nat → Value} {n i : Nat} {v : Value} (h : i < n) : (arG f n).setIfInBounds i v = arG (fun j => if j = i then v else f j) n := by
  apply Array.ext_getElem?
  intro j
  by_cases hj : j < n
  · rw [arG_get hj]
    by_cases e : i = j
    · subst e
      rw [Array.getElem?_setIfInBounds_self_of_lt (by rw [arG_size]; exact h), if_pos rfl]
    · rw [Array.getElem?_setIfInBounds_ne e, arG_get hj, if_neg (Ne.symm e)]
  · rw [Array.getElem?_eq_none (by rw [Array.size_setIfInBounds, arG_size]; omega), Array.getElem?_eq_none (by rw [arG_size]; omega)]
theorem made_arG (v : Value) (n : Nat) : madeCells #[v] (n * 1) = arG (fun _ => v) n := by
  apply Array.ext_getElem?
  intro j
  by_cases hj : j < n
  · rw [arG_get hj]
    have h1 := madeCells_get #[v] (by simp) n j (by show j < n * 1; omega)
    have h2 : j % (#[v] : Array Value).size = 0 := by show j % 1 = 0; omega
    rw [h2] at h1
    exact h1
  · rw [Array.getElem?_eq_none (by rw [size_madeCells]; simp; omega), Array.getElem?_eq_none (by rw [arG_size]; omega)]
abbrev arI (f : Nat → Int) : Nat → Nat → Array Value := fun _ n => arG (fun i => .int .i64 (f i)) n
def updN {α : Type} (f : Nat → α) (t : Nat) (v : α) : Nat → α := fun i => if i = t then v else f i
/-- the document's play under way -/
structure QI (W w : World) (Q o : Nat) (g : GR) (r : R8) (bd bo bw n : Nat) (oh dh : Hd) (dn : Nat → Int) (wa : Nat → Bool) (ord : List Tn) (dd : List Int) : Prop where
  chg : Chg none_ W w
  lat : InvR w W.heap.size Q o g r
  db : Blk w bd 3 (arG (fun i => .int .i64 (dn i)) n)
  ob : Blk w bo 55 #[.slice (some (ad bd)) n n, .slice oh.1 oh.2.1 oh.2.2, .slice none 0 0, .slice dh.1 dh.2.1 dh.2.2]
  wb : Blk w bw 4 (arG (fun i => .bool (wa i)) n)
  os : SE En.turn w W.heap.size 62 oh.1 oh.2.1 oh.2.2 ord
  ds : SE En.int w W.heap.size 3 dh.1 dh.2.1 dh.2.2 dd
  nb : qB dh.1 ≠ some bd
  lo : W.heap.size ≤ bd ∧ W.heap.size ≤ bo ∧ W.heap.size ≤ bw
section
variable {W w w' : World} {Q Q' o : Nat} {g g' : GR} {r r' : R8} {bd bo bw n : Nat} {oh dh : Hd} {dn : Nat → Int} {wa : Nat → Bool} {ord : List Tn} {dd : List Int}
theorem QI.chgS (h : QI W w Q o g r bd bo bw n oh dh dn wa ord dd) {S : Nat → Prop} (k : Chg S w w') (hlo : ∀ b, S b → W.heap.size ≤ b) (h0 : ∀ b, S b → ¬ OwnR g o b) (h1 : ¬ S bd) (h2 : ¬ S bo) (h3 : ¬ S bw) (h4 : ∀ b, qB oh.1 = some b → ¬ S b) (h5 : ∀ b, qB dh.1 = some b → ¬ S b) : QI W w' Q o g r bd bo bw n oh dh dn wa ord dd :=
  ⟨h.chg.up k hlo, h.lat.chg k h0, k.blk h.db h1, k.blk h.ob h2, k.blk h.wb h3, h.os.chg k h4, h.ds.chg k h5, h.nb, h.lo⟩
theorem QI.chgN (h : QI W w Q o g r bd bo bw n oh dh dn wa ord dd) (k : Chg none_ w w') : QI W w' Q o g r bd bo bw n oh dh dn wa ord dd :=
  h.chgS k (fun _ x => x.elim) (fun _ x => x.elim) (fun x => x) (fun x => x) (fun x => x) (fun _ _ x => x) fun _ _ x => x
theorem QI.nd (h : QI W w Q o g r bd bo bw n oh dh dn wa ord dd) : ¬ OwnR g o bd := h.lat.not_own h.db (by decide)
theorem QI.no (h : QI W w Q o g r bd bo bw n oh dh dn wa ord dd) : ¬ OwnR g o bo := h.lat.not_own h.ob (by decide)
theorem QI.nw (h : QI W w Q o g r bd bo bw n oh dh dn wa ord dd) : ¬ OwnR g o bw := h.lat.not_own h.wb (by decide)
theorem QI.ne (h : QI W w Q o g r bd bo bw n oh dh dn wa ord dd) : bd ≠ bo ∧ bd ≠ bw ∧ bo ≠ bw :=
  ⟨fun e => (by rw [e] at h; exact absurd (h.db.type h.ob).1 (by decide)), fun e => (by rw [e] at h; exact absurd (h.db.type h.wb).1 (by decide)), fun e => (by rw [e] at h; exact absurd (h.ob.type h.wb).1 (by decide))⟩
/-- the blocks of the slices -/
theorem QI.sl (h : QI W w Q o g r bd bo bw n oh dh dn wa ord dd) : (∀ b, qB oh.1 = some b → b ≠ bd ∧ b ≠ bo ∧ b ≠ bw ∧ ¬ OwnR g o b) ∧ ∀ b, qB dh.1 = some b → b ≠ bd ∧ b ≠ bo ∧ b ≠ bw ∧ ¬ OwnR g o b := by
  refine ⟨fun b hb => ?_, fun b hb => ?_⟩
  · obtain ⟨cs, B⟩ := h.os.blk hb
    refine ⟨fun e => ?_, fun e => ?_, fun e => ?_, h.lat.not_own B (by decide)⟩
    · rw [e] at B; exact absurd (B.type h.db).1 (by decide)
    · rw [e] at B; exact absurd (B.type h.ob).1 (by decide)
    · rw [e] at B; exact absurd (B.type h.wb).1 (by decide)
  · obtain ⟨cs, B⟩ := h.ds.blk hb
    refine ⟨fun e => ?_, fun e => ?_, fun e => ?_, h.lat.not_own B (by decide)⟩
    · rw [e] at hb; exact h.nb hb
    · rw [e] at B; exact absurd (B.type h.ob).1 (by decide)
    · rw [e] at B; exact absurd (B.type h.wb).1 (by decide)
theorem QI.stp (h : QI W w Q o g r bd bo bw n oh dh dn wa ord dd) (I : InvR w' W.heap.size Q' o g' r') (st : StpR o w g w' g') : QI W w' Q' o g' r' bd bo bw n oh dh dn wa ord dd :=
  ⟨h.chg.up st.chg fun _ hb => (h.lat.own_lt hb).2, I, st.blk h.db h.nd, st.blk h.ob h.no, st.blk h.wb h.nw, h.os.chg st.chg fun b hb => (h.sl.1 b hb).2.2.2, h.ds.chg st.chg fun b hb => (h.sl.2 b hb).2.2.2, h.nb, h.lo⟩
theorem QI.atD (h : QI W w Q o g r bd bo bw n oh dh dn wa ord dd) {i : Nat} (hi : i < n) : w.cell? ((ad bd).add ((i : Int).toNat * 1)) = some (.int .i64 (dn i)) := by
  rw [show (i : Int).toNat * 1 = i by omega]
  exact (h.db.cell0 i).trans (arG_get hi)
theorem QI.atW (h : QI W w Q o g r bd bo bw n oh dh dn wa ord dd) {i : Nat} (hi : i < n) : w.cell? ((ad bw).add ((i : Int).toNat * 1)) = some (.bool (wa i)) := by
  rw [show (i : Int).toNat * 1 = i by omega]
  exact (h.wb.cell0 i).trans (arG_get hi)
theorem QI.putD (h : QI W w Q o g r bd bo bw n oh dh dn wa ord dd) {i : Nat} (hi : i < n) {v : Int} {C : World → Prop} (hC : ∀ w', QI W w' Q o g r bd bo bw n oh dh (updN dn i v) wa ord dd → Chg (fun b => b = bd) w w' → C w') :
    canStore w ((ad bd).add ((i : Int).toNat * 1)) 1 ∧ ∀ w', w' = setCells ((ad bd).add ((i : Int).toNat * 1)) 0 [.int .i64 v] w → C w' := by
  rw [show (i : Int).toNat * 1 = i by omega]
  refine ⟨h.db.canStore0 (by rw [arG_size]; omega), fun w' e => ?_⟩
  obtain ⟨B, k⟩ := h.db.put e
  rw [arG_set hi, show (fun j => if j = i then Value.int .i64 v else .int .i64 (dn j)) = fun j => .int .i64 (updN dn i v j) from funext fun j => by unfold updN; split <;> rfl] at B
  obtain ⟨n1, n2, n3⟩ := h.ne
  exact hC w' ⟨h.chg.up k fun b hb => by rw [hb]; exact h.lo.1, h.lat.chg k fun b hb => by rw [hb]; exact h.nd, B, k.blk h.ob n1.symm, k.blk h.wb n2.symm, h.os.chg k fun b hb => (h.sl.1 b hb).1, h.ds.chg k fun b hb => (h.sl.2 b hb).1, h.nb, h.lo⟩ k
theorem QI.putW (h : QI W w Q o g r bd bo bw n oh dh dn wa ord dd) {i : Nat} (hi : i < n) {v : Bool} {C : World → Prop} (hC : ∀ w', QI W w' Q o g r bd bo bw n oh dh dn (updN wa i v) ord dd → Chg (fun b => b = bw) w w' → C w') :
    canStore w ((ad bw).add ((i : Int).toNat * 1)) 1 ∧ ∀ w', w' = setCells ((ad bw).add ((i : Int).toNat * 1)) 0 [.bool v] w → C w' := by
  rw [show (i : Int).toNat * 1 = i by omega]
  refine ⟨h.wb.canStore0 (by rw [arG_size]; omega), fun w' e => ?_⟩
  obtain ⟨B, k⟩ := h.wb.put e
  rw [arG_set hi, show (fun j => if j = i then Value.bool v else .bool (wa j)) = fun j => .bool (updN wa i v j) from funext fun j => by unfold updN; split <;> rfl] at B
  obtain ⟨n1, n2, n3⟩ := h.ne
  exact hC w' ⟨h.chg.up k fun b hb => by rw [hb]; exact h.lo.2.2, h.lat.chg k fun b hb => by rw [hb]; exact h.nw, k.blk h.db n2, k.blk h.ob n3, B, h.os.chg k fun b hb => (h.sl.1 b hb).2.2.1, h.ds.chg k fun b hb => (h.sl.2 b hb).2.2.1, h.nb, h.lo⟩ k
/-- one turn more is told -/
theorem QI.turn (h : QI W w Q o g r bd bo bw n oh dh dn wa ord dd) {x : Tn} {w1 : World} (e1 : w1 = w.alloc (.cells #[.int .i64 x.task, .int .i64 x.act, .bool x.waits, .int .i64 x.err] 62)) (hl : ord.length ≤ 1000000) {C : Option Addr → Nat → Nat → World → Prop}
    (hC : ∀ q c w3, QI W w3 Q o g r bd bo bw n (q, oh.2.1 + 1, c) dh dn wa (ord ++ [x]) dd → Chg (fun b => b = bo ∨ some b = qB oh.1) w w3 → C q (oh.2.1 + 1) c w3) :
    ∃ q l c w2, (Builtin.append_ #[52, 52] 52 #[.slice oh.1 oh.2.1 oh.2.2, .slice (some ⟨w.heap.size, 0, none⟩) 1 1]).run Try.prog w1 = .ok (.slice q l c) w2 ∧ canStore w2 ((ad bo).add 1) 1 ∧
      ∀ w3, w3 = setCells ((ad bo).add 1) 0 [.slice q l c] w2 → C q l c w3 := by
  have B1 := new_blk e1
  have k1 := (Chg.refl none_ w).new' e1
  have h1 := h.chgN k1
  have hol := h.os.len
  obtain ⟨q, c, w2, hrun, S2, k2, hq, _⟩ := h1.os.append1 (t := 52) (ty := 52) (x := x) elemTurn B1 (by simp only [maxLen]; omega) (by show (oh.2.1 + 1) * 32 ≤ _; omega) h1.chg.size
  have hs := h1.sl
  have nt : ∀ {b : Nat}, b = bd ∨ b = bo ∨ b = bw ∨ OwnR g o b → ¬ some b = qB oh.1 := fun hb e => by
    have := hs.1 _ e.symm
    rcases hb with hb | hb | hb | hb
    · exact this.1 hb
    · exact this.2.1 hb
    · exact this.2.2.1 hb
    · exact this.2.2.2 hb
  have P2 := k2.blk h1.ob (nt (.inr (.inl rfl)))
  have D2 := h1.ds.chg k2 fun b hb e => by
    obtain ⟨cs, X⟩ := h1.ds.blk hb
    obtain ⟨cs', Y⟩ := h1.os.blk e.symm
    exact absurd (X.type Y).1 (by decide)
  refine ⟨q, oh.2.1 + 1, c, w2, hrun, P2.canStore0 (o := 1) (n := 1) (by show 1 + 1 ≤ 4; decide), fun w3 e3 => ?_⟩
  obtain ⟨P3, k3⟩ := P2.put (i := 1) e3
  have hty : ∀ b, qB q = some b → b ≠ bo := fun b hb e => by
    obtain ⟨cs, X⟩ := S2.blk hb
    rw [e] at X
    exact absurd (X.type P2).1 (by decide)
  obtain ⟨n1, n2, n3⟩ := h.ne
  have k13 : Chg (fun b => b = bo ∨ some b = qB oh.1) w1 w3 := (k2.mono fun _ _ x => .inr x).trans' (k3.mono fun _ _ x => (.inl x : _ = bo ∨ some _ = qB oh.1)) fun b hb => .inl hb
  refine hC q c w3 ⟨h.chg.up ((k1.of_none _).trans k13) fun b hb => ?_, (h1.lat.chg k13 fun b hb => ?_), k13.blk h1.db ?_, P3, k13.blk h1.wb ?_, S2.chg k3 hty, D2.chg k3 fun b hb => (hs.2 b hb).2.1, h.nb, h.lo⟩ ((k1.of_none _).trans k13)
  · rcases hb with hb | hb
    · rw [hb]; exact h.lo.2.1
    · exact (h.os.lt hb.symm).2
  · rcases hb with hb | hb
    · rw [hb]; exact h.no
    · exact (hs.1 b hb.symm).2.2.2
  · rintro (hb | hb)
    · exact n1 hb
    · exact nt (.inl rfl) hb
  · rintro (hb | hb)
    · exact n3 hb.symm
    · exact nt (.inr (.inr (.inl rfl))) hb
/-- one dead more -/
theorem QI.dead (h : QI W w Q o g r bd bo bw n oh dh dn wa ord dd) {x : Int} {w1 : World} (e1 : w1 = w.alloc (.cells #[.int .i64 x] 3)) (hl : dd.length ≤ 1000) {C : Option Addr → Nat → Nat → World → Prop}
    (hC : ∀ q c w3, QI W w3 Q o g r bd bo bw n oh (q, dh.2.1 + 1, c) dn wa ord (dd ++ [x]) → C q (dh.2.1 + 1) c w3) :
    ∃ q l c w2, (Builtin.append_ #[35, 35] 35 #[.slice dh.1 dh.2.1 dh.2.2, .slice (some ⟨w.heap.size, 0, none⟩) 1 1]).run Try.prog w1 = .ok (.slice q l c) w2 ∧ canStore w2 ((ad bo).add 3) 1 ∧
      ∀ w3, w3 = setCells ((ad bo).add 3) 0 [.slice q l c] w2 → C q l c w3 := by
  have B1 := new_blk e1
  have k1 := (Chg.refl none_ w).new' e1
  have h1 := h.chgN k1
  have hol := h.ds.len
  obtain ⟨q, c, w2, hrun, S2, k2, hq, _⟩ := h1.ds.append1 (t := 35) (ty := 35) (x := x) elemInt B1 (by simp only [maxLen]; omega) (by show (dh.2.1 + 1) * 8 ≤ _; omega) h1.chg.size
  have hs := h1.sl
  have nt : ∀ {b : Nat}, b = bd ∨ b = bo ∨ b = bw ∨ OwnR g o b → ¬ some b = qB dh.1 := fun hb e => by
    have := hs.2 _ e.symm
    rcases hb with hb | hb | hb | hb
    · exact this.1 hb
    · exact this.2.1 hb
    · exact this.2.2.1 hb
    · exact this.2.2.2 hb
  have P2 := k2.blk h1.ob (nt (.inr (.inl rfl)))
  have D2 := h1.os.chg k2 fun b hb e => by
    obtain ⟨cs, X⟩ := h1.os.blk hb
    obtain ⟨cs', Y⟩ := h1.ds.blk e.symm
    exact absurd (X.type Y).1 (by decide)
  refine ⟨q, dh.2.1 + 1, c, w2, hrun, P2.canStore0 (o := 3) (n := 1) (by show 3 + 1 ≤ 4; decide), fun w3 e3 => ?_⟩
  obtain ⟨P3, k3⟩ := P2.put (i := 3) e3
  have hty : ∀ b, qB q = some b → b ≠ bo := fun b hb e => by
    obtain ⟨cs, X⟩ := S2.blk hb
    rw [e] at X
    exact absurd (X.type P2).1 (by decide)
  obtain ⟨n1, n2, n3⟩ := h.ne
  have k13 : Chg (fun b => b = bo ∨ some b = qB dh.1) w1 w3 := (k2.mono fun _ _ x => .inr x).trans' (k3.mono fun _ _ x => (.inl x : _ = bo ∨ some _ = qB dh.1)) fun b hb => .inl hb
  refine hC q c w3 ⟨h.chg.up ((k1.of_none _).trans k13) fun b hb => ?_, (h1.lat.chg k13 fun b hb => ?_), k13.blk h1.db ?_, P3, k13.blk h1.wb ?_, D2.chg k3 fun b hb => (hs.1 b hb).2.1, S2.chg k3 hty, ?_, h.lo⟩
  · rcases hb with hb | hb
    · rw [hb]; exact h.lo.2.1
    · exact (h.ds.lt hb.symm).2
  · rcases hb with hb | hb
    · rw [hb]; exact h.no
    · exact (hs.2 b hb.symm).2.2.2
  · rintro (hb | hb)
    · exact n1 hb
    · exact nt (.inl rfl) hb
  · rintro (hb | hb)
    · exact n3 hb.symm
    · exact nt (.inr (.inr (.inl rfl))) hb
  · intro e
    have e : qB q = some bd := e
    rcases hq with hq | hq
    · rw [hq] at e; exact h.nb e
    · rw [hq] at e
      have : bd = w1.heap.size := (Option.some.inj e).symm
      have := h1.db.lt
      omega
end
end Full
end Go.Proofs.Ytibpbbjlecohiaa
set_option maxRecDepth 20000
namespace Go.Proofs.Ytibpbbjlecohiaa
namespace Full
open Go Go.Vc Go.RowKit
/-! # the document's play: a turn, plain -/
structure SP (p : PS) (r : R8) (acts : List (List Act)) : Prop where
  ok : p.Ok acts
  sim : Sim p.s r
  lt : ∀ x, (p.s.wt x).isSome = true → 0 ≤ x ∧ x < acts.length
def waN (wt : Int → Option W3) (i : Nat) : Bool := (wt (i : Int)).isSome
theorem can_doc {wt : Int → Option W3} {acts : List (List Act)} {ats : List Nat} {j a : Nat} {ys : List Act} (ha : ats[j]? = some a) (hy : acts[j]? = some ys) (hle : a ≤ ys.length) : canR wt acts ats j = (decide (doneN wt ats j < (ys.length : Int)) && !waN wt j) := by
  have ea : ats.getD j 0 = a := by rw [List.getD_eq_getElem?_getD, ha]; rfl
  have ey : acts.getD j [] = ys := by rw [List.getD_eq_getElem?_getD, hy]; rfl
  unfold canR doneN waN
  rw [ea, ey]
  cases h : wt (j : Int) with
  | some v => simp
  | none =>
    simp only [Option.isNone_none, Bool.true_and, Option.isSome_none, Bool.not_false, Bool.and_true, Bool.false_eq_true, if_false]
    by_cases e : a = ys.length
    · rw [decide_eq_true e, decide_eq_false (by omega)]; rfl
    · rw [decide_eq_false e, decide_eq_true (by omega)]; rfl
def dnK (dn : Nat → Int) (ws : List Int) : Nat → Int := fun i => dn i + (if (i : Int) ∈ ws then 1 else 0)
def waK (wa : Nat → Bool) (ws : List Int) : Nat → Bool := fun i => wa i && !decide ((i : Int) ∈ ws)
theorem dnK_nil (dn : Nat → Int) : dnK dn [] = dn := by funext i; simp [dnK]
theorem waK_nil (wa : Nat → Bool) : waK wa [] = wa := by funext i; simp [waK]
theorem take_mem {ws : List Int} {j : Nat} {x y : Int} (hx : ws[j]? = some x) : y ∈ ws.take (j + 1) ↔ y ∈ ws.take j ∨ y = x := by
  rw [List.take_add_one, hx, List.mem_append]; simp
theorem nodup_at {ws : List Int} (hn : ws.Nodup) {j : Nat} {x : Int} (hx : ws[j]? = some x) : x ∉ ws.take j := by
  intro hm
  have h1 : ws = ws.take j ++ ws.drop j := (List.take_append_drop j ws).symm
  rw [h1, List.nodup_append] at hn
  have h2 : x ∈ ws.drop j := by
    have : (ws.drop j)[0]? = some x := by rw [List.getElem?_drop]; simpa using hx
    exact List.mem_of_getElem? this
  exact hn.2.2 x hm x h2 rfl
theorem waK_next {wa : Nat → Bool} {ws : List Int} {j i : Nat} (hx : ws[j]? = some (i : Int)) : updN (waK wa (ws.take j)) i false = waK wa (ws.take (j + 1)) := by
  funext k
  unfold updN waK
  by_cases e : k = i
  · rw [if_pos e, e, decide_eq_true ((take_mem hx).2 (.inr rfl))]; simp
  · rw [if_neg e]
    congr 2
    rw [decide_eq_decide, take_mem hx]
    exact ⟨.inl, fun h => h.elim id fun h => absurd (by omega) e⟩
theorem dnK_next {dn : Nat → Int} {ws : List Int} (hn : ws.Nodup) {j i : Nat} (hx : ws[j]? = some (i : Int)) : dnK dn (ws.take j) i = dn i ∧ updN (dnK dn (ws.take j)) i (dnK dn (ws.take j) i + 1) = dnK dn (ws.take (j + 1)) := by
  have h0 : dnK dn (ws.take j) i = dn i := by unfold dnK; rw [if_neg (nodup_at hn hx)]; omega
  refine ⟨h0, ?_⟩
  funext k
  by_cases e : k = i
  · subst e
    unfold updN
    rw [if_pos rfl, h0, dnK, if_pos ((take_mem hx).2 (.inr rfl))]
  · unfold updN
    rw [if_neg e]
    unfold dnK
    congr 1
    by_cases h : (k : Int) ∈ ws.take j
    · rw [if_pos h, if_pos ((take_mem hx).2 (.inl h))]
    · rw [if_neg h, if_neg fun h' => ((take_mem hx).1 h').elim h fun h' => e (by omega)]
section
variable {p : PS} {r : R8} {acts : List (List Act)}
theorem SP.step (h : SP p r acts) {t a : Nat} {ys : List Act} {x : Act} (ht : t ∈ p.ready acts) (hat : p.ats[t]? = some a) (hy : acts[t]? = some ys) (hx : ys[a]? = some x) : SP (p.step acts t) (mustR r (t : Int) x.1 x.2.1 x.2.2).2 acts := by
  have ea : p.ats.getD t 0 = a := by rw [List.getD_eq_getElem?_getD, hat]; rfl
  have ex : actAt acts t a = x := by
    have ey : acts.getD t [] = ys := by rw [List.getD_eq_getElem?_getD, hy]; rfl
    rw [actAt, ey, List.getD_eq_getElem?_getD, hx]; rfl
  have hst : (p.step acts t).s = (doesF p.s (t : Int) x.1 x.2.1 x.2.2).2 := by simp only [PS.step, ea, ex]
  have E := does_eff h.sim (t : Int) x.1 x.2.1 x.2.2
  refine ⟨h.ok.step ht, by rw [hst]; exact (must_sim h.sim _ _ _ _).2, fun y hy' => ?_⟩
  rw [hst, E.eq] at hy'
  rcases hy' with ⟨h1, _⟩ | ⟨h1, _⟩
  · exact h.lt y h1
  · have := get_lt hy
    omega
theorem step_funs (h : SP p r acts) {t a : Nat} {x : Act} (hwt : p.s.wt (t : Int) = none) (hat : p.ats[t]? = some a) {d : Told × S8} (hd : doesF p.s (t : Int) x.1 x.2.1 x.2.2 = d) (i : Nat) :
    waK (updN (waN p.s.wt) t (actW x.1 d.1)) d.1.woken i = waN d.2.wt i ∧
    dnK (if actW x.1 d.1 then doneN p.s.wt p.ats else updN (doneN p.s.wt p.ats) t ((a : Int) + 1)) d.1.woken i = doneN d.2.wt (p.ats.set t (a + 1)) i := by
  have E := does_eff h.sim (t : Int) x.1 x.2.1 x.2.2
  rw [hd] at E
  have htw : (t : Int) ∉ d.1.woken := fun hm => by have := E.dm _ hm; rw [hwt] at this; cases this
  have hi := E.eq (i : Int)
  have hlt := get_lt hat
  by_cases e : i = t
  · subst e
    have hs : (d.2.wt (i : Int)).isSome = actW x.1 d.1 := by
      cases hb : actW x.1 d.1 with
      | true => rw [hi]; exact .inr ⟨rfl, hb⟩
      | false =>
        cases hq : (d.2.wt (i : Int)).isSome with
        | false => rfl
        | true =>
          rcases hi.1 hq with ⟨h1, _⟩ | ⟨_, h1⟩
          · rw [hwt] at h1; cases h1
          · rw [hb] at h1; cases h1
    refine ⟨?_, ?_⟩
    · simp only [waK, updN, if_true, waN, hs, decide_eq_false htw, Bool.not_false, Bool.and_true]
    · have e2 : (p.ats.set i (a + 1)).getD i 0 = a + 1 := by rw [List.getD_eq_getElem?_getD, List.getElem?_set_self hlt]; rfl
      have e1 : p.ats.getD i 0 = a := by rw [List.getD_eq_getElem?_getD, hat]; rfl
      unfold dnK doneN
      rw [if_neg htw, hs, e2]
      cases hb : actW x.1 d.1 with
      | true =>
        simp only [if_true, hwt, Option.isSome_none, Bool.false_eq_true, if_false, e1]
        omega
      | false =>
        simp only [Bool.false_eq_true, if_false, updN, if_true]
        omega
  · have hne : ¬ (i : Int) = t := by omega
    have e2 : (p.ats.set t (a + 1)).getD i 0 = p.ats.getD i 0 := by rw [List.getD_eq_getElem?_getD, List.getElem?_set_ne (fun h => e h.symm), List.getD_eq_getElem?_getD]
    have e3 : (if actW x.1 d.1 then doneN p.s.wt p.ats else updN (doneN p.s.wt p.ats) t ((a : Int) + 1)) i = doneN p.s.wt p.ats i := by
      split
      · rfl
      · unfold updN; rw [if_neg e]
    have hs : (d.2.wt (i : Int)).isSome = ((p.s.wt (i : Int)).isSome && !decide ((i : Int) ∈ d.1.woken)) := by
      rw [Bool.eq_iff_iff, hi]
      simp [hne]
    refine ⟨?_, ?_⟩
    · unfold waK updN waN
      rw [if_neg e, hs]
    · unfold dnK
      rw [e3]
      unfold doneN
      rw [e2, hs]
      by_cases hm : (i : Int) ∈ d.1.woken
      · rw [if_pos hm, E.dm _ hm, decide_eq_true hm]
        simp
      · rw [if_neg hm, decide_eq_false hm]
        simp
theorem done_bound {wt : Int → Option W3} {acts : List (List Act)} (h : p.Ok acts) (hs : sumL acts ≤ 4096) (i : Nat) : -1 ≤ doneN wt p.ats i ∧ doneN wt p.ats i ≤ 4096 := by
  have hb : p.ats.getD i 0 ≤ 4096 := by
    rw [List.getD_eq_getElem?_getD]
    cases ha : p.ats[i]? with
    | none => exact Nat.zero_le _
    | some a =>
      obtain ⟨ys, hy⟩ := get_ex (l := acts) (i := i) (by rw [← h.len]; exact get_lt ha)
      have h1 := h.le i a ys ha hy
      have h2 : ys.length ≤ sumL acts := le_sum (List.mem_map.2 ⟨ys, List.mem_of_getElem? hy, rfl⟩)
      show a ≤ 4096
      omega
  unfold doneN
  split <;> omega
end
end Full
end Go.Proofs.Ytibpbbjlecohiaa
set_option maxRecDepth 20000
namespace Go.Proofs.Ytibpbbjlecohiaa
namespace Full
open Go Go.Vc Go.RowKit
/-! # the document's Play -/
section
variable {s : S8} {r : R8}
theorem Sim.condMut (h : Sim s r) : CondM r := fun i y hy => by
  rw [h.rel.eM, h.rel.eL] at *
  rcases Nat.lt_or_ge i s.cs.length with hi | hi
  · obtain ⟨q, hq⟩ := get_ex (l := s.cs) hi
    have a := h.rel.crow hq
    rw [trW_c] at a
    rw [R8.row_of a] at hy
    obtain ⟨x, hx, rfl⟩ := List.mem_map.1 hy
    exact h.ws.mu q (List.mem_of_getElem? hq) x hx
  · rw [R8.row, List.getElem?_eq_none (by rw [h.rel.rl]; omega)] at hy
    simp at hy
end
theorem simNew (a b c d : Nat) : Sim (new8 a b c d) (new8R a b c d) := by
  have hq : ∀ q ∈ (new8 a b c d).qs, q = [] := fun q hq => by
    have hq : q ∈ (free a).map Mx.queue ++ ((List.replicate b (⟨[], -1, []⟩ : Lk)).map Lk.queue ++ List.replicate c []) := hq
    rcases List.mem_append.1 hq with h | h
    · obtain ⟨y, hy, rfl⟩ := List.mem_map.1 h
      rw [free] at hy
      rw [List.eq_of_mem_replicate hy]
    · rcases List.mem_append.1 h with h | h
      · obtain ⟨y, hy, rfl⟩ := List.mem_map.1 h
        rw [List.eq_of_mem_replicate hy]
      · exact List.eq_of_mem_replicate h
  have l1 : (new8 a b c d).ms.length = a := by simp [new8, free]
  have l2 : (new8 a b c d).ls.length = b := by simp [new8]
  have l3 : (new8 a b c d).cs.length = c := by simp [new8]
  have rows : ∀ j, j < 2 * (a + b) + c → (new8R a b c d).rows[j]? = some [] := fun j hj => by
    show (List.replicate _ _)[j]? = _
    rw [List.getElem?_replicate, if_pos hj]
  have em : ∀ m ∈ (new8 a b c d).ms, m = ⟨-1, []⟩ := fun m hm => List.eq_of_mem_replicate hm
  have el : ∀ l ∈ (new8 a b c d).ls, l = ⟨[], -1, []⟩ := fun l hl => List.eq_of_mem_replicate hl
  refine ⟨⟨l1.symm, l2.symm, l3.symm, rfl, by rw [l1, l2, l3]; simp [new8R], fun i m hm => ?_, fun i l hl => ?_, fun j q hj => ?_⟩, ⟨fun m hm => ?_, fun l hl => ?_, fun l hl => ?_, fun q hq x hx => ?_, fun m hm => ?_, fun l hl => ?_, ⟨fun q hq' x hx => ?_, fun t v hv => ?_, fun v => ⟨?_, fun hv => ?_⟩, fun q hq' => ?_⟩⟩⟩
  · have := get_lt hm
    rw [em m (List.mem_of_getElem? hm), rows _ (by omega)]; rfl
  · have := get_lt hl
    rw [el l (List.mem_of_getElem? hl), l1, rows _ (by omega)]; rfl
  · have := get_lt hj
    rw [qs_len] at this
    rw [hq q (List.mem_of_getElem? hj), l1, l2, rows _ (by unfold qrow; split <;> omega)]; rfl
  · rw [em m hm]; exact .inr ⟨rfl, rfl⟩
  · rw [el l hl]; exact .inl rfl
  · rw [el l hl]; exact ⟨List.nodup_nil, fun x hx => by simp at hx, fun t ht => by simp at ht⟩
  · have : q = [] := List.eq_of_mem_replicate hq
    rw [this] at hx; simp at hx
  · rw [em m hm]; show (-1 : Int) < 16; decide
  · rw [el l hl]; show (-1 : Int) < 16; decide
  · rw [hq q hq'] at hx; simp at hx
  · cases hv
  · rintro ⟨j, q, x, hj, hx, _⟩
    rw [hq q (List.mem_of_getElem? hj)] at hx; simp at hx
  · cases hv
  · rw [hq q hq']; exact List.nodup_nil

theorem nodup_le (n : Nat) (xs : List Int) (hn : xs.Nodup) (h : ∀ x ∈ xs, 0 ≤ x ∧ x < (n : Int)) : xs.length ≤ n := by
  have : xs.length ≤ ((List.range n).map fun i : Nat => (i : Int)).length := List.Nodup.length_le_of_subset hn fun y hy => by
    have := h y hy
    exact List.mem_map.2 ⟨y.toNat, List.mem_range.2 (by omega), by omega⟩
  simpa using this
theorem QI.congr {W w : World} {Q o : Nat} {g : GR} {r : R8} {bd bo bw n : Nat} {oh dh : Hd} {dn dn' : Nat → Int} {wa wa' : Nat → Bool} {ord : List Tn} {dd : List Int} (h : QI W w Q o g r bd bo bw n oh dh dn wa ord dd) (h1 : ∀ i, i < n → dn i = dn' i) (h2 : ∀ i, i < n → wa i = wa' i) : QI W w Q o g r bd bo bw n oh dh dn' wa' ord dd :=
  { h with
    db := by rw [← arG_congr fun i hi => congrArg (Value.int .i64) (h1 i hi)]; exact h.db
    wb := by rw [← arG_congr fun i hi => congrArg Value.bool (h2 i hi)]; exact h.wb }
theorem new_sim (a b c d : Nat) (acts : List (List Act)) : SP (startP (new8 a b c d) acts.length) (new8R a b c d) acts := ⟨start_ok _ _, simNew a b c d, fun x hx => by cases hx⟩
end Full
end Go.Proofs.Ytibpbbjlecohiaa
set_option maxRecDepth 20000
namespace Go.Proofs.Ytibpbbjlecohiaa
namespace Full
open Go Go.Vc Go.RowKit
/-- a turn of it: the goal of its code -/
def Turn24 (z1p : Option Addr) (z1n : Nat) (p1 : Option Addr) (bo bw nw : Nat) (x4 : Int) (w21 : World) (End : World → Prop) : Prop :=
  ∃ K1 : Addr → Prop, (onPtr z1p fun a6 => 0 ≤ (x4 : Int) ∧ (x4 : Int) < ((z1n : Nat) : Int) ∧ ∃ (q20 : Option Addr) (l20 c20 : Nat), K1 (a6.add ((x4 : Int).toNat * 1)) ∧ w21.drew.cell? (a6.add ((x4 : Int).toNat * 1)) = some (.slice q20 l20 c20) ∧ ∃ (q21 : Option Addr) (l21 c21 : Nat), K1 (⟨bo, 0, none⟩ : Addr) ∧ w21.drew.cell? (⟨bo, 0, none⟩ : Addr) = some (.slice q21 l21 c21) ∧ (onPtr q21 fun a7 => 0 ≤ (x4 : Int) ∧ (x4 : Int) < ((l21 : Nat) : Int) ∧ ∃ n15 : Int, K1 (a7.add ((x4 : Int).toNat * 1)) ∧ w21.drew.cell? (a7.add ((x4 : Int).toNat * 1)) = some (.int .i64 n15) ∧ (onPtr q20 fun a8 => 0 ≤ (n15 : Int) ∧ (n15 : Int) < ((l20 : Nat) : Int) ∧ ∃ n16 : Int, ∃ n17 : Int, ∃ n18 : Int, (∀ j : Nat, j < 3 → K1 ((a8.add ((n15 : Int).toNat * 3)).add j)) ∧ reads w21.drew (a8.add ((n15 : Int).toNat * 3)) [.int .i64 n16, .int .i64 n17, .int .i64 n18] ∧ Calls Try.prog 59 #[.pointer p1, .int .i64 x4, .agg #[.int .i64 n16, .int .i64 n17, .int .i64 n18]] w21.drew fun (e4 : Ending) (w22 : World) => ∃ b3 : Bool, ∃ (q22 : Option Addr) (l22 c22 : Nat), ∃ n19 : Int, e4 = .returned (.tuple #[.bool b3, .slice q22 l22 c22, .int .i64 n19]) ∧ Keeps K1 w21.drew w22 ∧ ∃ K2 : Addr → Prop, ∃ (q23 : Option Addr) (l23 c23 : Nat), K2 ((⟨bo, 0, none⟩ : Addr).add 1) ∧ w22.drew.cell? ((⟨bo, 0, none⟩ : Addr).add 1) = some (.slice q23 l23 c23) ∧ ∃ (q24 : Option Addr) (l24 c24 : Nat), K2 (⟨bo, 0, none⟩ : Addr) ∧ w22.drew.cell? (⟨bo, 0, none⟩ : Addr) = some (.slice q24 l24 c24) ∧ (onPtr q24 fun a9 => 0 ≤ (x4 : Int) ∧ (x4 : Int) < ((l24 : Nat) : Int) ∧ ∃ n20 : Int, K2 (a9.add ((x4 : Int).toNat * 1)) ∧ w22.drew.cell? (a9.add ((x4 : Int).toNat * 1)) = some (.int .i64 n20) ∧ ∀ w23 : World, w23 = w22.drew.alloc (.cells #[.int .i64 x4, .int .i64 n20, .bool b3, .int .i64 n19] 62) → Keeps K2 w22.drew w23 ∧ ∃ (q25 : Option Addr) (l25 c25 : Nat), ∃ w24 : World, (Builtin.append_ #[52, 52] 52 #[.slice q23 l23 c23, .slice (some (⟨w22.drew.heap.size, 0, none⟩ : Addr)) 1 1]).run Try.prog w23 = .ok (.slice q25 l25 c25) w24 ∧ canStore w24 ((⟨bo, 0, none⟩ : Addr).add 1) 1 ∧ ∀ w25 : World, w25 = setCells ((⟨bo, 0, none⟩ : Addr).add 1) 0 [.slice q25 l25 c25] w24 → 0 ≤ (x4 : Int) ∧ (x4 : Int) < ((nw : Nat) : Int) ∧ canStore w25 ((⟨bw, 0, none⟩ : Addr).add ((x4 : Int).toNat * 1)) 1 ∧ ∀ w26 : World, w26 = setCells ((⟨bw, 0, none⟩ : Addr).add ((x4 : Int).toNat * 1)) 0 [.bool b3] w25 → ∃ J2 : World → Prop, (∀ (w27 : World), J2 w27 → ∃ (I4 : Int → World → Prop) (M4 : Int → World → Nat), I4 0 w27 ∧ ∀ (x5 : Int) (w29 : World), I4 x5 w29 → (bcase (decide ((x5 : Int) < ((l22 : Nat) : Int))) ((onPtr q22 fun a12 => 0 ≤ (x5 : Int) ∧ (x5 : Int) < ((l22 : Nat) : Int) ∧ ∃ n22 : Int, w29.cell? (a12.add ((x5 : Int).toNat * 1)) = some (.int .i64 n22) ∧ 0 ≤ (n22 : Int) ∧ (n22 : Int) < ((nw : Nat) : Int) ∧ canStore w29 ((⟨bw, 0, none⟩ : Addr).add ((n22 : Int).toNat * 1)) 1 ∧ ∀ w30 : World, w30 = setCells ((⟨bw, 0, none⟩ : Addr).add ((n22 : Int).toNat * 1)) 0 [.bool false] w29 → ∃ (q27 : Option Addr) (l27 c27 : Nat), w30.cell? (⟨bo, 0, none⟩ : Addr) = some (.slice q27 l27 c27) ∧ (onPtr q27 fun a13 => 0 ≤ (n22 : Int) ∧ (n22 : Int) < ((l27 : Nat) : Int) ∧ ∃ n23 : Int, w30.cell? (a13.add ((n22 : Int).toNat * 1)) = some (.int .i64 n23) ∧ (onPtr q27 fun a14 => 0 ≤ (n22 : Int) ∧ (n22 : Int) < ((l27 : Nat) : Int) ∧ canStore w30 (a14.add ((n22 : Int).toNat * 1)) 1 ∧ ∀ w31 : World, w31 = setCells (a14.add ((n22 : Int).toNat * 1)) 0 [.int .i64 (IntKind.wrap .i64 (n23 + 1))] w30 → I4 (IntKind.wrap .i64 (x5 + 1)) w31 ∧ M4 (IntKind.wrap .i64 (x5 + 1)) w31 < M4 x5 w29)))) (End w29))) ∧ (bcase (!b3) (∃ (q26 : Option Addr) (l26 c26 : Nat), w26.cell? (⟨bo, 0, none⟩ : Addr) = some (.slice q26 l26 c26) ∧ (onPtr q26 fun a10 => 0 ≤ (x4 : Int) ∧ (x4 : Int) < ((l26 : Nat) : Int) ∧ ∃ n21 : Int, w26.cell? (a10.add ((x4 : Int).toNat * 1)) = some (.int .i64 n21) ∧ (onPtr q26 fun a11 => 0 ≤ (x4 : Int) ∧ (x4 : Int) < ((l26 : Nat) : Int) ∧ canStore w26 (a11.add ((x4 : Int).toNat * 1)) 1 ∧ ∀ w28 : World, w28 = setCells (a11.add ((x4 : Int).toNat * 1)) 0 [.int .i64 (IntKind.wrap .i64 (n21 + 1))] w26 → J2 w28))) (J2 w26))))))
theorem turn24 {W w21 : World} {i o bd bo bw : Nat} {g : GR} {r : R8} {oh z : Hd} {p : PS} {acts : List (List Act)} {t : Nat} {End : World → Prop} (hA3 : ActsR W z acts) (Q11 : QI W w21 i o g r bd bo bw acts.length oh (none, 0, 0) (doneN p.s.wt p.ats) (waN p.s.wt) p.ord []) (S : SP p r acts) (hm : t ∈ p.ready acts) (h16 : acts.length ≤ 16) (h4096 : sumL acts ≤ 4096) (hi : i ≤ 4096) (hord : p.ord.length = i)
    (hEnd : ∀ (w29 : World) (g' : GR) (r' : R8) (oh' : Hd), QI W w29 (i + 1) o g' r' bd bo bw acts.length oh' (none, 0, 0) (doneN (p.step acts t).s.wt (p.step acts t).ats) (waN (p.step acts t).s.wt) (p.step acts t).ord [] → SP (p.step acts t) r' acts → End w29) :
    Turn24 z.1 z.2.1 (some (ad o)) bo bw acts.length (t : Int) w21 End := by
  unfold Turn24
  have hzl := hA3.len
  obtain ⟨a', ys, x, hat, hy, hlt, hx, hwt, ea, ex⟩ := S.ok.mem hm
  have S' := S.step hm hat hy hx
  have htl : t < acts.length := get_lt hy
  have kdd : Chg none_ w21 w21.drew := (Chg.refl none_ w21).drew
  have Qd := Q11.chgN kdd
  obtain ⟨_, az, hd, hqz, hcz, hR⟩ := (hA3.chg Qd.chg).at' hy
  have hlen := hR.len
  obtain ⟨a6, x6, he6, hx6, hr6⟩ := hR.ex (i := a') (by omega)
  have hx6 : x = x6 := by rw [hx] at hx6; exact Option.some.inj hx6
  subst hx6
  have hdn : doneN p.s.wt p.ats t = (a' : Int) := by unfold doneN; rw [hwt, ea]; rfl
  have hrn : r.ns = p.s.ns := S.sim.rel.en
  have ha4 : a' ≤ 4096 := by
    have h2 := S.ok.le t a' ys hat hy
    have h4 : ys.length ≤ sumL acts := le_sum (List.mem_map.2 ⟨ys, List.mem_of_getElem? hy, rfl⟩)
    omega
  have hz0 : az.block < W.heap.size := by
    obtain ⟨_, az', hd', hqz', hcz', hR'⟩ := hA3.at' hy
    rw [hqz] at hqz'; cases hqz'
    have := cell_lt hcz'
    rwa [add_block] at this
  have h60 : a6.block < W.heap.size := by
    obtain ⟨_, az', hd', hqz', hcz', hR'⟩ := hA3.at' hy
    rw [hqz] at hqz'; cases hqz'
    have hh : hd' = hd := by
      have := (Chg.cell Qd.chg (p := az.add (t * 1)) (by rw [add_block]; exact hz0) (fun x => x)).symm.trans hcz
      rw [hcz'] at this
      simp only [Option.some.injEq, Value.slice.injEq] at this
      obtain ⟨h1, h2, h3⟩ := this
      exact Prod.ext h1 (Prod.ext h2 h3)
    subst hh
    obtain ⟨a7, x7, he7, hx7, hr7⟩ := hR'.ex (i := a') (by omega)
    rw [he6] at he7; cases he7
    have := reads_lt hr7
    rwa [add_block] at this
  have hlo := Qd.lo
  have hK : ∀ (b : Nat), b = bo ∨ b = bd ∨ b < W.heap.size → b < w21.drew.heap.size ∧ ¬ OwnR g o b := fun b hb => by
    rcases hb with hb | hb | hb
    · rw [hb]; exact ⟨Qd.ob.lt, Qd.no⟩
    · rw [hb]; exact ⟨Qd.db.lt, Qd.nd⟩
    · exact ⟨Nat.lt_of_lt_of_le hb Qd.chg.size, fun ho => by have := (Qd.lat.own_lt ho).2; omega⟩
  refine ⟨fun p => p.block = bo ∨ p.block = bd ∨ p.block < W.heap.size, onPtr_q hqz ⟨by omega, by omega, _, _, _, .inr (.inr (by rw [add_block]; exact hz0)), hcz, _, _, _, .inl rfl, (Qd.ob.cell 0).trans rfl,
    onPtr_mk ⟨by omega, by omega, _, .inr (.inl (add_block _ _)), Qd.atD htl, ?_⟩⟩⟩
  rw [hdn]
  refine onPtr_q he6 ⟨by omega, by omega, _, _, _, (fun j _ => .inr (.inr (by rw [add_block, add_block]; exact h60))), hr6, Calls.use (ract59 Qd.lat S.sim.condMut (by omega) (t : Int) x.1 x.2.1 x.2.2) ?_⟩
  obtain ⟨hm1, hm2⟩ := must_sim S.sim (t : Int) x.1 x.2.1 x.2.2
  have hsf := step_funs S (x := x) hwt hat rfl
  have E := does_eff S.sim (t : Int) x.1 x.2.1 x.2.2
  have hns' := does_ns p.s (t : Int) x.1 x.2.1 x.2.2
  have hst : p.step acts t = ⟨(doesF p.s (t : Int) x.1 x.2.1 x.2.2).2, p.ats.set t (a' + 1), p.ord ++ [⟨(t : Int), (a' : Int), actW x.1 (doesF p.s (t : Int) x.1 x.2.1 x.2.2).1, (doesF p.s (t : Int) x.1 x.2.1 x.2.2).1.err⟩]⟩ := by
    simp only [PS.step, ea, ex]
  rw [hst] at S' hEnd
  have hdm : ∀ y ∈ (doesF p.s (t : Int) x.1 x.2.1 x.2.2).1.woken, 0 ≤ y ∧ y < acts.length := fun y hy => S.lt y (E.dm y hy)
  have hdnb := done_bound (wt := p.s.wt) S.ok h4096
  have hS0 := S.ok
  generalize doesF p.s (t : Int) x.1 x.2.1 x.2.2 = d at *
  rintro _ w22 ⟨q22, l22, c22, rfl, hR22, hq22, g', I22, st22, hn22⟩
  rw [hm1] at hR22 ⊢
  generalize (mustR r (t : Int) x.1 x.2.1 x.2.2).2 = r' at *
  have Q22 := Qd.stp I22 st22
  refine ⟨_, _, _, _, _, rfl, fun pp hp => st22.chg.cell (hK _ hp).1 (hK _ hp).2, fun pp => pp.block = bo ∨ pp.block = bd, ?_⟩
  have kd2 : Chg none_ w22 w22.drew := (Chg.refl none_ w22).drew
  have Q2d := Q22.chgN kd2
  refine ⟨_, _, _, .inl (add_block _ _), (Q2d.ob.cell0 1).trans rfl, _, _, _, .inl rfl, (Q2d.ob.cell 0).trans rfl, onPtr_mk ⟨by omega, by omega, _, .inr (add_block _ _), Q2d.atD htl, fun w23 e23 => ⟨fun pp hp => ?_, ?_⟩⟩⟩
  · have k23 : Chg none_ w22.drew w23 := (Chg.refl none_ _).new' e23
    exact k23.cell (by rcases hp with hp | hp <;> rw [hp]; exact Q2d.ob.lt; exact Q2d.db.lt) fun x => x
  rw [hdn] at e23
  have hol := hord
  refine Q2d.turn (x := ⟨(t : Int), (a' : Int), actW x.1 d.1, d.1.err⟩) e23 (by omega) fun q25 c25 w25 Q25 k25 => ?_
  refine ⟨by omega, by omega, Q25.putW htl fun w26 Q26 k26 => ?_⟩
  have hSlt : ∀ b, (b = bo ∨ b = bd ∨ b = bw ∨ some b = qB oh.1) → b < w21.drew.heap.size := fun b hb => by
    rcases hb with hb | hb | hb | hb
    · rw [hb]; exact Qd.ob.lt
    · rw [hb]; exact Qd.db.lt
    · rw [hb]; exact Qd.wb.lt
    · exact (Qd.os.lt hb.symm).1
  have k226 : Chg (fun b => b = bo ∨ b = bd ∨ b = bw ∨ some b = qB oh.1) w22.drew w26 := (k25.mono fun b _ hb => by rcases hb with hb | hb; exact .inl hb; exact .inr (.inr (.inr hb))).trans (k26.mono fun b _ hb => .inr (.inr (.inl hb)))
  have keep : ∀ {w' : World}, Chg (fun b => b = bo ∨ b = bd ∨ b = bw ∨ some b = qB oh.1) w22.drew w' → RE En.int w' q22 l22 d.1.woken := fun k => (hR22.chg kd2).chgS k fun a ha hs => by
    have h1 := (hq22 a.block (by rw [ha]; rfl)).1
    have h2 := hSlt _ hs
    omega
  have hl22 : d.1.woken.length ≤ acts.length := nodup_le _ _ E.nd hdm
  have hlw := hR22.len
  refine ⟨fun w27 => QI W w27 (i + 1) o g' r' bd bo bw acts.length (q25, oh.2.1 + 1, c25) (none, 0, 0) (if actW x.1 d.1 then doneN p.s.wt p.ats else updN (doneN p.s.wt p.ats) t ((a' : Int) + 1)) (updN (waN p.s.wt) t (actW x.1 d.1)) (p.ord ++ [⟨(t : Int), (a' : Int), actW x.1 d.1, d.1.err⟩]) [] ∧ Chg (fun b => b = bo ∨ b = bd ∨ b = bw ∨ some b = qB oh.1) w22.drew w27, ?_, ?_⟩
  · rintro w27 ⟨Q27, k27⟩
    generalize hdn0 : (if actW x.1 d.1 then doneN p.s.wt p.ats else updN (doneN p.s.wt p.ats) t ((a' : Int) + 1)) = dn0 at Q27 hsf
    generalize updN (waN p.s.wt) t (actW x.1 d.1) = wa0 at Q27 hsf
    have hb0 : ∀ k, -1 ≤ dn0 k ∧ dn0 k ≤ 4097 := fun k => by
      rw [← hdn0]
      have := hdnb k
      split
      · omega
      · unfold updN; split <;> omega
    refine ⟨fun x5 w' => ∃ j : Nat, x5 = (j : Int) ∧ j ≤ l22 ∧ QI W w' (i + 1) o g' r' bd bo bw acts.length (q25, oh.2.1 + 1, c25) (none, 0, 0) (dnK dn0 (d.1.woken.take j)) (waK wa0 (d.1.woken.take j)) (p.ord ++ [⟨(t : Int), (a' : Int), actW x.1 d.1, d.1.err⟩]) [] ∧ Chg (fun b => b = bo ∨ b = bd ∨ b = bw ∨ some b = qB oh.1) w22.drew w', fun x5 _ => l22 - x5.toNat, ⟨0, rfl, Nat.zero_le _, by rw [List.take_zero, dnK_nil, waK_nil]; exact Q27, k27⟩, ?_⟩
    rintro _ w29 ⟨j, rfl, hj, Q29, k29⟩
    refine bc (fun hlt => ?_) fun hge => ?_
    · have hj' : j < l22 := by simpa using hlt
      obtain ⟨a12, y, hq12, hy12, hr12⟩ := (keep k29).ex hj'
      obtain ⟨hy0, hy1⟩ := hdm y (List.mem_of_getElem? hy12)
      obtain ⟨yn, rfl⟩ : ∃ yn : Nat, y = yn := ⟨y.toNat, by omega⟩
      have hyn : yn < acts.length := by omega
      obtain ⟨hd1, hd2⟩ := dnK_next (dn := dn0) E.nd hy12
      have := hb0 yn
      rw [wrapS (x := (j : Int) + 1) (by omega) (by omega)]
      refine onPtr_q hq12 ⟨by omega, by omega, _, reads_one' hr12, by omega, by omega, Q29.putW hyn fun w30 Q30 k30 => ⟨_, _, _, (Q30.ob.cell 0).trans rfl, onPtr_mk ⟨by omega, by omega, _, Q30.atD hyn, onPtr_mk ⟨by omega, by omega, Q30.putD hyn fun w31 Q31 k31 => ⟨⟨j + 1, by omega, hj', ?_, ?_⟩, meas hj'⟩⟩⟩⟩⟩
      · rw [wrapS (by rw [hd1]; omega) (by rw [hd1]; omega), hd2, waK_next hy12] at Q31
        exact Q31
      · exact (k29.trans (k30.mono fun b _ hb => .inr (.inr (.inl hb)))).trans (k31.mono fun b _ hb => .inr (.inl hb))
    · have hjl : j = l22 := by have := of_decide_eq_false hge; omega
      rw [hjl, List.take_of_length_le (by omega)] at Q29
      exact hEnd w29 g' r' _ (Q29.congr (fun k _ => (hsf k).2) fun k _ => (hsf k).1) S'
  · refine bc (fun hb => ?_) fun hb => ?_
    · have hb : actW x.1 d.1 = false := by simpa using hb
      refine ⟨_, _, _, (Q26.ob.cell 0).trans rfl, onPtr_mk ⟨by omega, by omega, _, Q26.atD htl, onPtr_mk ⟨by omega, by omega, Q26.putD htl fun w28 Q28 k28 => ⟨?_, k226.trans (k28.mono fun b _ hb => .inr (.inl hb))⟩⟩⟩⟩
      rw [hdn, wrapS (by omega) (by omega)] at Q28
      rw [hb] at Q28 ⊢
      exact Q28
    · have hb : actW x.1 d.1 = true := by simpa using hb
      refine ⟨?_, k226⟩
      rw [if_pos hb]
      exact Q26
end Full
end Go.Proofs.Ytibpbbjlecohiaa
