import Derived.Test.YtdlbmmodlkmofaaGreatDoorPzM
set_option maxRecDepth 20000
namespace Go.Proofs.YtdlbmmodlkmofaaGreatDoor
open Go Go.Vc Go.RowKit
theorem elemFault : ElemOk Tryz.prog 24 41 3 24 := ⟨Tryz.underlying24, .agg #[.int .i64 0, .int .i64 0, .int .i64 0], by kernel_rfl, rfl⟩
theorem elemFate : ElemOk Tryz.prog 44 43 3 24 := ⟨Tryz.underlying44, .agg #[.int .i64 0, .int .i64 0, .int .i64 0], by kernel_rfl, rfl⟩
theorem elemCrash : ElemOk Tryz.prog 25 46 3 40 := ⟨Tryz.underlying25, .agg #[.int .i64 0, .int .i64 0, .slice none 0 0], by kernel_rfl, rfl⟩
section
variable {α : Type} {E : En α} {w : World} {base : Nat} {e : TypeId} {q : Option Addr} {l c : Nat} {xs : List α}
theorem SE.blk (h : SE E w base e q l c xs) {g : Nat} (hg : qB q = some g) : ∃ cur, Blk w g e cur := by
  rcases h.ex with ⟨rfl, _⟩ | ⟨g', off, cur, rfl, _, hb, _⟩
  · simp [qB] at hg
  · simp [qB] at hg
    subst hg
    exact ⟨cur, hb⟩
theorem SE.ne (h : SE E w base e q l c xs) {k : Nat} {t : TypeId} {cs : Array Value} (B : Blk w k t cs) (ht : t ≠ e) : ∀ g, qB q = some g → g ≠ k := fun g hg hk => by
  obtain ⟨cur, hb⟩ := SE.blk h hg
  subst hk
  rw [Blk, B] at hb
  cases hb
  exact ht rfl
theorem SE.ne2 {β : Type} {E' : En β} {base' : Nat} {e' : TypeId} {q' : Option Addr} {l' c' : Nat} {ys : List β} (h : SE E w base e q l c xs) (h' : SE E' w base' e' q' l' c' ys) (ht : e' ≠ e) : ∀ g, qB q = some g → some g ≠ qB q' := fun g hg hk => by
  obtain ⟨cur, hb⟩ := SE.blk h' hk.symm
  exact SE.ne h hb ht g hg rfl
end
/-- crashes of one's own, their fates too -/
def OwnP (w : World) (base : Nat) (h : CrH) (c : Cr) : Prop := h.step = c.step ∧ h.rest = c.rest ∧ SE En.t3 w base 43 h.q h.l h.c c.fates ∧ h.l * 24 ≤ 140737488351232
structure CrsO (w : World) (base : Nat) (q : Option Addr) (l c : Nat) (cs : List Cr) : Prop where
  ex : ∃ hs, SE En.crh w base 46 q l c hs ∧ hs.length = cs.length ∧ ∀ (i : Nat) (h : CrH) (c : Cr), hs[i]? = some h → cs[i]? = some c → OwnP w base h c
theorem CrsO.re {w : World} {base : Nat} {q : Option Addr} {l c : Nat} {cs : List Cr} (h : CrsO w base q l c cs) : CrsR w q l cs := by
  obtain ⟨hs, h1, h2, h3⟩ := h.ex
  exact ⟨hs, h1.re, h2, fun i x y hx hy => by
    obtain ⟨a, b, d, e⟩ := h3 i x y hx hy
    exact ⟨a, b, d.re, e, d.le⟩⟩
theorem OwnP.chg {w w' : World} {base : Nat} {h : CrH} {c : Cr} (o : OwnP w base h c) {S : Nat → Prop} (k : Chg S w w') (hS : ∀ g, qB h.q = some g → ¬ S g) : OwnP w' base h c :=
  ⟨o.1, o.2.1, o.2.2.1.chg k hS, o.2.2.2⟩
theorem copy13 {w : World} {q1 q2 : Option Addr} {l1 c1 l2 c2 : Nat} {fs : List T3} {cs : List Cr} (h1 : RE En.t3 w q1 l1 fs) (h2 : CrsR w q2 l2 cs) (hl1 : l1 * 24 ≤ 140737488351232) (hl2 : l2 * 40 ≤ 140737488351232) :
    Calls Tryz.prog 6 #[.agg #[.slice q1 l1 c1, .slice q2 l2 c2]] w (Ret fun v w' => ∃ q3 c3 q4 c4, v = .agg #[.slice q3 l1 c3, .slice q4 l2 c4] ∧ SE En.t3 w' w.heap.size 41 q3 l1 c3 fs ∧ CrsO w' w.heap.size q4 l2 c4 cs ∧ Chg none_ w w') := by
  refine f6.calls _ _ _ _ _ _ ?_
  unfold f6.wp
  have e2 := h2.len
  refine newBox fun w1 B1 k1 _ => newBox fun w2 B2 k2 _ => newBox fun w3 B3 k3 _ => ?_
  have k03 := k1.trans (k2.trans k3)
  have A3 := (k2.trans k3).blk B1 (fun x => x)
  have R3 := k3.blk B2 (fun x => x)
  have hs1 := k1.size
  have hs2 := k2.size
  have S3 : SE En.t3 w3 w.heap.size 41 (some ⟨w2.heap.size, 0, none⟩) 0 0 [] := SE.lit B3 (by omega) (fun n v hv => by simp [En.flat] at hv) rfl (Nat.le_refl _) (by decide) (by simp)
  obtain ⟨q3, c3, w4, hrun, S4, k4, hq3, _, _, _⟩ := S3.append (t := 24) (ty := 24) (c2 := c1) elemFault (h1.chg k03) (by simp only [maxLen]; omega) (by omega) k03.size
  simp only [Nat.zero_add, List.nil_append] at S4 hrun
  have k24 : Chg none_ w2 w4 := k3.up k4 fun k hk => by simp [qB] at hk; omega
  have k04 := k1.trans (k2.trans k24)
  refine ⟨_, _, _, (A3.cell 0).trans rfl, _, _, _, _, hrun, boxed rfl rfl fun w6 P6 k6 s6 => ?_⟩
  have k26 := k24.trans k6
  have A6 := (k2.trans k26).blk B1 (fun x => x)
  have S6 := S4.chgN k6
  have hs4 := k04.size
  refine ⟨_, _, _, (A6.cell0 1).trans rfl, fun x w' => ∃ (i : Nat) (q : Option Addr) (c : Nat) (hs : List CrH), x = i ∧ i ≤ l2 ∧ Blk w' w4.heap.size 27 #[.slice q3 l1 c3, .slice q i c] ∧ SE En.t3 w' w.heap.size 41 q3 l1 c3 fs ∧ SE En.crh w' w.heap.size 46 q i c hs ∧ (∀ (j : Nat) (h : CrH) (c : Cr), hs[j]? = some h → cs[j]? = some c → OwnP w' w.heap.size h c) ∧ Blk w' w1.heap.size 27 #[.slice none 0 0, .slice none 0 0] ∧ Chg none_ w w', fun x _ => l2 - x.toNat, ⟨0, none, 0, [], rfl, Nat.zero_le _, P6, S6, SE.nil _ _ _ _, fun j h c hj => by simp at hj, k26.blk B2 (fun x => x), k1.trans (k2.trans k26)⟩, ?_⟩
  rintro x w7 ⟨i, q5, c5, hs, rfl, hi, P7, S7, T7, hO, R7, k07⟩
  refine bc (fun hlt => ?_) (fun hge => ?_)
  · have hi' : i < l2 := by simpa using hlt
    rw [wrapS (x := (i : Int) + 1) (by omega) (by omega)]
    obtain ⟨a, u, f, rfl, hf, hr, e1, e2', hfa, hub, huc⟩ := (h2.chg k07).at' hi'
    obtain ⟨us, ur, uq, ul, uc⟩ := u
    simp only at e1 e2' hfa hub huc
    subst e1; subst e2'
    have hr : reads w7 (a.add (i * 3)) [.int .i64 f.step, .int .i64 f.rest, .slice uq ul uc] := hr
    refine onPtr_mk ⟨by omega, by omega, _, _, _, _, _, hr, boxed rfl rfl fun w9 B9 k9 _ => ?_⟩
    have C := B9.drew
    have k9' := k9.drew
    generalize w9.drew = W at *
    have P9 := k9'.blk P7 (fun x => x)
    have T9 := T7.chgN k9'
    refine ⟨fun p => p.block < W.heap.size, _, _, _, P9.lt, (P9.cell0 1).trans rfl, _, C.lt, (C.cell 0).trans rfl, _, C.lt, (C.cell0 1).trans rfl, _, _, _, C.lt, (C.cell0 2).trans rfl, newBox fun w10 B10 k10 s10 => ?_⟩
    have hW : w.heap.size ≤ W.heap.size := (k07.trans k9').size
    have S10 : SE En.t3 w10 w.heap.size 43 (some ⟨W.heap.size, 0, none⟩) 0 0 [] := SE.lit B10 hW (fun n v hv => by simp [En.flat] at hv) rfl (Nat.le_refl _) (by decide) (by simp)
    obtain ⟨q7, c7, w11, hrun7, S11, k11, _, _, _, _⟩ := S10.append (t := 44) (ty := 44) (c2 := uc) elemFate (hfa.chg (k9'.trans k10)) (by simp only [maxLen]; omega) (by omega) (by omega)
    simp only [Nat.zero_add, List.nil_append] at S11 hrun7
    have k11' : Chg none_ W w11 := k10.up k11 fun k hk => by simp [qB] at hk; omega
    refine ⟨k10.keeps, _, _, _, _, hrun7, k11'.keeps, newBox fun w12 B12 k12 s12 => ?_⟩
    have k12' := k11'.trans k12
    have T12 := T9.chgN k12'
    have hs12 := k12'.size
    obtain ⟨q8, c8, w13, hrun8, T13, k13, _, _⟩ := T12.append1 (t := 25) (ty := 25) (x := ⟨f.step, f.rest, q7, ul, c7⟩) elemCrash B12 (by simp only [maxLen]; omega) (by omega) (by omega)
    refine ⟨k12'.keeps, _, _, _, _, hrun8, ?_⟩
    have P12 := k12'.blk P9 (fun x => x)
    have P13 : Blk w13 w4.heap.size 27 #[.slice q3 l1 c3, .slice q5 i c5] := k13.blk P12 (fun hk => SE.ne T12 P12 (by decide) _ hk.symm rfl)
    refine ⟨P13.canStore0 (show 1 + 1 ≤ 2 by decide), fun w14 e14 => ?_⟩
    have P14 : Blk w14 w4.heap.size 27 #[.slice q3 l1 c3, .slice q8 (i + 1) c8] := P13.sets' e14
    have k14 : Chg (fun k => k = w4.heap.size) w13 w14 := (Chg.refl _ w13).sets' e14 (.inl rfl)
    -- what is kept from w7 to w14
    have keepT : ∀ {b0 : Nat} {q' : Option Addr} {l' c' : Nat} {xs : List T3} {ty : TypeId}, ty ≠ 27 → ty ≠ 46 → SE En.t3 w12 b0 ty q' l' c' xs → SE En.t3 w14 b0 ty q' l' c' xs := fun h28 h42 hS => by
      have s13 := hS.chg k13 fun g hg hk => SE.ne2 hS T12 (Ne.symm h42) g hg hk
      exact s13.chg k14 fun g hg hk => SE.ne s13 P13 (Ne.symm h28) g hg hk
    have k712 : Chg none_ w7 w12 := k9'.trans k12'
    have T14 : SE En.crh w14 w.heap.size 46 q8 (i + 1) c8 (hs ++ [⟨f.step, f.rest, q7, ul, c7⟩]) := T13.chg k14 fun g hg hk => SE.ne T13 P13 (by decide) g hg hk
    have k013 : Chg none_ w w13 := (k07.trans k712).up k13 fun k hk => (SE.lt T12 hk.symm).2
    have k014 : Chg none_ w w14 := k013.up k14 fun k hk => by omega
    have R12 := k712.blk R7 (fun x => x)
    have R13 : Blk w13 w1.heap.size 27 #[.slice none 0 0, .slice none 0 0] := k13.blk R12 (fun hk => SE.ne T12 R12 (by decide) _ hk.symm rfl)
    have R14 := k14.blk R13 (fun hk => by have := B2.lt; have := k24.size; omega)
    refine ⟨⟨i + 1, q8, c8, _, rfl, hi', P14, keepT (by decide) (by decide) (S7.chgN k712), T14, fun j h c hj hc => ?_, R14, k014⟩, meas hi'⟩
    rcases Nat.lt_or_ge j hs.length with hlt' | hge'
    · rw [List.getElem?_append_left hlt'] at hj
      have o := hO j h c hj hc
      exact ⟨o.1, o.2.1, keepT (by decide) (by decide) (o.2.2.1.chgN k712), o.2.2.2⟩
    · have hlen : hs.length = i := T7.len
      have : j = i := by have := get_lt hj; simp at this; omega
      subst this
      rw [List.getElem?_append_right hge', hlen, Nat.sub_self] at hj
      cases hj
      rw [hf] at hc; cases hc
      exact ⟨rfl, rfl, keepT (by decide) (by decide) (S11.chgN k12), hub⟩
  · have hge : i = l2 := by simp at hge; omega
    subst hge
    refine ⟨_, _, _, _, _, _, P7.reads0, R7.canStore (by show 0 + 2 ≤ 2; decide), fun w15 e15 => ?_⟩
    have R15 := R7.over e15 rfl
    have k15 : Chg (fun k => k = w1.heap.size) w7 w15 := (Chg.refl _ w7).sets' e15 (.inl rfl)
    refine ⟨_, _, _, _, _, _, R15.reads0, q3, c3, q5, c5, rfl, S7.chg k15 fun g hg hk => SE.ne S7 R7 (by decide) g hg hk, ⟨hs, T7.chg k15 fun g hg hk => SE.ne T7 R7 (by decide) g hg hk, by rw [T7.len]; omega, fun j h c hj hc => ?_⟩, k07.sets' e15 (.inr hs1)⟩
    have o := hO j h c hj hc
    exact o.chg k15 fun g hg hk => SE.ne o.2.2.1 R7 (by decide) g hg hk
end Go.Proofs.YtdlbmmodlkmofaaGreatDoor
