import Derived.Test.YtdlbmmodlkmofaaGreatDoorPzR
set_option maxRecDepth 20000
namespace Go.Proofs.YtdlbmmodlkmofaaGreatDoor
open Go Go.Vc Go.RowKit
/-! # Print of the reference -/
theorem lnF_is {f : T3} : lineOf (lnF f) = [102, 97, 117, 108, 116, 32] ++ (wd wOp f.1).data.toList ++ [32] ++ (nW f.2.1).data.toList ++ [32] ++ (wd wFault f.2.2).data.toList ++ [10] := by
  simp [lineOf, lnF, join_two, join1, bs]
theorem lnC_is {c : Cr} (h : Vk c) : lineOf (lnC c) = [99, 114, 97, 115, 104, 32] ++ (nW c.step).data.toList ++ [32] ++ fateW (0, c.rest, 0) ++ [10] := by
  rcases h.rest with h | h
  · simp [lineOf, lnC, join_two, join1, bs, fateW, h, wd, wFate]
  · simp [lineOf, lnC, join_two, join1, bs, fateW, h, wd, wFate]
theorem lnT_is {t : T3} (h : Vt t) : lineOf (lnT t) = [112, 97, 103, 101, 32] ++ (nW t.1).data.toList ++ [32] ++ fateW t ++ [10] := by
  rcases h.kind with h | h | h
  · simp [lineOf, lnT, lnT3, join_two, join1, bs, fateW, h, wd, wFate]
  · simp [lineOf, lnT, lnT3, join_two, join1, bs, fateW, h, wd, wFate]
  · simp [lineOf, lnT, lnT3, join_two, join1, bs, fateW, h, wd, wFate]
theorem print8 {w : World} (g : Gm) {q1 q2 : Option Addr} {l1 l2 c1 c2 : Nat} {fs : List T3} {cs : List Cr} (h1 : RE En.t3 w q1 l1 fs) (h2 : CrsR w q2 l2 cs) (hl1 : l1 ≤ 9223372036854775807) (hl2 : l2 ≤ 9223372036854775807) :
    Calls Tryz.prog 8 #[.agg (gv g).toArray, .agg #[.slice q1 l1 c1, .slice q2 l2 c2]] w (Ret fun v w' => v = .tuple #[.string (if chk g fs cs = 0 then bs (planT fs cs) else bs []), .int .i64 (chk g fs cs)] ∧ Chg none_ w w') := by
  refine f8.calls _ _ _ _ _ _ _ _ _ _ ?_
  unfold f8.wp
  refine newBox fun w1 B1 k1 _ => newBox fun w2 B2 k2 _ => ?_
  have k02 := k1.trans k2
  refine ⟨_, _, _, _, (k2.blk B1 (fun x => x)).reads0, _, _, _, _, _, _, B2.reads0, Calls.use (check15 g (h1.chg k02) (h2.chg k02) hl1 hl2) ?_⟩
  rintro _ w3 ⟨rfl, k3⟩
  have k03 := k02.trans k3
  refine ⟨_, rfl, bc (fun hne => ?_) fun heq => ?_⟩
  · have hne : chk g fs cs ≠ 0 := by simpa using hne
    rw [if_neg hne]
    exact ⟨rfl, k03⟩
  have heq : chk g fs cs = 0 := by simpa using heq
  rw [if_pos heq, heq]
  have V := vp_of heq
  have e1 := h1.len
  have e2 := h2.len
  have vfl := V.fl
  have vcl := V.cl
  have P3 := k3.blk B2 (fun x => x)
  refine ⟨_, _, _, (P3.cell 0).trans rfl, fun x1 x2 w' => ∃ i : Nat, x2 = (i : Int) ∧ i ≤ l1 ∧ x1.data.toList = txF (fs.take i) ∧ Chg none_ w3 w', fun _ x2 _ => l1 - x2.toNat, ⟨0, rfl, Nat.zero_le _, by simp [txF], Chg.refl _ _⟩, ?_⟩
  rintro x1 _ w4 ⟨i, rfl, hi, ht, k4⟩
  refine bc (fun hlt => ?_) fun hge => ?_
  · have hi' : i < l1 := by simpa using hlt
    rw [wrapS (x := (i : Int) + 1) (by omega) (by omega)]
    obtain ⟨a, f, rfl, hf, hr⟩ := (h1.chg (k03.trans k4)).ex hi'
    have vf := V.f f (List.mem_of_getElem? hf)
    have ho := vf.op
    have hn := vf.nth
    have z1 : x1.size ≤ 6400 := by
      have := txF_len (fs := fs.take i) fun x hx => V.f x (List.mem_of_mem_take hx)
      rw [List.length_take] at this
      rw [s_size, ht]; omega
    have z2 : (wd wOp f.1).size ≤ 8 := by rw [s_size]; exact wd_len opLen _
    have z3 : (nW f.2.1).size ≤ 18 := by rw [s_size]; exact nW_len hn.2
    have z4 : (wd wFault f.2.2).size ≤ 8 := by rw [s_size]; exact wd_len faultLen _
    have y1 : (⟨#[102, 97, 117, 108, 116, 32]⟩ : ByteArray).size = 6 := rfl
    have y2 : (⟨#[32]⟩ : ByteArray).size = 1 := rfl
    have y3 : (⟨#[10]⟩ : ByteArray).size = 1 := rfl
    refine onPtr_mk ⟨by omega, by omega, _, _, _, hr, boxed rfl rfl fun w7 B7 k7 _ => ?_⟩
    refine ⟨fun x3 w' => w7 = w' ∧ x3 = wd wFault f.2.2, ?_, f.2.2, (B7.cell0 2).trans rfl, bc (fun h => ⟨rfl, ?_⟩) fun h => ⟨rfl, ?_⟩⟩
    rotate_left
    · have h : f.2.2 = 2 := by simpa using h
      rw [h]; rfl
    · have h : f.2.2 ≠ 2 := by simpa using h
      have h : f.2.2 = 1 := vf.kind.resolve_right h
      rw [h]; rfl
    rintro x3 _ ⟨rfl, rfl⟩
    have B7' := B7.drew
    have k47 : Chg none_ w4 w7.drew := k7.drew
    generalize w7.drew = w7' at *
    have fin : ∀ (s : ByteArray) (w' : World), s.data.toList = x1.data.toList ++ lineOf (lnF f) → Chg none_ w7' w' → (∃ i' : Nat, ((i : Int) + 1) = (i' : Int) ∧ i' ≤ l1 ∧ s.data.toList = txF (fs.take i') ∧ Chg none_ w3 w') ∧ l1 - ((i : Int) + 1).toNat < l1 - (i : Int).toNat := fun s w' h k =>
      ⟨⟨i + 1, by omega, hi', by rw [h, take_snoc hf, txF_snoc, ht], k4.trans (k47.trans k)⟩, meas hi'⟩
    rw [lnF_is] at fin
    have kk := Chg.refl none_ w7'
    refine ⟨fun p => p.block < w7'.heap.size, f.1, B7'.lt, (B7'.cell 0).trans rfl, f.2.1, B7'.lt, (B7'.cell0 1).trans rfl, ?_⟩
    repeat' (first
      | exact Chg.keeps (by assumption)
      | (refine Calls.use (opName22 (by omega) (by omega)) ?_; rintro _ wn ⟨rfl, kn⟩; have kk : Chg none_ w7' _ := Chg.trans (by assumption) kn; refine ⟨_, rfl, ?_⟩)
      | (refine Calls.use (number23 (by omega) (by omega)) ?_; rintro _ wn ⟨rfl, kn⟩; have kk : Chg none_ w7' _ := Chg.trans (by assumption) kn; refine ⟨_, rfl, ?_⟩)
      | refine fin _ _ ?_ (by assumption)
      | refine catK (by omega) (by omega) fun s d yy => ?_
      | refine And.intro ?_ ?_)
    all_goals (simp only [*]; try simp)
  have hil : i = l1 := by have := of_decide_eq_false hge; omega
  subst hil
  rw [List.take_of_length_le (by omega)] at ht
  have lenF := txF_len V.f
  have P4 := k4.blk P3 (fun x => x)
  refine ⟨_, _, _, (P4.cell0 1).trans rfl, fun x1 x2 w' => ∃ i : Nat, x2 = (i : Int) ∧ i ≤ l2 ∧ x1.data.toList = txF fs ++ txC (cs.take i) ∧ Chg none_ w3 w', fun _ x2 _ => l2 - x2.toNat, ⟨0, rfl, Nat.zero_le _, by simpa [txC] using ht, k4⟩, ?_⟩
  rintro x4 _ w5 ⟨i, rfl, hi, ht, k5⟩
  refine bc (fun hlt => ?_) fun hge => ?_
  rotate_left
  · have hil : i = l2 := by have := of_decide_eq_false hge; omega
    subst hil
    rw [List.take_of_length_le (by omega)] at ht
    refine ⟨?_, k03.trans k5⟩
    rw [ba_of ht]; rfl
  have hi' : i < l2 := by simpa using hlt
  rw [wrapS (x := (i : Int) + 1) (by omega) (by omega)]
  obtain ⟨a, u, y, rfl, hy, hr, eu1, eu2, hf, hub, _⟩ := h2.at' hi'
  have vc := V.c y (List.mem_of_getElem? hy)
  have hst := vc.step
  have hfl := hf.len
  obtain ⟨us, ur, uq, ul, uc⟩ := u
  simp only at eu1 eu2 hf hfl hub
  subst eu1; subst eu2
  have vlen := vc.len
  have lenC : (txC (cs.take i)).length ≤ 6500 * 16 := by
    have := txC_len (cs := cs.take i) fun x hx => V.c x (List.mem_of_mem_take hx)
    rw [List.length_take] at this; omega
  have z1 : x4.size ≤ 200000 := by rw [s_size, ht, List.length_append]; omega
  have z3 : (nW y.step).size ≤ 18 := by rw [s_size]; exact nW_len hst.2
  have y1 : (⟨#[99, 114, 97, 115, 104, 32]⟩ : ByteArray).size = 6 := rfl
  have y2 : (⟨#[32]⟩ : ByteArray).size = 1 := rfl
  have y3 : (⟨#[10]⟩ : ByteArray).size = 1 := rfl
  have y4 : (⟨#[112, 97, 103, 101, 32]⟩ : ByteArray).size = 5 := rfl
  refine onPtr_mk ⟨by omega, by omega, _, _, _, _, _, (k03.trans k5).readsN hr, boxed rfl rfl fun w7 B7 k7 _ => ?_⟩
  have B7' := B7.drew
  have k57 : Chg none_ w5 w7.drew := k7.drew
  refine ⟨fun x6 w' => x6.data.toList = x4.data.toList ++ lineOf (lnC y) ∧ x6.size ≤ 200100 ∧ Chg none_ w7.drew w', ?_, ?_⟩
  rotate_left
  · generalize w7.drew = w7' at *
    have fin : ∀ (s : ByteArray) (w' : World), s.data.toList = x4.data.toList ++ lineOf (lnC y) → Chg none_ w7' w' → s.data.toList = x4.data.toList ++ lineOf (lnC y) ∧ s.size ≤ 200100 ∧ Chg none_ w7' w' := fun s w' h k => ⟨h, by
      have := lnC_len vc
      rw [s_size, h, List.length_append, ← s_size]; omega, k⟩
    rw [lnC_is vc] at fin ⊢
    have kk := Chg.refl none_ w7'
    refine ⟨fun p => p.block < w7'.heap.size, y.step, B7'.lt, (B7'.cell 0).trans rfl, y.rest, B7'.lt, (B7'.cell0 1).trans rfl, ?_⟩
    repeat' (first
      | exact Chg.keeps (by assumption)
      | (refine Calls.use (number23 (by omega) (by omega)) ?_; rintro _ wn ⟨rfl, kn⟩; have kk : Chg none_ w7' _ := Chg.trans (by assumption) kn; refine ⟨_, rfl, ?_⟩)
      | (refine Calls.use (fateText24 (t := (0, y.rest, 0)) (fun _ => ⟨Int.le_refl _, (show (0 : Int) ≤ 2147483647 by decide)⟩)) ?_; rintro _ wn ⟨sf, rfl, df, zf, kn⟩; have kk : Chg none_ w7' _ := Chg.trans (by assumption) kn; refine ⟨_, rfl, ?_⟩)
      | refine catK (by omega) (by omega) fun s d yy => ?_
      | refine fin _ _ ?_ (by assumption)
      | refine And.intro ?_ ?_)
    all_goals (simp only [*]; try simp)
  rintro x6 w8 ⟨hx6, zx6, k8⟩
  have B8 := k8.blk B7' (fun x => x)
  have k58 := k5.trans (k57.trans k8)
  refine ⟨_, _, _, (B8.cell0 2).trans rfl, fun x7 x8 w' => ∃ j : Nat, x8 = (j : Int) ∧ j ≤ ul ∧ x7.data.toList = x6.data.toList ++ txT (y.fates.take j) ∧ Chg none_ w3 w', fun _ x8 _ => ul - x8.toNat, ⟨0, rfl, Nat.zero_le _, by simp [txT], k58⟩, ?_⟩
  rintro x7 _ w9 ⟨j, rfl, hj, hx7, k9⟩
  refine bc (fun hlt3 => ?_) fun hge3 => ?_
  rotate_left
  · have hjl : j = ul := by have : ¬ ((j : Int) < (ul : Int)) := of_decide_eq_false hge3; omega
    subst hjl
    rw [List.take_of_length_le (by omega)] at hx7
    exact ⟨⟨i + 1, by omega, hi', by rw [hx7, hx6, ht, take_snoc hy, txC_snoc]; simp, k9⟩, meas hi'⟩
  have hj' : j < ul := by simpa using hlt3
  rw [wrapS (x := (j : Int) + 1) (by omega) (by omega)]
  obtain ⟨a, t, rfl, htt, hrt⟩ := (hf.chg (k03.trans k9)).ex hj'
  have vt := vc.fates t (List.mem_of_getElem? htt)
  have hpg := vt.page
  have hat := vt.at'
  have z7 : x7.size ≤ 300000 := by
    have := txT_len (ts := y.fates.take j) fun x hx => vc.fates x (List.mem_of_mem_take hx)
    rw [List.length_take] at this
    rw [s_size, hx7, List.length_append, ← s_size]; omega
  have z8 : (nW t.1).size ≤ 18 := by rw [s_size]; exact nW_len hpg.2
  refine onPtr_mk ⟨by omega, (show (j : Int) < (ul : Int) by omega), _, _, _, hrt, boxed rfl rfl fun w10 B10 k10 _ => ?_⟩
  have B10' := B10.drew
  have k910 : Chg none_ w9 w10.drew := k10.drew
  generalize w10.drew = w7' at *
  have fin : ∀ (s : ByteArray) (w' : World), s.data.toList = x7.data.toList ++ lineOf (lnT t) → Chg none_ w7' w' → (∃ j' : Nat, ((j : Int) + 1) = (j' : Int) ∧ j' ≤ ul ∧ s.data.toList = x6.data.toList ++ txT (y.fates.take j') ∧ Chg none_ w3 w') ∧ ul - ((j : Int) + 1).toNat < ul - (j : Int).toNat := fun s w' h k =>
    ⟨⟨j + 1, by omega, hj', by rw [h, hx7, take_snoc htt, txT_snoc]; simp, k9.trans (k910.trans k)⟩, meas hj'⟩
  rw [lnT_is vt] at fin
  have kk := Chg.refl none_ w7'
  refine ⟨fun p => p.block < w7'.heap.size, t.1, B10'.lt, (B10'.cell 0).trans rfl, t.1, t.2.1, t.2.2, (fun j _ => by show ((ad _).add _).block < _; rw [add_block]; exact B10'.lt), B10'.reads0, ?_⟩
  clear hr hrt ht hx6 hx7
  repeat' (first
    | exact Chg.keeps (by assumption)
    | (refine Calls.use (number23 (by omega) (by omega)) ?_; rintro _ wn ⟨rfl, kn⟩; have kk : Chg none_ w7' _ := Chg.trans (by assumption) kn; refine ⟨_, rfl, ?_⟩)
    | (refine Calls.use (fateText24 (t := t) (fun _ => hat)) ?_; rintro _ wn ⟨sf, rfl, df, zf, kn⟩; have kk : Chg none_ w7' _ := Chg.trans (by assumption) kn; refine ⟨_, rfl, ?_⟩)
    | refine catK (by omega) (by omega) fun s d yy => ?_
    | refine fin _ _ ?_ (by assumption)
    | refine And.intro ?_ ?_)
  all_goals (simp only [*]; try simp)
end Go.Proofs.YtdlbmmodlkmofaaGreatDoor
