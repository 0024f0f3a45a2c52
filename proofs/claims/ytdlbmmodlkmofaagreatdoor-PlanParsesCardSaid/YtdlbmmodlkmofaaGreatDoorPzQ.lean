import Derived.Test.YtdlbmmodlkmofaaGreatDoorPzP
set_option maxRecDepth 20000
namespace Go.Proofs.YtdlbmmodlkmofaaGreatDoor
open Go Go.Vc Go.RowKit
/-! # Print of the program -/
theorem wcell {w : World} {b : Nat} {l : List ByteArray} {i : Int} (B : Blk w b 9 (l.map .string).toArray) (h : i.toNat < l.length) : w.cell? ((ad b).add (i.toNat * 1)) = some (.string (wd l i)) := by
  rw [Nat.mul_one, B.cell0]
  simp [wd_get h]
theorem take_snoc {α : Type} {l : List α} {i : Nat} {x : α} (h : l[i]? = some x) : l.take (i + 1) = l.take i ++ [x] := by
  have hi := get_lt h
  rw [List.getElem?_eq_getElem hi] at h
  cases h
  rw [List.take_succ_eq_append_getElem hi]
theorem txF_snoc (fs : List T3) (f : T3) : txF (fs ++ [f]) = txF fs ++ lineOf (lnF f) := by simp [txF]
theorem txT_snoc (ts : List T3) (t : T3) : txT (ts ++ [t]) = txT ts ++ lineOf (lnT t) := by simp [txT]
theorem txC_snoc (cs : List Cr) (c : Cr) : txC (cs ++ [c]) = txC cs ++ (lineOf (lnC c) ++ txT c.fates) := by simp [txC]
theorem print7 {w : World} (tb : Tb w) (g : Gm) {q1 q2 : Option Addr} {l1 l2 c1 c2 : Nat} {fs : List T3} {cs : List Cr} (h1 : RE En.t3 w q1 l1 fs) (h2 : CrsR w q2 l2 cs) (hl1 : l1 ≤ 9223372036854775807) (hl2 : l2 ≤ 9223372036854775807) :
    Calls Tryz.prog 7 #[.agg (gv g).toArray, .agg #[.slice q1 l1 c1, .slice q2 l2 c2]] w (Ret fun v w' => v = .tuple #[.string (if chk g fs cs = 0 then bs (planT fs cs) else bs []), .int .i64 (chk g fs cs)] ∧ Chg none_ w w') := by
  refine f7.calls _ _ _ _ _ _ _ _ _ _ ?_
  unfold f7.wp
  refine newBox fun w1 B1 k1 _ => newBox fun w2 B2 k2 _ => ?_
  have k02 := k1.trans k2
  refine ⟨_, _, _, _, (k2.blk B1 (fun x => x)).reads0, _, _, _, _, _, _, B2.reads0, Calls.use (check14 g (h1.chg k02) (h2.chg k02) hl1 hl2) ?_⟩
  rintro _ w3 ⟨rfl, k3⟩
  have k03 := k02.trans k3
  refine ⟨_, rfl, bc (fun hne => ?_) fun heq => ?_⟩
  · have hne : chk g fs cs ≠ 0 := by simpa using hne
    rw [if_neg hne]
    exact ⟨rfl, k03⟩
  have heq : chk g fs cs = 0 := by simpa using heq
  rw [if_pos heq, heq]
  have V := vp_of heq
  have e1 := h1.len
  have e2 := h2.len
  have vfl := V.fl
  have vcl := V.cl
  refine newBox fun w4 B4 k4 _ => ?_
  have hb0 : Bd w3.heap.size [] w4 := .inl ⟨Nat.le_refl _, .slice none 0 0, B4, World.ownsRowF_nil _ _ _ _, by simp [Value.ownBlock]⟩
  have hp1 : w1.heap.size < w3.heap.size := Nat.lt_of_lt_of_le B2.lt k3.size
  have P3 := k3.blk B2 (fun x => x)
  have tb3 : ∀ {w'}, Chg none_ w3 w' → Tb w' := fun k => tb.chg (k03.trans k)
  generalize hbd : w3.heap.size = b at *
  have hlow : w3.heap.size ≤ b := by omega
  refine ⟨_, _, _, ((k4.blk P3 (fun x => x)).cell 0).trans rfl, fun x w' => ∃ i : Nat, x = (i : Int) ∧ i ≤ l1 ∧ Bd b (txF (fs.take i)) w' ∧ Chg none_ w3 w', fun x _ => l1 - x.toNat, ⟨0, rfl, Nat.zero_le _, hb0, k4⟩, ?_⟩
  rintro _ w5 ⟨i, rfl, hi, hB, k5⟩
  refine bc (fun hlt => ?_) fun hge => ?_
  · have hi' : i < l1 := by simpa using hlt
    rw [wrapS (x := (i : Int) + 1) (by omega) (by omega)]
    obtain ⟨a, f, rfl, hf, hr⟩ := (h1.chg (k03.trans k5)).ex hi'
    have vf := V.f f (List.mem_of_getElem? hf)
    have ho := vf.op
    have hn := vf.nth
    have hk : 1 ≤ f.2.2 ∧ f.2.2 ≤ 2 := by rcases vf.kind with h | h <;> omega
    refine onPtr_mk ⟨by omega, by omega, _, _, _, hr, boxed rfl rfl fun w7 B7 k7 _ => ?_⟩
    have B7' := B7.drew
    have k57 := k7.drew
    generalize w7.drew = w7' at *
    refine ⟨fun p => p.block < w7'.heap.size, _, B7'.lt, (B7'.cell 0).trans rfl, _, B7'.lt, (B7'.cell0 1).trans rfl, _, B7'.lt, (B7'.cell0 2).trans rfl, Calls.use (words_op w7') ?_⟩
    rintro _ w8 ⟨rfl, B8, k8, _⟩
    refine ⟨_, _, _, rfl, k8.keeps, onPtr_mk ⟨by omega, by omega, fun p => p.block < w8.heap.size, _, by show ((ad _).add _).block < _; rw [add_block]; exact B8.lt, wcell B8 (by show _ < 5; omega), Calls.use (itoa19 (tb3 (k5.trans (k57.trans k8))) (n := f.2.1) (by omega) (by omega)) ?_⟩⟩
    rintro _ w9 ⟨rfl, k9⟩
    refine ⟨_, rfl, ⟨(k8.trans k9).keeps, k9.keeps⟩, Calls.use (words_fault w9) ?_⟩
    rintro _ w10 ⟨rfl, B10, k10, _⟩
    have k810 := k9.trans k10
    refine ⟨_, _, _, rfl, ⟨(k8.trans k810).keeps, k810.keeps⟩, onPtr_mk ⟨by omega, by omega, fun p => p.block < w10.heap.size, _, by show ((ad _).add _).block < _; rw [add_block]; exact B10.lt, wcell B10 (by show _ < 3; omega), fun w11 e11 => ?_⟩⟩
    have k11 := (Chg.refl none_ w10).new' e11
    have kall := k57.trans ((k8.trans k810).trans k11)
    have len : (txF (fs.take i)).length ≤ 6400 := by
      have := txF_len (fs := fs.take i) fun x hx => V.f x (List.mem_of_mem_take hx)
      rw [List.length_take] at this; omega
    have len2 := lnF_len vf
    refine ⟨⟨⟨((k8.trans k810).trans k11).keeps, (k810.trans k11).keeps⟩, k11.keeps⟩, Calls.use (line66 (hB.chg kall) (litStrs (xs := lnF f) e11 rfl) (new_blk e11).lt (Nat.le_refl _) (by show 4 ≤ 1000; decide) (by omega)) ?_⟩
    rintro _ w12 ⟨rfl, hB12, kp⟩
    refine ⟨rfl, ⟨i + 1, by omega, hi', ?_, kp.chg (k5.trans kall) hlow⟩, meas hi'⟩
    rw [take_snoc hf, txF_snoc]; exact hB12
  have hil : i = l1 := by have := of_decide_eq_false hge; omega
  subst hil
  rw [List.take_of_length_le (by omega)] at hB
  have lenF := txF_len V.f
  refine ⟨_, _, _, ((k5.blk P3 (fun x => x)).cell0 1).trans rfl, fun x w' => ∃ i : Nat, x = (i : Int) ∧ i ≤ l2 ∧ Bd b (txF fs ++ txC (cs.take i)) w' ∧ Chg none_ w3 w', fun x _ => l2 - x.toNat, ⟨0, rfl, Nat.zero_le _, by simpa [txC] using hB, k5⟩, ?_⟩
  clear hb0
  rintro _ w13 ⟨i, rfl, hi, hB, k13⟩
  refine bc (fun hlt => ?_) fun hge => ?_
  · have hi' : i < l2 := by simpa using hlt
    rw [wrapS (x := (i : Int) + 1) (by omega) (by omega)]
    obtain ⟨a, u, y, rfl, hy, hr, eu1, eu2, hf, hub, _⟩ := h2.at' hi'
    have vc := V.c y (List.mem_of_getElem? hy)
    have hst := vc.step
    have hre : 1 ≤ y.rest ∧ y.rest ≤ 2 := by rcases vc.rest with h | h <;> omega
    have hfl := hf.len
    obtain ⟨us, ur, uq, ul, uc⟩ := u
    simp only at eu1 eu2 hf hfl hub
    subst eu1; subst eu2
    have vlen := vc.len
    refine onPtr_mk ⟨by omega, by omega, _, _, _, _, _, (k03.trans k13).readsN hr, boxed rfl rfl fun w15 B15 k15 _ => ?_⟩
    have B15' := B15.drew
    have k15' := k15.drew
    generalize w15.drew = w15' at *
    refine ⟨fun p => p.block < w15'.heap.size, _, B15'.lt, (B15'.cell 0).trans rfl, _, B15'.lt, (B15'.cell0 1).trans rfl, Calls.use (itoa19 (tb3 (k13.trans k15')) (n := y.step) (by omega) (by omega)) ?_⟩
    rintro _ w16 ⟨rfl, k16⟩
    refine ⟨_, rfl, k16.keeps, Calls.use (words_fate w16) ?_⟩
    rintro _ w17 ⟨rfl, B17, k17, _⟩
    have k1617 := k16.trans k17
    refine ⟨_, _, _, rfl, k1617.keeps, onPtr_mk ⟨(show (0 : Int) ≤ y.rest by omega), (show y.rest < 4 by omega), fun p => p.block < w17.heap.size, _, by show ((ad _).add _).block < _; rw [add_block]; exact B17.lt, wcell B17 (by show y.rest.toNat < 4; omega), fun w18 e18 => ?_⟩⟩
    have k18 := (Chg.refl none_ w17).new' e18
    have kall := k15'.trans (k1617.trans k18)
    have lenC : (txC (cs.take i)).length ≤ 6500 * 16 := by
      have := txC_len (cs := cs.take i) fun x hx => V.c x (List.mem_of_mem_take hx)
      rw [List.length_take] at this; omega
    have len2 := lnC_len vc
    refine ⟨⟨(k1617.trans k18).keeps, k18.keeps⟩, Calls.use (line66 (hB.chg kall) (litStrs (xs := lnC y) e18 rfl) (new_blk e18).lt (Nat.le_refl _) (by show 3 ≤ 1000; decide) (by rw [List.length_append]; omega)) ?_⟩
    rintro _ w19 ⟨rfl, hB19, kp⟩
    have B19 := kp.blk ((k1617.trans k18).blk B15' (fun x => x)) (fun e => absurd hB.lt (by omega)) (by decide)
    have k19 := kp.chg (k13.trans kall) hlow
    refine ⟨rfl, _, _, _, (B19.cell0 2).trans rfl, fun x w' => ∃ j : Nat, x = (j : Int) ∧ j ≤ ul ∧ Bd b ((txF fs ++ txC (cs.take i)) ++ lineOf (lnC y) ++ txT (y.fates.take j)) w' ∧ Chg none_ w3 w', fun x _ => ul - x.toNat, ⟨0, rfl, Nat.zero_le _, by simpa [txT] using hB19, k19⟩, ?_⟩
    rintro _ w20 ⟨j, rfl, hj, hB20, k20⟩
    refine bc (fun hlt3 => ?_) fun hge3 => ?_
    rotate_left
    · have hjl : j = ul := by have : ¬ ((j : Int) < (ul : Int)) := of_decide_eq_false hge3; omega
      subst hjl
      rw [List.take_of_length_le (l := y.fates) (by omega)] at hB20
      refine ⟨⟨i + 1, by omega, hi', ?_, k20⟩, meas hi'⟩
      rw [take_snoc hy, txC_snoc]
      simpa using hB20
    have hj' : j < ul := by simpa using hlt3
    rw [wrapS (x := (j : Int) + 1) (by omega) (by omega)]
    obtain ⟨a, t, rfl, ht, hrt⟩ := (hf.chg (k03.trans k20)).ex hj'
    have vt := vc.fates t (List.mem_of_getElem? ht)
    have hpg := vt.page
    have hat := vt.at'
    have hkd : 1 ≤ t.2.1 ∧ t.2.1 ≤ 3 := by rcases vt.kind with h | h | h <;> omega
    have lenT : (txT (y.fates.take j)).length ≤ 6400 := by
      have := txT_len (ts := y.fates.take j) fun x hx => vc.fates x (List.mem_of_mem_take hx)
      rw [List.length_take] at this; omega
    have len3 := lnT_len vt
    refine onPtr_mk ⟨by omega, (show (j : Int) < (ul : Int) by omega), _, _, _, hrt, boxed rfl rfl fun w22 B22 k22 _ => ?_⟩
    have B22' := B22.drew
    have k22' := k22.drew
    generalize w22.drew = w22' at *
    refine ⟨fun p => p.block < w22'.heap.size, _, B22'.lt, (B22'.cell 0).trans rfl, _, B22'.lt, (B22'.cell0 1).trans rfl, Calls.use (itoa19 (tb3 (k20.trans k22')) (n := t.1) (by omega) (by omega)) ?_⟩
    rintro _ w23 ⟨rfl, k23⟩
    refine ⟨_, rfl, k23.keeps, Calls.use (words_fate w23) ?_⟩
    rintro _ w24 ⟨rfl, B24, k24, _⟩
    have k2324 := k23.trans k24
    refine ⟨_, _, _, rfl, k2324.keeps, onPtr_mk ⟨by omega, by omega, _, wcell B24 (by show _ < 4; omega), fun w25 e25 => ?_⟩⟩
    have k25 := (Chg.refl none_ w24).new' e25
    have B25 := (k2324.trans k25).blk B22' (fun x => x)
    refine ⟨_, (B25.cell0 1).trans rfl, bc (fun h3 => ?_) fun h3 => ?_⟩
    rotate_left
    · have h3 : t.2.1 ≠ 3 := by simpa using h3
      have el : lnT t = lnT3 t := by rw [lnT, if_neg h3, List.append_nil]
      have kall := k22'.trans (k2324.trans k25)
      refine Calls.use (line66 (hB20.chg kall) (litStrs (xs := lnT3 t) e25 rfl) (new_blk e25).lt (Nat.le_refl _) (by show 3 ≤ 1000; decide) (by rw [← el]; simp only [List.length_append]; omega)) ?_
      rintro _ w30 ⟨rfl, hB30, kp⟩
      refine ⟨rfl, ⟨j + 1, by omega, hj', ?_, kp.chg (k20.trans kall) hlow⟩, meas hj'⟩
      rw [take_snoc ht, txT_snoc, el, ← List.append_assoc]; exact hB30
    have h3 : t.2.1 = 3 := by simpa using h3
    have el : lnT t = lnT3 t ++ [nW t.2.2] := by rw [lnT, if_pos h3]
    refine ⟨_, (B25.cell0 2).trans rfl, Calls.use (itoa19 (tb3 (k20.trans (k22'.trans (k2324.trans k25)))) (n := t.2.2) (by omega) (by omega)) ?_⟩
    rintro _ w26 ⟨rfl, k26⟩
    refine ⟨_, rfl, fun w27 e27 => ?_⟩
    have k27 := (Chg.refl none_ w26).new' e27
    have k2527 := k26.trans k27
    have S25 : SE En.str w27 w24.heap.size 9 (some ⟨w24.heap.size, 0, none⟩) 3 3 (lnT3 t) := SE.lit (k2527.blk (new_blk e25) (fun x => x)) (Nat.le_refl _) (fun n v hv => show (En.str.flat (lnT3 t)).toArray[n]? = some v by rw [List.getElem?_toArray]; exact hv) rfl (by decide) (by decide) (by show 3 * 1 ≤ 3; decide)
    obtain ⟨q11, c11, w28, hrun, s28, k28, _, hq⟩ := S25.append1 (t := 56) (ty := 56) (x := nW t.2.2) elemStr (new_blk e27) (by decide) (by decide) (k25.trans k2527).size
    refine ⟨_, _, _, _, hrun, ?_⟩
    have k28' : Chg none_ w24 w28 := (k25.trans k2527).up k28 fun k hk => by
      simp [qB] at hk; omega
    have kall := k22'.trans (k2324.trans k28')
    obtain ⟨a11, rfl⟩ := Option.ne_none_iff_exists'.1 hq
    obtain ⟨g', off, cur, hg, _, hbl, _⟩ := (s28.ex).resolve_left (fun h => by cases h.1)
    cases hg
    refine Calls.use (line66 (hB20.chg kall) s28.re hbl.lt s28.le (by decide) (by rw [← el]; simp only [List.length_append]; omega)) ?_
    rintro _ w29 ⟨rfl, hB29, kp⟩
    refine ⟨rfl, ⟨j + 1, by omega, hj', ?_, kp.chg (k20.trans kall) hlow⟩, meas hj'⟩
    rw [take_snoc ht, txT_snoc, el, ← List.append_assoc]; exact hB29
  have hil : i = l2 := by have := of_decide_eq_false hge; omega
  subst hil
  rw [List.take_of_length_le (by omega)] at hB
  refine (Tryz.Builder_String_any_k b b (planT fs cs) w13 hB (Nat.le_of_lt hB.lt)).mono ?_
  rintro e w31 ⟨rfl, _, hbl, hok⟩
  exact ⟨_, rfl, rfl, k03.trans (Kp.chg ⟨hbl, hok⟩ k13 hlow)⟩
end Go.Proofs.YtdlbmmodlkmofaaGreatDoor
