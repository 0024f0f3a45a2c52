import Derived.Test.YtibpbbjlecohiaaLfG
import Derived.Test.YtibpbbjlecohiaaLeM
set_option maxRecDepth 20000
namespace Go.Proofs.Ytibpbbjlecohiaa
namespace Full
open Go Go.Vc Go.RowKit
theorem play24 {w : World} (a b c d : Int) {z : Hd} {acts : List (List Act)} (hA : ActsR w z acts) (hb : ∀ ys ∈ acts, ys.length ≤ 10000000000000) (hz : z.2.1 ≤ 1000000000000000) {q : Option Addr} {l cp : Nat} {picks : List Int} (hp : RE En.int w q l picks) (hl : l ≤ 1000000000000000) :
    Calls Try.prog 24 #[.agg #[.int .i64 a, .int .i64 b, .int .i64 c, .int .i64 d], .slice z.1 z.2.1 z.2.2, .slice q l cp] w (Ret fun v w' => PlR w.heap.size w' (playT a b c d acts picks) v ∧ Chg none_ w w') := by
  refine f24.calls _ _ _ _ _ _ _ _ _ _ ?_
  unfold f24.wp
  refine newBox fun w1 B1 k1 s1 => newBox fun w2 B2 k2 s2 => ?_
  have k02 := k1.trans k2
  have A2 := k2.blk B1 (fun x => x)
  refine ⟨_, _, _, _, A2.reads0, Calls.use (fits29 a b c d (hA.chg k02) hb hz (hp.chg k02) hl) ?_⟩
  rintro _ w3 ⟨rfl, k3⟩
  have k03 := k02.trans k3
  have B23 := k3.blk B2 fun x => x
  have hfit : fitsF a b c d acts picks ≠ 0 → playT a b c d acts picks = ⟨[], [], [], [], fitsF a b c d acts picks⟩ := fun h => by
    unfold fitsF at h ⊢
    unfold playT
    split
    · rfl
    · rename_i hn
      rw [if_neg hn] at h
      rw [if_pos h]
  refine ⟨_, rfl, bc (fun hne => ?_) fun heq => ?_⟩
  · have hne : fitsF a b c d acts picks ≠ 0 := by simpa using hne
    exact B23.store rfl rfl fun w4 B4 k4 _ => ⟨_, _, _, _, _, _, _, _, _, _, _, _, B4.reads0, by rw [hfit hne]; exact ⟨_, _, _, _, _, _, _, _, _, _, _, _, rfl, RE.nil _ _ _, RE.nil _ _ _, RE.nil _ _ _, RE.nil _ _ _, Nat.zero_le _, Nat.zero_le _, Nat.zero_le _, Nat.zero_le _, fun b hb => by rcases hb with h | h | h | h <;> cases h⟩, k03.up k4 fun x hx => by rw [hx]; omega⟩
  have heq : fitsF a b c d acts picks = 0 := by simpa using heq
  obtain ⟨hok, hpm⟩ : (okN a ∧ okN b ∧ okN c ∧ okN d) ∧ pmayF acts picks = 0 := by
    unfold fitsF at heq
    split at heq
    · cases heq
    · rename_i h; exact ⟨Decidable.not_not.1 h, heq⟩
  obtain ⟨h16, h4096, _, hpk, hkind⟩ := pmay_kind hpm
  have hT : playT a b c d acts picks = ⟨doneL (playR (new8 a.toNat b.toNat c.toNat d.toNat) acts picks).s.wt (playR (new8 a.toNat b.toNat c.toNat d.toNat) acts picks).ats acts.length, (playR (new8 a.toNat b.toNat c.toNat d.toNat) acts picks).ord, (playR (new8 a.toNat b.toNat c.toNat d.toNat) acts picks).s.ns, deadL (playR (new8 a.toNat b.toNat c.toNat d.toNat) acts picks).s.wt acts.length, 0⟩ := by
    rw [playT, if_neg (fun h => h hok), if_neg (fun h => h hpm)]
  rw [hT]
  have A3 := k3.blk A2 fun x => x
  refine ⟨_, _, _, _, A3.reads0, Calls.use (new58 w3 a b c d) ?_⟩
  rintro _ w5 (⟨hno, _, _⟩ | ⟨_, o, g, rfl, I5, k5⟩)
  · exact absurd hok hno
  have hzl := hA.len
  have hpl := hp.len
  have hd64 := hok.2.2.2
  have SP0 := new_sim a.toNat b.toNat c.toNat d.toNat acts
  have hns0 : (new8 a.toNat b.toNat c.toNat d.toNat).ns.length ≤ 64 := by
    have h1 := hd64.1
    have h2 := hd64.2
    simp only [new8, List.length_replicate]
    omega
  have hw0 : ∀ x, (new8 a.toNat b.toNat c.toNat d.toNat).wt x = none := fun _ => rfl
  generalize new8 a.toNat b.toNat c.toNat d.toNat = s0 at SP0 hns0 hT hw0 ⊢
  generalize new8R a.toNat b.toNat c.toNat d.toNat = r0 at I5 SP0
  have hzn : Int.toNat ((z.2.1 : Nat) : Int) = acts.length := by rw [hzl]; rfl
  rw [hzn]
  refine ⟨_, _, rfl, by omega, Int.le_refl _, by omega, by omega, ?_⟩
  rw [made_arG]
  refine newBox fun w6 D6 k6 s6 => boxed rfl rfl fun w8 O8 k8 s8 => ⟨by omega, Int.le_refl _, by omega, by omega, ?_⟩
  rw [made_arG]
  refine newBox fun w9 W9 k9 s9 => ?_
  have k35 : Chg none_ w3 w9 := k5.trans (k6.trans (k8.trans k9))
  have hs35 : w3.heap.size ≤ w5.heap.size := k5.size
  have hA3 := hA.chg k03
  have hp3 := hp.chg k03
  have Q0 : QI w3 w9 0 o g r0 w5.heap.size w6.heap.size w8.heap.size acts.length (none, 0, 0) (none, 0, 0) (fun _ => 0) (fun _ => false) [] [] :=
    ⟨k35, I5.chgN (k6.trans (k8.trans k9)), (k8.trans k9).blk D6 fun x => x, k9.blk O8 fun x => x, W9, SE.nil _ _ _ _, SE.nil _ _ _ _, (by show (none : Option Nat) ≠ _; exact fun h => by cases h), by omega, by omega, by omega⟩
  clear D6 O8 W9
  generalize w5.heap.size = bd at Q0 ⊢
  generalize w6.heap.size = bo at Q0 ⊢
  generalize w8.heap.size = bw at Q0 ⊢
  generalize hPR : playR s0 acts picks = PR
  clear hT hfit
  have hQ1 : QI w3 w9 0 o g r0 bd bo bw acts.length (none, 0, 0) (none, 0, 0) (doneN (startP s0 acts.length).s.wt (startP s0 acts.length).ats) (waN (startP s0 acts.length).s.wt) [] [] := Q0.congr (fun i hi => by
      unfold doneN
      rw [show (startP s0 acts.length).s.wt (i : Int) = none from hw0 _]
      simp [startP, hi]) fun i hi => by
      unfold waN
      rw [show (startP s0 acts.length).s.wt (i : Int) = none from hw0 _]; rfl
  clear Q0
  refine ⟨fun x1 w' => ∃ (i f : Nat) (p : PS) (g : GR) (r : R8) (oh : Hd), x1 = (i : Int) ∧ QI w3 w' i o g r bd bo bw acts.length oh (none, 0, 0) (doneN p.s.wt p.ats) (waN p.s.wt) p.ord [] ∧ SP p r acts ∧ p.s.ns.length ≤ 64 ∧ p.ats.sum = i ∧ p.ord.length = i ∧ sumL acts ≤ i + f ∧ playN acts picks f i p = PR,
    fun x1 _ => sumL acts - x1.toNat, ⟨0, sumL acts, startP s0 acts.length, g, r0, _, rfl, hQ1, SP0, hns0, by simp [startP], rfl, by omega, hPR⟩, ?_⟩
  rintro _ w10 ⟨i, f, p, g, r, oh, rfl, Q10, S, hns, hsum, hord, hf, hplay⟩
  have dnb := done_bound (wt := p.s.wt) S.ok h4096
  refine ⟨fun q5 l5 c5 x2 w' => ∃ j : Nat, x2 = (j : Int) ∧ j ≤ acts.length ∧ SE En.int w' w10.heap.size 3 q5 l5 c5 (toI (readyN p.s.wt acts p.ats j)) ∧ Chg none_ w10 w', fun _ _ _ x2 _ => acts.length - x2.toNat, ⟨0, rfl, Nat.zero_le _, SE.nil _ _ _ _, Chg.refl _ _⟩, ?_⟩
  rintro q5 l5 c5 _ w11 ⟨j, rfl, hj, S11, k11⟩
  have Q11 := Q10.chgN k11
  have hA11 := hA3.chg Q11.chg
  refine bc (fun hlt => ?_) fun hge => ?_
  · have hj' : j < acts.length := by rw [← hzl]; simpa using hlt
    obtain ⟨ys, hy⟩ := get_ex (l := acts) (i := j) hj'
    obtain ⟨ta, hta⟩ := get_ex (l := p.ats) (i := j) (by rw [S.ok.len]; exact hj')
    obtain ⟨_, az, hd, hqz, hcz, hR⟩ := hA11.at' hy
    have hlen := hR.len
    have hle := S.ok.le j ta ys hta hy
    have hcan := can_doc (wt := p.s.wt) hta hy hle
    have hsl := S11.len
    have hrl := readyN_len p.s.wt acts p.ats j
    have hl5 : l5 ≤ 16 := by rw [← hsl]; simp only [toI, List.length_map]; omega
    rw [wrapS (x := (j : Int) + 1) (by omega) (by omega)]
    have stay : canR p.s.wt acts p.ats j = false → (∃ j' : Nat, ((j : Int) + 1) = (j' : Int) ∧ j' ≤ acts.length ∧ SE En.int w11 w10.heap.size 3 q5 l5 c5 (toI (readyN p.s.wt acts p.ats j')) ∧ Chg none_ w10 w11) ∧ acts.length - ((j : Int) + 1).toNat < acts.length - (j : Int).toNat := fun hc =>
      ⟨⟨j + 1, by omega, hj', by rw [readyN_succ, hc]; exact S11, k11⟩, by omega⟩
    refine onPtr_q hqz ⟨by omega, by omega, _, _, _, hcz, _, _, _, (Q11.ob.cell 0).trans rfl, onPtr_mk ⟨by omega, by omega, _, Q11.atD hj', bc (fun h1 => ?_) fun h1 => stay ?_⟩⟩
    · have h1 := of_decide_eq_true h1
      refine ⟨by omega, by omega, _, Q11.atW hj', bc (fun h2 => ?_) fun h2 => stay ?_⟩
      · refine newBox fun w12 B12 k12 _ => ?_
        have hb1 : w10.heap.size ≤ w12.heap.size := (k11.trans k12).size
        obtain ⟨q8, c8, w13, hrun, S13, k13, _, _⟩ := (S11.chgN k12).append1 (t := 35) (ty := 35) (x := (j : Int)) elemInt B12 (by simp only [maxLen]; omega) (by show (l5 + 1) * 8 ≤ _; omega) hb1
        refine ⟨q8, l5 + 1, c8, w13, hrun, ⟨j + 1, by omega, hj', ?_, (k11.trans k12).up k13 fun x hx => ((S11.chgN k12).lt hx.symm).2⟩, meas hj'⟩
        rw [readyN_succ, hcan, decide_eq_true (by omega), h2]
        simpa [toI] using S13
      · rw [hcan, h2, Bool.and_false]
    · have h1 := of_decide_eq_false h1
      rw [hcan, decide_eq_false (by omega), Bool.false_and]
  have hjn : j = acts.length := by have := of_decide_eq_false hge; omega
  subst hjn
  have hr : readyN p.s.wt acts p.ats acts.length = p.ready acts := rfl
  rw [hr] at S11
  have hrl := S11.len
  have hrl' : (p.ready acts).length = l5 := by rw [← hrl]; simp [toI]
  refine bc (fun h0 => ?_) fun h0 => ?_
  · have h0 : l5 = 0 := by have : ((l5 : Nat) : Int) = 0 := eq_of_beq h0; omega
    have hnil : p.ready acts = [] := List.eq_nil_of_length_eq_zero (by omega)
    rw [playN_end hnil] at hplay
    subst hplay
    refine ⟨fun x3 w' => ∃ (j : Nat) (dh : Hd), x3 = (j : Int) ∧ j ≤ acts.length ∧ QI w3 w' i o g r bd bo bw acts.length oh dh (doneN p.s.wt p.ats) (waN p.s.wt) p.ord (deadL p.s.wt j), fun x3 _ => acts.length - x3.toNat, ⟨0, _, rfl, Nat.zero_le _, Q11⟩, ?_⟩
    rintro _ w14 ⟨j, dh, rfl, hj, Q14⟩
    refine bc (fun hlt => ?_) fun hge => ?_
    · have hj' : j < acts.length := by simpa using hlt
      rw [wrapS (x := (j : Int) + 1) (by omega) (by omega)]
      refine ⟨by omega, by omega, _, Q14.atW hj', bc (fun h2 => ⟨_, _, _, (Q14.ob.cell0 3).trans rfl, fun w15 e15 => ?_⟩) fun h2 => ⟨⟨j + 1, dh, by omega, hj', ?_⟩, meas hj'⟩⟩
      · have hdl := deadL_len p.s.wt j
        refine Q14.dead e15 (by omega) fun q c w17 Q17 => ⟨⟨j + 1, (q, dh.2.1 + 1, c), by omega, hj', ?_⟩, meas hj'⟩
        rw [deadL_succ, if_pos (show (p.s.wt (j : Int)).isSome = true from h2)]
        exact Q17
      · rw [deadL_succ, if_neg (by rw [show (p.s.wt (j : Int)).isSome = false from h2]; decide)]
        exact Q14
    have hjn : j = acts.length := by have := of_decide_eq_false hge; omega
    subst hjn
    have hrn : r.ns = p.s.ns := S.sim.rel.en
    refine Calls.use (rcounters60 Q14.lat (by rw [hrn]; omega)) ?_
    rintro _ w18 ⟨q11, l11, c11, rfl, R18, hm11, hf11, k18⟩
    have Q18 := Q14.chgN k18
    refine ⟨_, _, _, rfl, Q18.ob.canStore0 (o := 2) (n := 1) (by show 2 + 1 ≤ 4; decide), fun w19 e19 => ?_⟩
    obtain ⟨O19, k19⟩ := Q18.ob.put (i := 2) e19
    have hr19 : reads w19 (⟨bo, 0, none⟩ : Addr) [.slice (some (ad bd)) acts.length acts.length, .slice oh.1 oh.2.1 oh.2.2, .slice q11 l11 c11, .slice dh.1 dh.2.1 dh.2.2] := O19.reads0
    have k319 : Chg none_ w3 w19 := Q18.chg.up k19 fun x hx => by rw [hx]; exact Q18.lo.2.1
    refine ⟨_, _, _, _, _, _, _, _, _, _, _, _, hr19, (k319.blk B23 fun x => x).store rfl rfl fun w20 B20 k20 _ => ⟨_, _, _, _, _, _, _, _, _, _, _, _, B20.reads0, ?_, (k03.trans k319).up k20 fun x hx => by rw [hx]; omega⟩⟩
    have hw1 : w1.heap.size < w3.heap.size := by have := k3.size; omega
    have hw03 : w.heap.size ≤ w3.heap.size := k03.size
    obtain ⟨n1, n2, n3⟩ := Q18.ne
    have hlo := Q18.lo
    have fin : ∀ {α : Type} {E : En α} {q : Option Addr} {l : Nat} {xs : List α}, (∀ b, qB q = some b → b ≠ bo ∧ w3.heap.size ≤ b) → RE E w18 q l xs → RE E w20 q l xs := fun hb R =>
      (R.chgS k19 fun a ha hs => (hb a.block (by rw [ha]; rfl)).1 hs).chgS k20 fun a ha hs => by
        have h1 := (hb a.block (by rw [ha]; rfl)).2
        have h2 : a.block = w1.heap.size := hs
        omega
    have D18 : RE En.int w18 (some (ad bd)) acts.length (doneL p.s.wt p.ats acts.length) := by
      refine ⟨by simp [doneL], fun j x hx => ⟨ad bd, rfl, fun k v hv => ?_⟩⟩
      have hj : j < acts.length := by have := get_lt hx; simpa [doneL] using this
      have hxe : x = doneN p.s.wt p.ats j := by simp [doneL, hj] at hx; exact hx.symm
      rcases k with _ | k
      · cases hv
        rw [add_zero', hxe]
        have := Q18.atD hj
        rwa [show (j : Int).toNat * 1 = j * 1 by omega] at this
      · simp [En.int] at hv
    have hbo : ∀ {α : Type} {E : En α} {ty : TypeId} {q : Option Addr} {l c : Nat} {xs : List α}, SE E w18 w3.heap.size ty q l c xs → ty ≠ 55 → ∀ b, qB q = some b → b ≠ bo ∧ w3.heap.size ≤ b := fun X hty b hb => by
      refine ⟨fun e => ?_, (X.lt hb).2⟩
      obtain ⟨cs, Y⟩ := X.blk hb
      rw [e] at Y
      exact hty (Y.type Q18.ob).1
    have h18 : w14.heap.size ≤ w18.heap.size := k18.size
    have h20 : w18.heap.size ≤ w20.heap.size := Nat.le_trans k19.size k20.size
    have h14 : w3.heap.size ≤ w14.heap.size := Q14.chg.size
    have hbo14 := Q14.ob.lt
    have hbd18 := Q18.db.lt
    refine ⟨_, _, _, _, _, _, _, _, _, _, _, _, rfl, fin (fun b hb => ?_) D18, fin (hbo Q18.os (by decide)) Q18.os.re, fin (fun b hb => ?_) (hrn ▸ R18), fin (hbo Q18.ds (by decide)) Q18.ds.re, by simp only [maxLen]; omega, SE.lmax Q18.os, hm11, SE.lmax Q18.ds, fun x hx => ?_⟩
    · cases hb
      exact ⟨n1, hlo.1⟩
    · have := hf11 b hb
      exact ⟨by omega, by omega⟩
    · rcases hx with hx | hx | hx | hx
      · obtain rfl : bd = x := Option.some.inj hx
        omega
      · have := Q18.os.lt hx; omega
      · have := hf11 x hx; omega
      · have := Q18.ds.lt hx; omega
  have h0 : l5 ≠ 0 := by have : ¬ ((l5 : Nat) : Int) = 0 := ne_of_beq_false h0; omega
  have hnil : p.ready acts ≠ [] := fun e => by rw [e] at hrl'; exact h0 hrl'.symm
  have hi0 : i < sumL acts := by
    obtain ⟨t, ht⟩ := List.exists_mem_of_ne_nil _ hnil
    have := (S.ok.sum ht).1
    omega
  obtain ⟨f, rfl⟩ : ∃ f', f = f' + 1 := ⟨f - 1, by omega⟩
  rw [playN, if_neg hnil] at hplay
  have hpick : 0 ≤ pickF picks i := by
    unfold pickF
    rw [List.getD_eq_getElem?_getD]
    cases hx : picks[i]? with
    | none => exact Int.le_refl _
    | some x => exact (hpk x (List.mem_of_getElem? hx)).1
  obtain ⟨hm, ht1, ht2, ht3⟩ := runs_mem hnil hpick
  have hsumt := S.ok.sum hm
  obtain ⟨a', ys, x, hat, hy, hlt, hx, hwt, ea, ex⟩ := S.ok.mem hm
  have S' := S.step hm hat hy hx
  generalize htt : runsF (p.ready acts) (pickF picks i) = t at *
  rw [hrl'] at ht1 ht2 ht3
  have htl : t < acts.length := get_lt hy
  obtain ⟨aq, xq, hq5, hxq, hrq⟩ := S11.re.ex (i := ((pickF picks i).tmod (l5 : Int)).toNat) (by omega)
  have exq : xq = (t : Int) := by rw [toI_get ht3] at hxq; exact (Option.some.inj hxq).symm
  subst exq
  obtain ⟨a0, x0, hq50, hx0, hr0⟩ := S11.re.ex (i := 0) (by omega)
  refine onPtr_q hq50 ⟨by omega, by omega, x0, reads_one' hr0, fun x4 w' => x4 = (t : Int) ∧ w' = w11, ?_, ?_⟩
  rotate_left
  · refine bc (fun hlt => ?_) fun hge => ⟨?_, rfl⟩
    · have hlt : i < l := by simpa using hlt
      obtain ⟨ap, xp, hqp, hxp, hrp⟩ := (hp3.chg Q11.chg).ex hlt
      have e : pickF picks i = xp := by rw [pickF, List.getD_eq_getElem?_getD, hxp]; rfl
      refine onPtr_q hqp ⟨by omega, by omega, xp, reads_one' hrp, by omega, ?_⟩
      rw [← e]
      exact onPtr_q hq5 ⟨ht2, by omega, _, reads_one' hrq, rfl, rfl⟩
    · have hge : l ≤ i := by have := of_decide_eq_false hge; omega
      have e : pickF picks i = 0 := by rw [pickF, List.getD_eq_getElem?_getD, List.getElem?_eq_none (by omega)]; rfl
      rw [e, Int.zero_tmod] at ht3
      rw [show (Int.toNat 0) = 0 from rfl] at ht3
      rw [toI_get ht3] at hx0
      exact (Option.some.inj hx0).symm
  rintro _ w21 ⟨rfl, rfl⟩
  rw [wrapS (x := (i : Int) + 1) (by omega) (by omega)]
  exact turn24 hA3 Q11 S hm h16 h4096 (by omega) hord fun w29 g' r' oh' Q29 S29 => ⟨⟨i + 1, f, p.step acts t, g', r', oh', by omega, Q29, S29, Nat.le_trans (Nat.le_of_eq (does_ns p.s _ _ _ _)) hns, by omega, by omega, by omega, hplay⟩, meas hi0⟩
end Full
end Go.Proofs.Ytibpbbjlecohiaa
set_option maxRecDepth 20000
namespace Go.Proofs.Ytibpbbjlecohiaa
namespace Full
open Go Go.Vc Go.RowKit
/-! # LatchPlays -/
theorem playsLaw6 {w : World} (a b c d : Int) {z : Hd} {acts : List (List Act)} (hA : ActsR w z acts) (hb : ∀ ys ∈ acts, ys.length ≤ 10000000000000) (hz : z.2.1 ≤ 1000000000000000) {q : Option Addr} {l cp : Nat} {picks : List Int} (hp : RE En.int w q l picks) (hl : l ≤ 1000000000000000) :
    Calls Try.prog 6 #[.agg #[.int .i64 a, .int .i64 b, .int .i64 c, .int .i64 d, .slice z.1 z.2.1 z.2.2, .slice q l cp]] w (Ret fun v w' => v = .bool true ∧ Chg none_ w w') := by
  refine f6.calls _ _ _ _ _ _ _ _ _ _ ?_
  unfold f6.wp
  refine newBox fun w1 B1 k1 s1 => Calls.use (plays22 w1) ?_
  rintro _ w2 ⟨rfl, k2⟩
  have A2 := k2.blk B1 fun x => x
  have k02 := k1.trans k2
  have hG : reads w2 (⟨w.heap.size, 0, none⟩ : Addr) [.int .i64 a, .int .i64 b, .int .i64 c, .int .i64 d] := A2.reads fun j v hj => by rcases j with _ | _ | _ | _ | j; exact hj; exact hj; exact hj; exact hj; simp at hj
  have h23 := play23 a b c d (hA.chg k02) hb hz (hp.chg k02) (cp := cp) hl
  refine ⟨_, rfl, bcF rfl ⟨_, _, _, _, hG, _, _, _, (A2.cell0 4).trans rfl, _, _, _, (A2.cell0 5).trans rfl, Calls.use h23 ?_⟩⟩
  have h24 : ∀ {w' : World}, Chg none_ w w' → Calls Try.prog 24 #[.agg #[.int .i64 a, .int .i64 b, .int .i64 c, .int .i64 d], .slice z.1 z.2.1 z.2.2, .slice q l cp] w' (Ret fun v w'' => PlR w'.heap.size w'' (playT a b c d acts picks) v ∧ Chg none_ w' w'') := fun k => play24 a b c d (hA.chg k) hb hz (hp.chg k) (cp := cp) hl
  generalize playT a b c d acts picks = t at h24
  rintro _ w3 ⟨⟨q1, l1, c1, q2, l2, c2, q3, l3, c3, q4, l4, c4, rfl, R1, R2, R3, R4, m1, m2, m3, m4, hf⟩, k3⟩
  refine ⟨_, _, _, _, _, _, _, _, _, _, _, _, _, rfl, boxed rfl rfl fun w5 B5 k5 s5 => ?_⟩
  have k25 := k3.trans k5
  have k05 := k02.trans k25
  have A5 := k25.blk A2 fun x => x
  have hG5 : reads w5 (⟨w.heap.size, 0, none⟩ : Addr) [.int .i64 a, .int .i64 b, .int .i64 c, .int .i64 d] := A5.reads fun j v hj => by rcases j with _ | _ | _ | _ | j; exact hj; exact hj; exact hj; exact hj; simp at hj
  refine ⟨_, _, _, _, hG5, _, _, _, (A5.cell0 4).trans rfl, _, _, _, (A5.cell0 5).trans rfl, Calls.use (h24 k05) ?_⟩
  rintro _ w6 ⟨⟨p1, n1, d1, p2, n2, d2, p3, n3, d3, p4, n4, d4, rfl, T1, T2, T3, T4, _, _, _, _, _⟩, k6⟩
  refine ⟨_, _, _, _, _, _, _, _, _, _, _, _, _, rfl, boxed rfl rfl fun w8 B8 k8 s8 => ?_⟩
  have k58 := k6.trans k8
  have k38 := k5.trans k58
  have B58 := k58.blk B5 fun x => x
  refine ⟨_, _, _, _, _, _, _, _, _, _, _, _, B58.reads0, _, _, _, _, _, _, _, _, _, _, _, _, B8.reads0, ?_⟩
  have h25 := samePlayed25 (c1 := c1) (c2 := c2) (c3 := c3) (c4 := c4) (d1 := d1) (d2 := d2) (d3 := d3) (d4 := d4) (R1.chg k38) (R2.chg k38) (R3.chg k38) (R4.chg k38) m1 m2 m3 m4 (T1.chg k8) (T2.chg k8) (T3.chg k8) (T4.chg k8)
  refine Calls.use h25 ?_
  rintro _ w9 ⟨rfl, k9⟩
  exact ⟨_, rfl, bcT rfl ⟨by simp, k05.trans (k58.trans k9)⟩⟩
end Full
end Go.Proofs.Ytibpbbjlecohiaa
