import Derived.Test.YtibpbbjlecohiaaLeM
set_option maxRecDepth 20000
namespace Go.Proofs.Ytibpbbjlecohiaa
namespace Full
open Go Go.Vc Go.RowKit
/-! # LatchSame -/
theorem pickF_more (picks : List Int) (n i : Nat) : pickF (picks ++ List.replicate n 0) i = pickF picks i := by
  unfold pickF
  rw [List.getD_eq_getElem?_getD, List.getD_eq_getElem?_getD]
  rcases Nat.lt_or_ge i picks.length with h | h
  · rw [List.getElem?_append_left h]
  · rw [List.getElem?_append_right h, List.getElem?_eq_none h, List.getElem?_replicate]
    split <;> rfl
theorem playN_congr {acts : List (List Act)} {p1 p2 : List Int} (h : ∀ i, pickF p1 i = pickF p2 i) : ∀ (f i : Nat) (p : PS), playN acts p1 f i p = playN acts p2 f i p
  | 0, _, _ => rfl
  | f + 1, i, p => by rw [playN, playN, h i, playN_congr h f]
theorem playT_more (a b c d : Int) (acts : List (List Act)) {picks : List Int} {n : Nat} (hl : picks.length ≤ 60000) (hn : n ≤ 255) : playT a b c d acts (picks ++ List.replicate n 0) = playT a b c d acts picks := by
  have hm : pmayF acts (picks ++ List.replicate n 0) = pmayF acts picks := by
    have e1 : (picks ++ List.replicate n 0).any badP = picks.any badP := by
      rw [List.any_append]
      have : (List.replicate n (0 : Int)).any badP = false := by
        rw [List.any_eq_false]
        intro x hx
        rw [(List.mem_replicate.1 hx).2]; decide
      rw [this, Bool.or_false]
    unfold pmayF
    rw [e1, List.length_append, List.length_replicate]
    have e2 : (16 < acts.length ∨ 4096 < sumL acts ∨ 65536 < picks.length + n) = (16 < acts.length ∨ 4096 < sumL acts ∨ 65536 < picks.length) := propext (by omega)
    simp only [e2]
  have hp : ∀ s, playR s acts (picks ++ List.replicate n 0) = playR s acts picks := fun s => playN_congr (pickF_more picks n) _ _ _
  unfold playT
  rw [hm, hp]
theorem wrap8 {x : Int} (h0 : 0 ≤ x) (h1 : x < 255) : IntKind.wrap .u8 (x + 1) = x + 1 := by
  simp [IntKind.wrap, IntKind.bits, IntKind.signed]; omega
theorem sameLaw7 {w : World} (a b c d : Int) {z : Hd} {acts : List (List Act)} (hA : ActsR w z acts) (hb : ∀ ys ∈ acts, ys.length ≤ 10000000000000) (hz : z.2.1 ≤ 1000000000000000) {q : Option Addr} {l cp : Nat} {picks : List Int} (hp : RE En.int w q l picks) {more : Int} (hm0 : 0 ≤ more) (hm1 : more ≤ 255) :
    Calls Try.prog 7 #[.agg #[.int .i64 a, .int .i64 b, .int .i64 c, .int .i64 d, .slice z.1 z.2.1 z.2.2, .slice q l cp], .int .u8 more] w (Ret fun v w' => v = .bool true ∧ Chg none_ w w') := by
  refine f7.calls _ _ _ _ _ _ _ _ _ _ _ ?_
  unfold f7.wp
  refine newBox fun w1 B1 k1 s1 => Calls.use (plays22 w1) ?_
  rintro _ w2 ⟨rfl, k2⟩
  have A2 := k2.blk B1 fun x => x
  have k02 := k1.trans k2
  have hpl := hp.len
  refine ⟨_, rfl, bcF rfl ⟨_, _, _, (A2.cell0 5).trans rfl, bc (fun _ => ⟨rfl, k02⟩) fun hbig => ?_⟩⟩
  have hl : l ≤ 60000 := by have := of_decide_eq_false hbig; omega
  refine newBox fun w3 B3 k3 s3 => ?_
  have A3 := k3.blk A2 fun x => x
  have k03 := k02.trans k3
  have S3 : SE En.int w3 w2.heap.size 3 (some ⟨w2.heap.size, 0, none⟩) 0 0 [] := ⟨rfl, .inr ⟨_, 0, _, rfl, Nat.le_refl _, B3, Nat.le_refl _, Nat.zero_le _, by simp, fun n v h => by simp [En.flat] at h⟩⟩
  obtain ⟨q3, c3, w4, hrun, S4, k4, hq3, _⟩ := S3.append (t := 35) (ty := 35) (c2 := cp) elemInt (hp.chg k03) (by simp only [maxLen]; omega) (by show (0 + l) * 8 ≤ _; omega) k3.size
  have A4 := k4.blk A3 fun e => by
    have h1 := A2.lt
    have h2 : w.heap.size = w2.heap.size := Option.some.inj e
    omega
  have k04 : Chg none_ w w4 := k03.up k4 fun x hx => by
    have h2 : x = w2.heap.size := Option.some.inj hx
    rw [h2]; exact k02.size
  rw [List.nil_append, Nat.zero_add] at S4
  have hG : reads w4 (⟨w.heap.size, 0, none⟩ : Addr) [.int .i64 a, .int .i64 b, .int .i64 c, .int .i64 d] := A4.reads fun j v hj => by rcases j with _ | _ | _ | _ | j; exact hj; exact hj; exact hj; exact hj; simp at hj
  have h23 := play23 a b c d (hA.chg k04) hb hz S4.re (cp := c3) (by omega)
  refine ⟨_, _, _, (A3.cell0 5).trans rfl, q3, 0 + l, c3, w4, hrun, _, _, _, _, hG, _, _, _, (A4.cell0 4).trans rfl, ?_⟩
  rw [Nat.zero_add]
  refine Calls.use h23 ?_
  generalize hT : playT a b c d acts picks = t
  rintro _ w5 ⟨⟨q5, l5, c5, q6, l6, c6, q7, l7, c7, q8, l8, c8, rfl, R1, R2, R3, R4, m1, m2, m3, m4, hf⟩, k5⟩
  refine ⟨_, _, _, _, _, _, _, _, _, _, _, _, _, rfl, boxed rfl rfl fun w7 B7 k7 s7 => ?_⟩
  have k47 := k5.trans k7
  have A7 := k47.blk A4 fun x => x
  have hw24 : w2.heap.size ≤ w4.heap.size := Nat.le_trans k3.size k4.size
  have hw25 : w4.heap.size ≤ w5.heap.size := k5.size
  have hw0 : w.heap.size < w2.heap.size := A2.lt
  have S7 := S4.chgN k47
  refine ⟨fun q9 l9 c9 x1 w' => ∃ n : Nat, x1 = (n : Int) ∧ (n : Int) ≤ more ∧ l9 = l + n ∧ SE En.int w' w2.heap.size 3 q9 l9 c9 (picks ++ List.replicate n 0) ∧ (∀ g, qB q9 = some g → g < w4.heap.size ∨ w7.heap.size ≤ g) ∧ Chg (fun g => w2.heap.size ≤ g ∧ g < w4.heap.size) w7 w' ∧ Blk w' w5.heap.size 55 _,
    fun _ _ _ x1 _ => 300 - x1.toNat, ⟨0, rfl, hm0, rfl, by rw [List.replicate_zero, List.append_nil]; exact S7, fun g hg => .inl (S4.lt hg).1, Chg.refl _ _, B7⟩, ?_⟩
  rintro q9 l9 c9 _ w8 ⟨n, rfl, hn, hl9, S8, hq9, k8, B8⟩
  refine bc (fun hlt => ?_) fun hge => ?_
  · have hlt : (n : Int) < more := of_decide_eq_true hlt
    refine newBox fun w9 B9 k9 s9 => ?_
    have S9 := S8.chgN k9
    have hw8 : w7.heap.size ≤ w8.heap.size := k8.size
    obtain ⟨q10, c10, w10, hrun, S10, k10, hq10, _⟩ := S9.append1 (t := 35) (ty := 35) (x := 0) elemInt B9 (by simp only [maxLen]; omega) (by show (l9 + 1) * 8 ≤ _; omega) (by omega)
    rw [wrap8 (by omega) (by omega)]
    refine ⟨q10, l9 + 1, c10, w10, hrun, ⟨n + 1, by omega, by omega, by omega, ?_, fun g hg => ?_, ?_, ?_⟩, by show 300 - ((n : Int) + 1).toNat < 300 - (n : Int).toNat; omega⟩
    · rw [List.replicate_succ', ← List.append_assoc]; exact S10
    · rcases hq10 with h | h
      · rw [h] at hg; exact hq9 g hg
      · rw [h] at hg; cases hg; right; omega
    · refine (k8.trans' k9 fun _ h => h.elim).trans' k10 fun g hg => ?_
      rcases hq9 g hg.symm with h | h
      · exact .inl ⟨(S9.lt hg.symm).2, h⟩
      · exact .inr h
    · exact k10.blk (k9.blk B8 fun x => x) fun e => by
        obtain ⟨cs', B'⟩ := S9.blk e.symm
        exact absurd (B'.type (k9.blk B8 fun x => x)).1 (by decide)
  have hge : more = (n : Int) := by have := of_decide_eq_false hge; omega
  have A8 := k8.blk A7 fun e => by omega
  have k78 : Chg none_ w w8 := (k04.trans k47).up k8 fun g hg => by omega
  have hG8 : reads w8 (⟨w.heap.size, 0, none⟩ : Addr) [.int .i64 a, .int .i64 b, .int .i64 c, .int .i64 d] := A8.reads fun j v hj => by rcases j with _ | _ | _ | _ | j; exact hj; exact hj; exact hj; exact hj; simp at hj
  have h23' := play23 a b c d (hA.chg k78) hb hz S8.re (cp := c9) (by omega)
  rw [playT_more a b c d acts (by omega) (by omega), hT] at h23'
  have keep : ∀ {α : Type} {E : En α} {q : Option Addr} {l : Nat} {xs : List α}, (∀ g, qB q = some g → w4.heap.size ≤ g ∧ g < w5.heap.size) → RE E w5 q l xs → RE E w8 q l xs := fun hq R => (R.chg k7).chgS k8 fun a ha hs => by
    have := (hq a.block (by rw [ha]; rfl)).1
    omega
  refine ⟨_, _, _, _, hG8, _, _, _, (A8.cell0 4).trans rfl, Calls.use h23' ?_⟩
  rintro _ w11 ⟨⟨q12, l12, c12, q13, l13, c13, q14, l14, c14, q15, l15, c15, rfl, T1, T2, T3, T4, _, _, _, _, _⟩, k11⟩
  refine ⟨_, _, _, _, _, _, _, _, _, _, _, _, _, rfl, boxed rfl rfl fun w13 B13 k13 s13 => ?_⟩
  have k1113 := k11.trans k13
  have B83 := k1113.blk B8 fun x => x
  refine bcT (by simp) ⟨_, _, _, _, _, _, _, _, _, _, _, _, B83.reads0, _, _, _, _, _, _, _, _, _, _, _, _, B13.reads0, ?_⟩
  have h25 := samePlayed25 (c1 := c5) (c2 := c6) (c3 := c7) (c4 := c8) (d1 := c12) (d2 := c13) (d3 := c14) (d4 := c15) ((keep (fun g hg => hf g (.inl hg)) R1).chg k1113) ((keep (fun g hg => hf g (.inr (.inl hg))) R2).chg k1113) ((keep (fun g hg => hf g (.inr (.inr (.inl hg)))) R3).chg k1113) ((keep (fun g hg => hf g (.inr (.inr (.inr hg)))) R4).chg k1113) m1 m2 m3 m4 (T1.chg k13) (T2.chg k13) (T3.chg k13) (T4.chg k13)
  refine Calls.use h25 ?_
  rintro _ w14 ⟨rfl, k14⟩
  exact ⟨_, rfl, rfl, k78.trans (k1113.trans k14)⟩
end Full
end Go.Proofs.Ytibpbbjlecohiaa
