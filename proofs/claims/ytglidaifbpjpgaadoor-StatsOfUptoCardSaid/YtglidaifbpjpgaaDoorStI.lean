import Derived.Test.YtglidaifbpjpgaaDoorStH
set_option maxRecDepth 20000
namespace Go.Proofs.YtglidaifbpjpgaaDoor
open Go Go.Vc Go.RowKit
theorem ok110 : OkB [1, 10] := ⟨by decide, by decide, fun i a b ha hb => by
  match i, ha, hb with
  | 0, ha, hb => simp at ha hb; omega
  | i + 1, _, hb => simp at hb⟩
theorem add_b (h : Hs) (n : Int) : (h.add n).b = h.b := by unfold Hs.add; split <;> rfl
theorem ratio233 : rS 2 3 3 = bt [48, 46, 54, 54, 54] := by
  have d0 : Lib.decDigits 0 = [48] := by rw [dd_small (by decide)]; rfl
  have d6 : Lib.decDigits 6 = [54] := by rw [dd_small (by decide)]; rfl
  show bt (Lib.decDigits 0 ++ [46] ++ (Lib.decDigits 6 ++ (Lib.decDigits 6 ++ (Lib.decDigits 6 ++ [])))) = _
  rw [d0, d6]; rfl
theorem litInts {w w1 : World} {xs : List Int} {cs : Array Value} (e : w1 = w.alloc (.cells cs 3)) (h : cs = (xs.map iv).toArray) : RE En.int w1 (some ⟨w.heap.size, 0, none⟩) xs.length xs := by
  refine RE.of_flat rfl ?_
  have B := new_blk e
  have : ∀ xs : List Int, En.int.flat xs = xs.map iv := fun xs => by
    induction xs with
    | nil => rfl
    | cons x xs ih => simp only [En.flat] at ih ⊢; rw [List.flatMap_cons, ih]; rfl
  rw [this]
  rw [h] at B
  exact B.reads0
theorem awake12 (w : World) : Calls Tryd.prog 12 #[] w (Ret fun v w' => v = .bool true ∧ Chg none_ w w') := by
  refine f12.calls ?_
  unfold f12.wp
  refine Calls.use (ratio10 w 2 3 3 (fun _ => itoa_small w 0 (by decide))) ?_
  rintro _ w1 ⟨rfl, k1⟩
  refine ⟨_, _, rfl, fun w2 e2 => ?_⟩
  have r2 := litInts (xs := [1, 4, 4]) e2 rfl
  have k2 := k1.new' e2
  refine Calls.use (spread14 r2 (Nat.le_refl 3) (by decide)) ?_
  rintro _ _ ⟨rfl, rfl⟩
  refine ⟨_, _, rfl, fun w4 e4 => ?_⟩
  have r4 := litInts (xs := [1, 10]) e4 rfl
  have k4 := k2.new' e4
  refine Calls.use (new18 r4 (by decide) (by simp)) ?_
  rintro _ w5 ⟨k45, ⟨hno, _⟩ | ⟨_, s, H0, hbs, hcs, ht, hs, rfl⟩⟩
  · exact absurd ok110 hno
  have k5 := k4.trans k45
  obtain ⟨b, q1, c1, q2, c2, bs, cs, tot, sum⟩ := s
  simp only [] at hbs hcs ht hs
  subst hbs hcs ht hs
  have H1 := H0.lower k4.size
  clear e2 r2 k1 k2 e4 r4 k4 k45 H0
  refine ⟨_, _, rfl, bcF (by simp [ratio233]) (bcF rfl (bcF (by decide) (bcF (by decide) (bcF rfl ⟨ptrOk_none _ _, bcF (by simp) ?_⟩))))⟩
  generalize hs0 : (⟨b, q1, c1, q2, c2, [1, 10], List.replicate (2 + 1) 0, 0, 0⟩ : Hs) = s0 at H1
  have hb0 : s0.b = b := by rw [← hs0]
  subst hb0
  have hup : ∀ {w'}, Chg none_ w w' → ∀ {s w''}, HI w' w.heap.size s → Chg s.own w' w'' → Chg none_ w w'' := fun k _ _ H c => k.up c fun g hg => (H.ownLt hg).2
  have c0 : s0.can 0 = true := by rw [← hs0]; rfl
  have c1' : (s0.add 0).can 1 = true := by rw [← hs0]; rfl
  have c2' : ((s0.add 0).add 1).can 5 = true := by rw [← hs0]; rfl
  have c3' : (((s0.add 0).add 1).add 5).can 99 = true := by rw [← hs0]; rfl
  refine ⟨fun x w' => x = true ∧ HI w' w.heap.size ((((s0.add 0).add 1).add 5).add 99) ∧ Chg none_ w w', ?_, ?_⟩
  · rintro _ w6 ⟨rfl, H6, k6⟩
    have eb : ((((s0.add 0).add 1).add 5).add 99).b = s0.b := by simp only [add_b]
    have q := quantile25 H6 3 4 (by decide)
    rw [eb] at q
    refine Calls.use q ?_
    rintro _ _ ⟨rfl, rfl⟩
    have eq1 : quant ((((s0.add 0).add 1).add 5).add 99).bs ((((s0.add 0).add 1).add 5).add 99).cs ((((s0.add 0).add 1).add 5).add 99).tot 3 4 = (10, 0) := by rw [← hs0]; rfl
    rw [eq1]
    have t := total23 H6
    rw [eb] at t
    have et : ((((s0.add 0).add 1).add 5).add 99).tot = 4 := by rw [← hs0]; rfl
    rw [et] at t
    refine ⟨_, _, rfl, bcT rfl (bcT rfl (bcT rfl (Calls.use t ?_)))⟩
    rintro _ _ ⟨rfl, rfl⟩
    have cc := counts22 H6
    rw [eb] at cc
    have ec : ((((s0.add 0).add 1).add 5).add 99).cs = [2, 1, 1] := by rw [← hs0]; rfl
    have el : ((((s0.add 0).add 1).add 5).add 99).bs.length = 2 := by rw [← hs0]; rfl
    rw [ec, el] at cc
    refine ⟨_, rfl, bcT rfl (Calls.use cc ?_)⟩
    rintro _ w7 ⟨q7, c7, rfl, s7, k7⟩
    refine ⟨_, _, _, rfl, fun w8 e8 => ?_⟩
    have r8 := litInts (xs := [2, 1, 1]) e8 rfl
    have k8 := (Chg.refl none_ w7).new' e8
    refine Calls.use (sameInts16 (s7.chgN k8).re r8 (by decide)) ?_
    rintro _ w9 ⟨rfl, k9⟩
    exact ⟨_, rfl, rfl, ((k6.trans k7).trans k8).trans k9⟩
  · refine Calls.use (add20 H1 0) ?_
    rintro _ w6 ⟨rfl, H6, d6⟩
    rw [c0]
    have k6 := hup k5 H1 d6
    have a1 := add20 H6 1
    rw [add_b, c1'] at a1
    refine ⟨_, rfl, bcT rfl (Calls.use a1 ?_)⟩
    rintro _ w7 ⟨rfl, H7, d7⟩
    have k7 := hup k6 H6 d7
    have a2 := add20 H7 5
    rw [add_b, add_b, c2'] at a2
    refine ⟨_, rfl, bcT rfl (Calls.use a2 ?_)⟩
    rintro _ w8 ⟨rfl, H8, d8⟩
    have k8 := hup k7 H7 d8
    have a3 := add20 H8 99
    rw [add_b, add_b, add_b, c3'] at a3
    refine ⟨_, rfl, bcT rfl (Calls.use a3 ?_)⟩
    rintro _ w9 ⟨rfl, H9, d9⟩
    exact ⟨_, rfl, rfl, H9, hup k8 H8 d9⟩
end Go.Proofs.YtglidaifbpjpgaaDoor
