import Derived.Test.YtdlbmmodlkmofaaGreatDoorPzF
set_option maxRecDepth 20000
namespace Go.Proofs.YtdlbmmodlkmofaaGreatDoor
open Go Go.Vc Go.RowKit
/-! # how many outcomes -/
theorem wrapN {n : Nat} (h : n ≤ 9223372036854775807) : IntKind.wrap .i64 (n : Int) = n := wrapS (by omega) (by omega)
def cnt (m l : Nat) : Nat × Int := if l ≤ 64 ∧ (2 + m) ^ l ≤ 65536 then ((2 + m) ^ l, 0) else (0, 43)
theorem cnt_no {m l : Nat} (h : ¬ (l ≤ 64 ∧ (2 + m) ^ l ≤ 65536)) : cnt m l = (0, 43) := if_neg h
theorem pw_mono (m : Nat) {i l : Nat} (h : i ≤ l) : (2 + m) ^ i ≤ (2 + m) ^ l := Nat.pow_le_pow_right (by omega) h
theorem mul_lt {a m : Nat} (ha : a ≤ 65536) (hm : m ≤ 17592186044416) : a * (2 + m) ≤ 65536 * 17592186044418 := Nat.mul_le_mul ha (by omega)
theorem count21 (w : World) {q1 q2 : Option Addr} {l c1 m c2 : Nat} (hl : l ≤ 9223372036854775807) (hm : m ≤ 17592186044416) :
    Calls Tryz.prog 13 #[.slice q1 l c1, .slice q2 m c2] w (Ret fun v w' => v = .tuple #[.int .i64 ((cnt m l).1 : Nat), .int .i64 (cnt m l).2] ∧ w = w') := by
  refine f13.calls _ _ _ _ _ _ ?_
  unfold f13.wp
  refine ⟨fun x1 x2 w' => ∃ i : Nat, x2 = i ∧ i ≤ l ∧ i ≤ 64 ∧ x1 = ((2 + m) ^ i : Nat) ∧ (2 + m) ^ i ≤ 65536 ∧ w = w', fun _ x2 _ => l - x2.toNat, ⟨0, rfl, Nat.zero_le _, by decide, by simp, by simp, rfl⟩, ?_⟩
  rintro x1 x2 _ ⟨i, rfl, hi, h64, rfl, hp, rfl⟩
  have hb := mul_lt hp hm
  have e : (2 + m) ^ (i + 1) = (2 + m) ^ i * (2 + m) := Nat.pow_succ ..
  refine bc (fun hlt => ?_) (fun hge => ⟨?_, rfl⟩)
  · have hi' : i < l := by simpa using hlt
    rw [wrapS (x := 2 + (m : Int)) (by omega) (by omega)]
    have hx : ((((2 + m) ^ i : Nat) : Int) * (2 + (m : Int))) = (((2 + m) ^ (i + 1) : Nat) : Int) := by rw [e]; norm_cast
    rw [hx, wrapS (x := (((2 + m) ^ (i + 1) : Nat) : Int)) (by omega) (by omega), wrapS (x := (i : Int) + 1) (by omega) (by omega)]
    refine bc (fun h => ⟨?_, rfl⟩) (fun h => bc (fun h' => ⟨?_, rfl⟩) (fun h' => ⟨⟨i + 1, by omega, hi', ?_, rfl, ?_, rfl⟩, meas hi'⟩))
    · have h : 64 ≤ i := by have := of_decide_eq_true h; omega
      rw [cnt_no (by omega)]; rfl
    · have h : 65536 < (2 + m) ^ (i + 1) := by have := of_decide_eq_true h'; omega
      rw [cnt_no (fun hh => by have := pw_mono m (show i + 1 ≤ l from hi'); omega)]; rfl
    · have := of_decide_eq_false h; omega
    · have := of_decide_eq_false h'; omega
  · have hi' : i = l := by simp at hge; omega
    subst hi'
    rw [cnt, if_pos ⟨h64, hp⟩]
/-! # awake -/
theorem small34 (w : World) : Calls Tryz.prog 12 #[] w (Ret fun v w' => v = .agg (gv sm).toArray ∧ Chg none_ w w') := by
  refine f12.calls ?_
  unfold f12.wp
  exact boxed rfl rfl fun w2 B2 k2 _ => ⟨_, _, _, _, B2.reads0, rfl, k2⟩
theorem awake12 (w : World) : Calls Tryz.prog 5 #[] w (Ret fun v w' => v = .bool true ∧ Chg none_ w w') := by
  refine f5.calls ?_
  unfold f5.wp
  refine newBox fun w1 B1 k1 _ => boxed rfl rfl fun w3 B3 k3 _ => newBox fun w4 B4 k4 _ => newBox fun w5 B5 k5 _ => ?_
  have k35 := k4.trans k5
  have P5 := k35.blk B3 (fun x => x)
  refine ⟨P5.canStore0 (show 1 + 1 ≤ 2 by decide), fun w6 e6 => ?_⟩
  have P6 : Blk w6 w1.heap.size 27 #[.slice (some (ad w.heap.size)) 1 1, .slice (some (ad w4.heap.size)) 1 1] := P5.sets' e6
  have k6 : Chg (fun k => k = w1.heap.size) w5 w6 := (Chg.refl _ w5).sets' e6 (.inl rfl)
  have k16 : Chg none_ w1 w6 := (k3.trans k35).up k6 fun k hk => by omega
  have k06 := k1.trans k16
  have F6 : Blk w6 w.heap.size 41 _ := k16.blk B1 (fun x => x)
  have D6 : Blk w6 w3.heap.size 43 _ := k6.blk (k5.blk B4 (fun x => x)) (fun e => by have := B3.lt; omega)
  have C6 : Blk w6 w4.heap.size 46 _ := k6.blk B5 (fun e => by have := k4.size; have := B3.lt; omega)
  have P6' := P6.drew
  have F6' := F6.drew
  have D6' := D6.drew
  have C6' := C6.drew
  have k06' := k06.drew
  generalize w6.drew = w6' at *
  refine ⟨fun p => p.block < w6'.heap.size, _, _, _, _, _, _, fun j _ => ?_, P6'.reads0, Calls.use (small34 w6') ?_⟩
  · show (Addr.add _ _).block < _
    rw [add_block]; exact P6'.lt
  rintro _ w7 ⟨rfl, k7⟩
  have hF : RE En.t3 w7 (some (ad w.heap.size)) 1 f1s := RE.of_flat rfl (k7.blk F6' (fun x => x)).reads0
  have hD : RE En.t3 w7 (some (ad w3.heap.size)) 2 cr1.fates := RE.of_flat rfl (k7.blk D6' (fun x => x)).reads0
  have hC : CrsR w7 (some (ad w4.heap.size)) 1 [cr1] := ⟨[⟨17, 2, some (ad w3.heap.size), 2, 2⟩], RE.of_flat rfl (k7.blk C6' (fun x => x)).reads0, rfl, fun i h c hh hc => by
    rcases i with _ | i
    · cases hh; cases hc
      exact ⟨rfl, rfl, hD, show 2 * 24 ≤ 140737488351232 by decide, show 2 ≤ 2 by decide⟩
    · simp at hc⟩
  refine ⟨_, _, _, _, rfl, k7.keeps, Calls.use (print33 hF hC) ?_⟩
  rintro _ w8 ⟨rfl, k8⟩
  refine ⟨_, _, rfl, (k7.trans k8).keeps, newBox fun w9 _ k9 _ => newBox fun w10 _ k10 _ => Calls.use (count21 w10 (by decide) (by decide)) ?_⟩
  rintro _ _ ⟨rfl, rfl⟩
  refine ⟨_, _, rfl, bcT ?_ (bcT rfl (bcT (by kernel_rfl) ⟨congrArg Value.bool (by kernel_rfl), k06'.trans ((k7.trans k8).trans (k9.trans k10))⟩))⟩
  rw [t4_is]
  exact strEqB rfl
end Go.Proofs.YtdlbmmodlkmofaaGreatDoor
