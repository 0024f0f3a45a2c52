import Derived.Test.YtdlbmmodlkmofaaGreatDoorQc
set_option maxRecDepth 20000
namespace Go.Proofs.YtdlbmmodlkmofaaGreatDoor
open Go Go.Vc Go.RowKit
/-! # the law PlanParses -/
theorem parses4 {w : World} (t : Tm w) (tb : Tb w) (g : Gm) (s : ByteArray) :
    Calls Tryz.prog 4 #[.agg #[.int .i64 g.page, .int .i64 g.pages, .int .i64 g.regions, .int .i64 g.align], .string s] w (Ret fun v w' => v = .bool true ∧ Chg none_ w w') := by
  refine f4.calls _ _ _ _ _ ?_
  unfold f4.wp
  refine newBox fun w1 B1 k1 _ => Calls.use (awake12 w1) ?_
  rintro _ w2 ⟨rfl, k2⟩
  have B2 := k2.blk B1 (fun x => x)
  have k02 := k1.trans k2
  have tm : ∀ {w' : World}, Chg none_ w w' → Tm w' := fun k => by obtain ⟨m, hm⟩ := t; exact ⟨m, k.cellS hm (fun x => x)⟩
  refine ⟨_, rfl, bcF rfl ⟨_, _, _, _, B2.reads0, Calls.use (parse10 (tm k02) g s) ?_⟩⟩
  generalize hR : parseF g s = r
  obtain ⟨e, l, fs, cs⟩ := r
  rintro _ w3 ⟨⟨q1, l1, c1, q2, l2, c2, rfl, R3, C3, m1, m2⟩, k3⟩
  have k03 := k02.trans k3
  refine ⟨_, _, _, _, _, _, _, _, rfl, boxed rfl rfl fun w5 X5 k5 _ => ?_⟩
  have k05 := k03.trans k5
  have B5 := (k3.trans k5).blk B2 (fun x => x)
  refine ⟨_, _, _, _, B5.reads0, Calls.use (parse11 (tm k05) g s) ?_⟩
  rw [hR]
  rintro _ w6 ⟨⟨q3, l3, c3, q4, l4, c4, rfl, R6, C6, m3, m4⟩, k6⟩
  have k06 := k05.trans k6
  refine ⟨_, _, _, _, _, _, _, _, rfl, boxed rfl rfl fun w8 X8 k8 _ => ?_⟩
  have k58 := k6.trans k8
  have k08 := k05.trans k58
  have X58 := k58.blk X5 (fun x => x)
  refine ⟨_, _, _, _, _, _, X58.reads0, _, _, _, _, _, _, X8.reads0, Calls.use (same16 (R3.chg (k5.trans k58)) (C3.chg (k5.trans k58)) (R6.chg k8) (C6.chg k8) (by omega) (by omega)) ?_⟩
  rintro _ w9 ⟨rfl, k9⟩
  have k09 := k08.trans k9
  refine ⟨_, rfl, bcF rfl (bcF (by simp) (bcF (by simp) (bc (fun _ => ⟨rfl, k09⟩) fun he => ?_)))⟩
  have he : e = 0 := by simpa using he
  subst he
  obtain ⟨hc, hs, _⟩ := parse_text hR
  have B9 := (k58.trans k9).blk B5 (fun x => x)
  have X9 := k9.blk X58 (fun x => x)
  refine ⟨_, _, _, _, B9.reads0, _, _, _, _, _, _, X9.reads0, Calls.use (print7 (tb.chg k09) g (R3.chg ((k5.trans k58).trans k9)) (C3.chg ((k5.trans k58).trans k9)) (by omega) (by omega)) ?_⟩
  rw [if_pos hc, hs, hc]
  rintro _ w10 ⟨rfl, k10⟩
  exact ⟨_, _, rfl, bcT (by simp) ⟨rfl, k09.trans k10⟩⟩
end Go.Proofs.YtdlbmmodlkmofaaGreatDoor
