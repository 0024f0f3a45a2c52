import Derived.Test.YtdlbmmodlkmofaaGreatDoorQ5
set_option maxRecDepth 20000
namespace Go.Proofs.YtdlbmmodlkmofaaGreatDoor
open Go Go.Vc Go.RowKit
/-! # the law PlanPrints -/
theorem prints3 {w : World} (t : Tm w) (tb : Tb w) (g : Gm) {q1 q2 : Option Addr} {l1 l2 c1 c2 : Nat} {fs : List T3} {cs : List Cr} (h1 : RE En.t3 w q1 l1 fs) (h2 : CrsR w q2 l2 cs) (hl1 : l1 * 24 ≤ 140737488351232) (hl2 : l2 * 40 ≤ 140737488351232) :
    Calls Tryz.prog 3 #[.agg #[.int .i64 g.page, .int .i64 g.pages, .int .i64 g.regions, .int .i64 g.align, .slice q1 l1 c1, .slice q2 l2 c2]] w (Ret fun v w' => v = .bool true ∧ Chg none_ w w') := by
  refine f3.calls _ _ _ _ _ _ _ _ _ _ ?_
  unfold f3.wp
  refine newBox fun w1 B1 k1 _ => Calls.use (awake12 w1) ?_
  rintro _ w2 ⟨rfl, k2⟩
  have B2 := k2.blk B1 (fun x => x)
  have k02 := k1.trans k2
  have rP : ∀ {w' : World}, Blk w' w.heap.size 29 #[.int .i64 g.page, .int .i64 g.pages, .int .i64 g.regions, .int .i64 g.align, .slice q1 l1 c1, .slice q2 l2 c2] → reads w' ((⟨w.heap.size, 0, none⟩ : Addr).add 4) [.slice q1 l1 c1, .slice q2 l2 c2] := fun B => by
    rw [add_mk]
    exact B.reads fun j v hj => by rcases j with _ | _ | j; exact hj; exact hj; simp at hj
  have rG : ∀ {w' : World}, Blk w' w.heap.size 29 #[.int .i64 g.page, .int .i64 g.pages, .int .i64 g.regions, .int .i64 g.align, .slice q1 l1 c1, .slice q2 l2 c2] → reads w' (⟨w.heap.size, 0, none⟩ : Addr) [.int .i64 g.page, .int .i64 g.pages, .int .i64 g.regions, .int .i64 g.align] := fun B =>
    B.reads fun j v hj => by rcases j with _ | _ | _ | _ | j; exact hj; exact hj; exact hj; exact hj; simp at hj
  refine ⟨_, rfl, bcF rfl ⟨_, _, _, _, _, _, rP B2, Calls.use (copy13 (h1.chg k02) (h2.chg k02) hl1 hl2) ?_⟩⟩
  rintro _ w3 ⟨q3, c3, q4, c4, rfl, S3, C3, k3⟩
  refine ⟨_, _, _, _, _, _, rfl, boxed rfl rfl fun w5 B5 k5 _ => ?_⟩
  have k35 := k3.trans k5
  have k05 := k02.trans k35
  have A5 := k35.blk B2 (fun x => x)
  have R5 := (S3.chgN k5).re
  have D5 := C3.re.chg k5
  refine ⟨_, _, _, _, rG A5, _, _, _, _, _, _, B5.reads0, Calls.use (print7 (tb.chg k05) g R5 D5 (by omega) (by omega)) ?_⟩
  rintro _ w6 ⟨rfl, k6⟩
  have A6 := k6.blk A5 (fun x => x)
  have k06 := k05.trans k6
  refine ⟨_, _, rfl, _, _, _, _, rG A6, _, _, _, _, _, _, rP A6, Calls.use (print8 g (h1.chg k06) (h2.chg k06) (by omega) (by omega)) ?_⟩
  rintro _ w7 ⟨rfl, k7⟩
  have k67 := k6.trans k7
  have A7 := k67.blk A5 (fun x => x)
  have B7 := k67.blk B5 (fun x => x)
  have k07 := k06.trans k7
  refine ⟨_, _, rfl, bcF (by simp) (bcF (by simp) ⟨_, _, _, _, _, _, B7.reads0, _, _, _, _, _, _, rP A7, Calls.use (same16 (R5.chg k67) (D5.chg k67) (h1.chg k07) (h2.chg k07) (by omega) (by omega)) ?_⟩)⟩
  rintro _ w8 ⟨rfl, k8⟩
  have k08 := k07.trans k8
  have A8 := k8.blk A7 (fun x => x)
  refine ⟨_, rfl, bcF rfl (bc (fun _ => ⟨rfl, k08⟩) fun heq => bc (fun _ => ⟨rfl, k08⟩) fun hsm => ?_)⟩
  have heq : chk g fs cs = 0 := by simpa using heq
  rw [if_pos heq] at hsm ⊢
  have hz : (planT fs cs).length ≤ 65536 := by
    have h1 := of_decide_eq_false hsm
    have h2 : (bs (planT fs cs)).size = (planT fs cs).length := by rw [s_size]
    omega
  have t8 : Tm w8 := by obtain ⟨m, hm⟩ := t; exact ⟨m, k08.cellS hm (fun x => x)⟩
  refine ⟨_, _, _, _, rG A8, Calls.use (parse10 t8 g (bs (planT fs cs))) ?_⟩
  rw [parse_plan heq hz]
  rintro _ w9 ⟨⟨p1, m1, d1, p2, m2, d2, rfl, R9, D9, hm1, hm2⟩, k9⟩
  refine ⟨_, _, _, _, _, _, _, _, rfl, boxed rfl rfl fun w11 B11 k11 _ => ?_⟩
  have k811 := k9.trans k11
  have A11 := k811.blk A8 (fun x => x)
  have k011 := k08.trans k811
  refine ⟨_, _, _, _, _, _, B11.reads0, _, _, _, _, _, _, rP A11, Calls.use (same16 (R9.chg k11) (D9.chg k11) (h1.chg k011) (h2.chg k011) (by omega) (by omega)) ?_⟩
  rintro _ w12 ⟨rfl, k12⟩
  exact ⟨_, rfl, bcT rfl (bcT rfl ⟨rfl, k011.trans k12⟩)⟩
end Go.Proofs.YtdlbmmodlkmofaaGreatDoor
