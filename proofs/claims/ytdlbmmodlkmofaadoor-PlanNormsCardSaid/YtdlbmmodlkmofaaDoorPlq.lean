import Derived.Test.YtdlbmmodlkmofaaDoorPl0
import Derived.Test.YtdlbmmodlkmofaaDoorPlY
set_option maxRecDepth 20000
namespace Go.Proofs.YtdlbmmodlkmofaaDoor
open Go Go.Vc Go.RowKit
/-! # the law of Norm -/
/-- kept through a change of what came between -/
theorem CrsO.over {w0 w w' : World} {base : Nat} {q : Option Addr} {l c : Nat} {cs : List Cr} (h : CrsO w0 base q l c cs) (k : Chg none_ w0 w) {S : Nat → Prop} (k' : Chg S w w') (hS : ∀ g, base ≤ g → g < w0.heap.size → ¬ S g) : CrsO w' base q l c cs := by
  obtain ⟨hs, u1, u2, u3⟩ := h.ex
  exact ⟨hs, (u1.chgN k).chg k' fun g hg => hS g (u1.lt hg).2 (u1.lt hg).1, u2, fun i a b ha hb => ((u3 i a b ha hb).chg k fun _ _ x => x).chg k' fun g hg => hS g ((u3 i a b ha hb).2.2.1.lt hg).2 ((u3 i a b ha hb).2.2.1.lt hg).1⟩
theorem norms10 {w : World} {q1 q2 : Option Addr} {l1 c1 l2 c2 : Nat} {fs : List T3} {cs : List Cr} (h1 : RE En.t3 w q1 l1 fs) (h2 : CrsR w q2 l2 cs) (hl1 : l1 * 24 ≤ 140737488351232) (hl2 : l2 * 40 ≤ 140737488351232) :
    Calls Tryd.prog 10 #[.agg #[.slice q1 l1 c1, .slice q2 l2 c2]] w (Ret fun v w' => v = .bool true ∧ Chg none_ w w') := by
  refine f10.calls _ _ _ _ _ _ ?_
  unfold f10.wp
  refine newBox fun w1 B1 k1 z1 => Calls.use (awake12 w1) ?_
  rintro _ w2 ⟨rfl, k2⟩
  have k02 := k1.trans k2
  have A2 := k2.blk B1 (fun x => x)
  refine ⟨_, rfl, bcF rfl ⟨_, _, _, _, _, _, A2.reads0, Calls.use (copyD13 (h1.chg k02) (h2.chg k02) hl1 hl2) ?_⟩⟩
  rintro _ w3 ⟨q3, c3, q4, c4, rfl, S3, D3, k3⟩
  refine ⟨_, _, _, _, _, _, rfl, boxed rfl rfl fun w5 I5 k5 z5 => ⟨_, _, _, _, _, _, I5.reads0, Calls.use (norm30 (S3.chgN k5).re (D3.o.re.chg k5) hl1 hl2) ?_⟩⟩
  rintro _ w6 ⟨q7, l7, c7, q8, c8, rfl, hl7, S6, D6, k6⟩
  refine ⟨_, _, _, _, _, _, rfl, boxed rfl rfl fun w8 N8 k8 z8 => ?_⟩
  have k28 := (k3.trans k5).trans (k6.trans k8)
  have k08 := k02.trans k28
  have A8 := k28.blk A2 (fun x => x)
  refine ⟨_, _, _, _, _, _, A8.reads0, Calls.use (norm31 (h1.chg k08) (h2.chg k08) hl1 hl2) ?_⟩
  rintro _ w9 ⟨q11, l11, c11, q12, c12, rfl, S9, O9, k9⟩
  refine ⟨_, _, _, _, _, _, rfl, boxed rfl rfl fun w11 W11 k11 z11 => ?_⟩
  have k811 := (k9.trans k11).drew
  have k011 := k08.trans k811
  have A11 := k811.blk A8 (fun x => x)
  have I11 := ((k6.trans k8).trans k811).blk I5 (fun x => x)
  have N11 := k811.blk N8 (fun x => x)
  have W11 := W11.drew
  have zz : w11.drew.heap.size = w9.heap.size + 1 := z11
  have inS := S3.chgN ((k5.trans (k6.trans k8)).trans k811)
  have inD := D3.chg (((k5.trans (k6.trans k8)).trans k811)) (fun g hg => hg.elim)
  have nS := S6.chgN (k8.trans k811)
  have nD := D6.chg (k8.trans k811) (fun g hg => hg.elim)
  have wS := S9.chgN k11.drew
  have wO := O9.re.chg k11.drew
  have el7 := S6.len
  have k911 := k11.drew
  have el11 := S9.len
  generalize w11.drew = W at *
  have hK : ∀ {b j : Nat}, b < W.heap.size → (fun p : Addr => p.block < W.heap.size) ((⟨b, 0, none⟩ : Addr).add j) := fun {b j} h => by
    show (Addr.add _ _).block < _
    rw [add_block]; exact h
  refine ⟨fun p => p.block < W.heap.size, _, _, _, _, _, _, fun j _ => hK N11.lt, N11.reads0, _, _, _, _, _, _, fun j _ => hK W11.lt, W11.reads0, Calls.use (same16 nS.re nD.o.re wS.re wO (by omega) (by omega)) ?_⟩
  rintro _ w12 ⟨rfl, k12⟩
  refine ⟨_, rfl, k12.keeps, bcF rfl ⟨_, _, _, _, _, _, fun j _ => hK I11.lt, I11.reads0, _, _, _, _, _, _, fun j _ => hK A11.lt, A11.reads0, Calls.use (same16 (inS.re.chg k12) (inD.o.re.chg k12) (h1.chg (k011.trans k12)) (h2.chg (k011.trans k12)) (by omega) (by omega)) ?_⟩⟩
  rintro _ w13 ⟨rfl, k13⟩
  have k1113 := k12.trans k13
  refine ⟨_, rfl, k1113.keeps, bcF rfl ⟨_, _, _, _, _, _, fun j _ => hK N11.lt, N11.reads0, _, _, _, _, _, _, fun j _ => hK W11.lt, W11.reads0, Calls.use (norm30 (nS.re.chg k1113) (nD.o.re.chg k1113) (by omega) hl2) ?_⟩⟩
  rintro _ w14 ⟨q25, l25, c25, q26, c26, rfl, hl25, S14, D14, k14⟩
  rw [normF_idem] at S14
  rw [normC_idem] at D14
  have k1114 := k1113.trans k14
  refine ⟨_, _, _, _, _, _, rfl, k1114.keeps, Calls.use (same16 S14.re D14.o.re (wS.re.chg k1114) (wO.chg k1114) (by omega) (by omega)) ?_⟩
  rintro _ w15 ⟨rfl, k15⟩
  have k1115 := k1114.trans k15
  have N15 := k1115.blk N11 (fun x => x)
  refine ⟨_, rfl, bcF rfl ⟨_, _, _, _, _, _, N15.reads0, Calls.use (spoilD (S := fun k => w5.heap.size ≤ k ∧ k < w6.heap.size) S6 D6 ((k8.trans k811).trans k1115) (by omega) (by omega) (fun g h h' => ⟨h, h'⟩)) ?_⟩⟩
  rintro _ w16 ⟨rfl, k16⟩
  have z58 := (k6.trans k8).size
  have z6 := k6.size
  have z8' := k8.size
  have z811 := k811.size
  have z1115 := k1115.size
  have z9' := k9.size
  have z35 : w5.heap.size = w3.heap.size + 1 := z5
  have z03 := (k02.trans k3).size
  have z02 := k02.size
  have z1' := k1.size
  have lA := A2.lt
  have A16 := (k16.blk (k1115.blk A11 (fun x => x)) (by omega)).drew
  have I16 := (k16.blk (k1115.blk I11 (fun x => x)) (by omega)).drew
  have W16 := (k16.blk (k1115.blk W11 (fun x => x)) (by omega)).drew
  have inS16 := ((inS.chgN k1115).chg k16 fun g hg hk => by have := (S3.lt hg).1; omega).drew
  have k315 := ((k5.trans (k6.trans k8)).trans k811).trans k1115
  have inD16 := (D3.o.over k315 k16 fun g h1 h2 hg => by omega).re.chg (Chg.refl none_ w16).drew
  have wS16 := ((wS.chgN k1115).chg k16 fun g hg hk => by have := (S9.lt hg).2; omega).drew
  have wO16 := (O9.over (k911.trans k1115) k16 fun g h1 h2 hg => by omega).re.chg (Chg.refl none_ w16).drew
  have k016 := ((k011.trans k1115).up k16 fun k hk => by omega).drew
  generalize w16.drew = V at *
  have hK2 : ∀ {b j : Nat}, b < V.heap.size → (fun p : Addr => p.block < V.heap.size) ((⟨b, 0, none⟩ : Addr).add j) := fun {b j} h => by
    show (Addr.add _ _).block < _
    rw [add_block]; exact h
  refine ⟨rfl, fun p => p.block < V.heap.size, _, _, _, _, _, _, fun j _ => hK2 I16.lt, I16.reads0, _, _, _, _, _, _, fun j _ => hK2 A16.lt, A16.reads0, Calls.use (same16 inS16.re inD16 (h1.chg k016) (h2.chg k016) (by omega) (by omega)) ?_⟩
  rintro _ w17 ⟨rfl, k17⟩
  refine ⟨_, rfl, k17.keeps, bcT rfl ⟨_, _, _, _, _, _, fun j _ => hK2 I16.lt, I16.reads0, _, _, _, _, _, _, fun j _ => hK2 W16.lt, W16.reads0, Calls.use (norm30 (inS16.re.chg k17) (inD16.chg k17) hl1 hl2) ?_⟩⟩
  rintro _ w18 ⟨q37, l37, c37, q38, c38, rfl, hl37, S18, D18, k18⟩
  have k1718 := k17.trans k18
  refine ⟨_, _, _, _, _, _, rfl, k1718.keeps, Calls.use (same16 S18.re D18.o.re (wS16.re.chg k1718) (wO16.chg k1718) (by omega) (by omega)) ?_⟩
  rintro _ w19 ⟨rfl, k19⟩
  exact ⟨_, rfl, rfl, k016.trans (k1718.trans k19)⟩
end Go.Proofs.YtdlbmmodlkmofaaDoor
