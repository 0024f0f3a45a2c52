import Derived.Test.YtibpbbjlecohiaaLdI
set_option maxRecDepth 20000
namespace Go.Proofs.Ytibpbbjlecohiaa
namespace Full
open Go Go.Vc Go.RowKit
theorem does12 {w : World} {q : Option Addr} {l c : Nat} {ops : List OpV} (a1 a2 a3 a4 : Int) (h : RE En.op w q l ops) (hl : l ≤ 4398046511104) :
    Calls Try.prog 12 #[.agg #[.int .i64 a1, .int .i64 a2, .int .i64 a3, .int .i64 a4, .slice q l c]] w (Ret fun v w' => v = .bool true ∧ Chg none_ w w') := by
  refine f12.calls _ _ _ _ _ _ _ ?_
  unfold f12.wp
  have hlen := h.len
  refine newBox fun w1 B1 k1 _ => ⟨_, _, _, _, (B1.reads (o := 0) (vs := [.int .i64 a1, .int .i64 a2, .int .i64 a3, .int .i64 a4]) fun j v hj => ?_), Calls.use (begin31 w1 a1 a2 a3 a4) ?_⟩
  · rcases j with _ | _ | _ | _ | j
    · exact hj
    · exact hj
    · exact hj
    · exact hj
    · simp at hj
  rintro _ w2 (⟨rfl, k2⟩ | ⟨bl, br, o1, o2, g, s, gr, r, rfl, hB2, k2⟩)
  · exact ⟨_, _, _, rfl, bcF rfl ⟨ptrOk_none _ _, bcT rfl ⟨rfl, k1.trans k2⟩⟩⟩
  have B2 := k2.blk B1 (fun x => x)
  refine ⟨_, _, _, rfl, bcF rfl ⟨ptrOk_none _ _, bcF rfl ⟨_, _, _, (B2.cell0 4).trans rfl,
    fun x w' => ∃ i : Nat, x = (i : Int) ∧ i ≤ l ∧ ∃ g s gr r, Bo w1 w' bl br (2 * i) i o1 o2 g s gr r ∧ Chg none_ w1 w', fun x _ => l - x.toNat,
    ⟨0, rfl, Nat.zero_le _, g, s, gr, r, hB2, k2⟩, ?_⟩⟩⟩
  clear hB2 B2 g s gr r k2 w2
  rintro _ w3 ⟨i, rfl, hi, g, s, gr, r, hB, k13⟩
  refine bc (fun hlt => ?_) fun hge => ⟨rfl, k1.trans k13⟩
  have hi' : i < l := by simpa using hlt
  obtain ⟨a, op, rfl, hop, hr⟩ := ((h.chg k1).chg k13).ex hi'
  rw [wrapS (x := (i : Int) + 1) (by omega) (by omega)]
  refine onPtr_mk ⟨by omega, by omega, _, _, _, _, hr, boxed rfl rfl fun w5 B5 k5 s5 => ?_⟩
  have k5d : Chg none_ w3 w5.drew := k5.drew
  have hB5 := hB.chgN k5d
  obtain ⟨ht, hS7⟩ := must_sim hB.S op.task op.kind op.n op.m
  have hkm := mustR_keep r op.task op.kind op.n op.m
  refine ⟨fun p => p.block = w3.heap.size, _, _, _, _, (fun j _ => add_block _ _), B5.drew.reads0, _, _, _, _, (fun j _ => add_block _ _), B5.drew.reads0, Calls.use (does20 hB5.G (by omega) (by omega) op.task op.kind op.n op.m) ?_⟩
  rintro _ w6 ⟨q6, l6, c6, rfl, hMn6, hnew6, g6, G6, st6, hno6⟩
  have R6 : InvR w6 br i o2 gr r := hB5.R.chg st6.chg hB5.A
  have hd := must33 R6 hB.S.condM (by omega) op.task op.kind op.n op.m
  rw [ht] at hd
  generalize (doesF s op.task op.kind op.n op.m).1 = tl at *
  generalize (doesF s op.task op.kind op.n op.m).2 = s' at *
  generalize (mustR r op.task op.kind op.n op.m).2 = r' at *
  have nG : ∀ b, w3.heap.size ≤ b → ¬ Own g o1 b := fun b hb ho => by have := (hB.G.own_lt ho).1; omega
  have nB : ∀ b, w3.heap.size ≤ b → ¬ OwnR gr o2 b := fun b hb ho => by have := (hB.R.own_lt ho).1; omega
  have B6 := st6.chg.blk B5.drew (nG _ (Nat.le_refl _))
  have ke6 : Keeps (fun p => p.block = w3.heap.size) w5.drew w6 := fun p hp => st6.chg.cell (by rw [hp]; exact B5.drew.lt) (by rw [hp]; exact nG _ (Nat.le_refl _))
  refine ⟨_, _, _, _, _, _, rfl, ke6, Calls.use hd ?_⟩
  rintro _ w7 ⟨q7, l7, c7, rfl, hRE7, hnew7, gr7, R7, stR7, hno7⟩
  have ke7 : Keeps (fun p => p.block = w3.heap.size) w5.drew w7 := fun p hp => (stR7.chg.cell (by rw [hp]; exact B6.lt) (by rw [hp]; exact nB _ (Nat.le_refl _))).trans (ke6 p hp)
  have M7 : Mn w7 q6 l6 tl.woken := hMn6.chgS stR7.chg fun x hx => nB _ (by have h1 := (hnew6 x.block (by rw [hx]; rfl)).1; have h2 := k5d.size; omega)
  have hm6 : l6 ≤ 9223372036854775807 := by obtain ⟨b, c', A⟩ := hMn6.ex; exact SE.mx A
  obtain ⟨hB7, k17⟩ := hB5.both st6 G6 stR7 R7 hS7 hkm (k13.trans k5d)
  refine ⟨_, _, _, _, _, _, rfl, ke7, Calls.use (told32 tl M7.re hRE7 hm6) ?_⟩
  rintro _ w8 ⟨rfl, k8⟩
  have B7 := stR7.chg.blk B6 (nB _ (Nat.le_refl _))
  have ke8 : Keeps (fun p => p.block = w3.heap.size) w5.drew w8 := fun p hp => (k8.cell (by rw [hp]; exact B7.lt) (fun x => x)).trans (ke7 p hp)
  refine ⟨_, rfl, ke8, bcF rfl ⟨_, _, _, _, (fun j _ => add_block _ _), B5.drew.reads0, Calls.use (asks41 (hB7.chgN k8) (by omega) op.task op.kind op.n op.m) ?_⟩⟩
  rintro _ w9 ⟨rfl, k9⟩
  exact ⟨_, rfl, bcF rfl ⟨⟨i + 1, by omega, hi', g6, s', gr7, r', (hB7.chgN k8).chgN k9, k17.trans (k8.trans k9)⟩, meas hi'⟩⟩
end Full
end Go.Proofs.Ytibpbbjlecohiaa
