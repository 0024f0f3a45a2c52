import Derived.Test.YtnloecggngmcjaaEvS
set_option maxRecDepth 20000
namespace Go.Proofs.Ytnloecggngmcjaa
open Go Go.Vc Go.RowKit Go.Vc.Ring
section
variable {base : Nat} {r : Rs} {w : World}
theorem Sl.lower {w : World} {base base' l c : Nat} {e : TypeId} {q : Option Addr} {xs : List Value} (h : Sl w base e q l c xs) (hb : base' ≤ base) : Sl w base' e q l c xs :=
  ⟨h.1, h.2.imp id fun ⟨g, off, cur, hq, hg, r⟩ => ⟨g, off, cur, hq, Nat.le_trans hb hg, r⟩⟩
theorem RInv.lower {base' : Nat} (h : RInv base r w) (hb : base' ≤ base) : RInv base' r w := ⟨h.hb, Sl.lower h.s1 hb, Sl.lower h.s2 hb, Nat.le_trans hb h.ge, h.few, h.num⟩
theorem rfork24 (h : RInv base r w) : Calls Try.prog 24 #[.pointer (some (ad r.rb))] w (Ret fun u w' => ∃ r', u = .pointer (some (ad r'.rb)) ∧ RInv w.heap.size r' w' ∧ r'.line = r.line ∧ r'.k = r.k ∧ r'.n = r.n ∧ r'.kp = r.kp ∧ Chg none_ w w') := by
  have ln1 := h.s1.1
  have ln2 := h.s2.1
  have hfew := h.few
  simp only [List.length_map] at ln1 ln2
  refine f24.calls _ ?_
  unfold f24.wp
  refine onPtr_mk ⟨_, _, _, _, _, _, _, _, _, h.hb.reads0 (vs := [.int .i64 r.k, .int .i64 r.n, .int .i64 r.kp, .slice r.q1 r.n1 r.c1, .slice r.q2 r.n2 r.c2]), fun w1 e1 => ?_⟩
  have N1 := new_blk e1
  have k1 := (Chg.refl none_ w).new' e1
  clear e1
  generalize hx : w.heap.size = x at *
  refine ⟨N1.canStore (by simp), fun w2 e2 => ?_⟩
  have N2 := N1.over e2 rfl
  have k2 : Chg none_ w w2 := own_at k1 ((Chg.refl (fun k => k = x) w1).sets' e2 (.inl rfl)) (fun k hk => by omega)
  clear e2 N1 k1
  intro w3 e3
  have k3 := k2.new' e3
  have N3 := N2.new' e3
  have d3 : Sl w3 x 3 (some ⟨w2.heap.size, 0, none⟩) 0 0 [] := ⟨rfl, .inr ⟨w2.heap.size, 0, #[], rfl, hx ▸ k2.size, new_blk e3, Nat.le_refl _, Nat.zero_le _, by simp, by simp⟩⟩
  have I3 := h.chg k3 (fun _ _ hf => hf)
  refine onPtr_mk ⟨_, _, _, (I3.hb.cell0 3).trans rfl, ?_⟩
  obtain ⟨q4, c4, w4, hr4, t4, x4, a4⟩ := d3.append (P := Try.prog) (t := 36) (ty := 36) (z := .int .i64 0) (bytes := 8) Try.underlying36 (by kernel_rfl) rfl I3.s1.rd (fun u hu => by obtain ⟨y, _, rfl⟩ := List.mem_map.1 hu; rfl) (by simp only [maxLen]; omega) (by omega) (hx ▸ k3.size) (c2 := r.c1)
  rw [Nat.zero_add, List.nil_append] at t4
  refine ⟨q4, _, c4, w4, hr4, ?_⟩
  have k4 : Chg none_ w w4 := own_at k3 x4 (fun k hk => by have := k2.size; simp [qBlock] at hk; omega)
  have N4 := x4.blk N3 (fun hc => by have := N2.lt; simp [qBlock] at hc; omega)
  clear hr4 x4 a4 d3 e3 N3
  refine ⟨N4.canStore0 (by simp), fun w5 e5 => ?_⟩
  have e5' := e5
  rw [add_mk, Nat.zero_add] at e5'
  have N5 := N4.sets' e5'
  have x5 : Chg (fun k => k = x) w4 w5 := (Chg.refl _ w4).sets' e5 (.inl (by rw [add_block]))
  have t5 := t4.chg x5 (nb1 t4 N4 (by decide))
  have k5 : Chg none_ w w5 := own_at k4 x5 (fun k hk => by omega)
  simp only [putC] at N5
  intro w6 e6
  have k6 := k5.new' e6
  have N6 := N5.new' e6
  have t6 := t5.chg ((Chg.refl none_ w5).new' e6) (fun _ _ hf => hf)
  have d6 : Sl w6 x 4 (some ⟨w5.heap.size, 0, none⟩) 0 0 [] := ⟨rfl, .inr ⟨w5.heap.size, 0, #[], rfl, hx ▸ k5.size, new_blk e6, Nat.le_refl _, Nat.zero_le _, by simp, by simp⟩⟩
  have I6 := h.chg k6 (fun _ _ hf => hf)
  refine onPtr_mk ⟨_, _, _, (I6.hb.cell0 4).trans rfl, ?_⟩
  obtain ⟨q7, c7, w7, hr7, t7, x7, a7⟩ := d6.append (P := Try.prog) (t := 62) (ty := 62) (z := .bool false) (bytes := 1) Try.underlying62 (by kernel_rfl) rfl I6.s2.rd (fun u hu => by obtain ⟨y, _, rfl⟩ := List.mem_map.1 hu; rfl) (by simp only [maxLen]; omega) (by omega) (hx ▸ k6.size) (c2 := r.c2)
  rw [Nat.zero_add, List.nil_append] at t7
  refine ⟨q7, _, c7, w7, hr7, ?_⟩
  have k7 : Chg none_ w w7 := own_at k6 x7 (fun k hk => by have := k5.size; simp [qBlock] at hk; omega)
  have N7 := x7.blk N6 (fun hc => by have := N5.lt; simp [qBlock] at hc; omega)
  have t7' := t6.chg x7 (fun g hg hc => nb2 d6 t6 (by decide) g hc.symm hg)
  clear hr7 x7 a7 d6 e6 N6
  refine ⟨N7.canStore0 (by simp), fun w8 e8 => ?_⟩
  have e8' := e8
  rw [add_mk, Nat.zero_add] at e8'
  have N8 := N7.sets' e8'
  have x8 : Chg (fun k => k = x) w7 w8 := (Chg.refl _ w7).sets' e8 (.inl (by rw [add_block]))
  have s8 := t7'.chg x8 (nb1 t7' N7 (by decide))
  have u8 := t7.chg x8 (nb1 t7 N7 (by decide))
  simp only [putC] at N8
  rw [Nat.zero_add] at N8
  refine ⟨⟨x, r.k, r.n, r.kp, q4, r.n1, c4, q7, r.n2, c7, r.line⟩, rfl, ⟨?_, s8, u8, Nat.le_refl _, h.few, h.num⟩, rfl, rfl, rfl, rfl, own_at k7 x8 (fun k hk => by omega)⟩
  simpa using N8
end
end Go.Proofs.Ytnloecggngmcjaa
