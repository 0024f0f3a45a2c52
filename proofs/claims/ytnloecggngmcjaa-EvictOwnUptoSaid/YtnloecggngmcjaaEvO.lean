import Derived.Test.YtnloecggngmcjaaEvN
set_option maxRecDepth 20000
namespace Go.Proofs.Ytnloecggngmcjaa
open Go Go.Vc Go.RowKit Go.Vc.Ring
section
variable {base : Nat} {r : Rs} {w : World}
theorem sl_at {base' l c : Nat} {e : TypeId} {q : Option Addr} {xs : List Value} (s : Sl w base' e q l c xs) {S : Nat → Prop} {w' : World} (k : Chg S w w') (hS : ∀ g, qBlock q = some g → ¬ S g) : Rd w' q l xs := (s.chg k hS).rd
theorem own_at {S : Nat → Prop} {w w' w'' : World} (a : Chg none_ w w') (b : Chg S w' w'') (h : ∀ k, S k → w.heap.size ≤ k) : Chg none_ w w'' := a.trans' b (fun k hk => .inr (h k hk))
/-- a slice with one of its places left out, as a new one: append(append([]T{}, s[:i]...), s[i+1:]...) -/
theorem less {t ty e : TypeId} {z : Value} {bytes : Nat} {q : Option Addr} {l c : Nat} {xs ys : List Value} {x : Value} (s : Sl w base e q l c (xs ++ x :: ys)) (ht : Try.prog.underlying t = some (.slice e)) (hi : (Try.prog.info? e).map (fun j => (j.size, j.zero, j.bytes)) = some (1, some z, bytes)) (hz : z.cells.size = 1)
    (hone : ∀ u ∈ xs ++ x :: ys, u.oneCell' = true) (hl : l ≤ 256) (hby : bytes ≤ 64) (hbase : base ≤ w.heap.size) {w1 : World} (e1 : w1 = w.alloc (.cells #[] e)) :
    ∃ q4 l4 c4 w2, (Builtin.append_ #[t, t] ty #[.slice (some ⟨w.heap.size, 0, none⟩) 0 0, .slice q xs.length c]).run Try.prog w1 = .ok (.slice q4 l4 c4) w2 ∧ Chg none_ w w2 ∧
      ∃ q5 c5 w3, (Builtin.append_ #[t, t] ty #[.slice q4 l4 c4, .slice (cutP q c (xs.length + 1) 1) (l - (xs.length + 1)) (c - (xs.length + 1))]).run Try.prog w2 = .ok (.slice q5 (l - 1) c5) w3 ∧ Chg none_ w w3 ∧ Sl w3 base e q5 (l - 1) c5 (xs ++ ys) ∧
        ∀ g, qBlock q5 = some g → w.heap.size ≤ g := by
  have hln := s.1
  simp at hln
  have k1 := (Chg.refl none_ w).new' e1
  have s1 := s.chg k1 (fun _ _ hf => hf)
  have d1 : Sl w1 base e (some ⟨w.heap.size, 0, none⟩) 0 0 [] := ⟨rfl, .inr ⟨w.heap.size, 0, #[], rfl, hbase, new_blk e1, Nat.le_refl _, Nat.zero_le _, by simp, by simp⟩⟩
  have hm : ∀ k : Nat, k ≤ 256 → k * bytes ≤ 140737488355328 := fun k hk => by
    have := Nat.mul_le_mul hk hby
    omega
  obtain ⟨q4, c4, w2, hr4, t4, k4, at4⟩ := d1.append (t := t) (ty := ty) ht hi hz (s1.rd.take (k := xs.length) (by omega)) (fun u hu => hone u (List.mem_of_mem_take hu)) (by simp only [maxLen]; omega) (hm _ (by omega)) (Nat.le_trans hbase k1.size) (c2 := c)
  rw [List.nil_append, List.take_left, Nat.zero_add] at t4
  rw [Nat.zero_add] at hr4
  have c4' : Chg none_ w w2 := own_at k1 k4 (fun k hk => by simp [qBlock] at hk; omega)
  have b4 : ∀ g, qBlock q4 = some g → w.heap.size ≤ g := fun g hg => by
    rcases at4 with h1 | h1
    · rw [h1] at hg; simp [qBlock] at hg; omega
    · rw [h1] at hg; have := k1.size; simp at hg; omega
  refine ⟨q4, _, c4, w2, hr4, c4', ?_⟩
  have s2 := s.chg c4' (fun _ _ hf => hf)
  have cut := s2.cut (n := xs.length + 1) (by omega)
  rw [show (xs ++ x :: ys).drop (xs.length + 1) = ys by rw [show xs ++ x :: ys = (xs ++ [x]) ++ ys by simp, show xs.length + 1 = (xs ++ [x]).length by simp, List.drop_left]] at cut
  obtain ⟨q5, c5, w3, hr5, t5, k5, at5⟩ := t4.append (t := t) (ty := ty) ht hi hz cut.rd (fun u hu => hone u (by simp [hu])) (by simp only [maxLen]; omega) (hm _ (by omega)) (Nat.le_trans hbase c4'.size) (c2 := c - (xs.length + 1))
  have e5 : xs.length + (l - (xs.length + 1)) = l - 1 := by omega
  rw [e5] at hr5 t5
  refine ⟨q5, c5, w3, hr5, own_at c4' k5 (fun k hk => b4 k hk.symm), t5, fun g hg => ?_⟩
  rcases at5 with h1 | h1
  · rw [h1] at hg; exact b4 g hg
  · rw [h1] at hg; have := c4'.size; simp at hg; omega
theorem take38 (h : RInv base r w) {a b : Ln} {e : Int × Bool} (hl : r.line = a ++ e :: b) : Calls Try.prog 38 #[.pointer (some (ad r.rb)), .int .i64 (a.length : Int)] w (Ret fun u w' => u = .bool e.2 ∧ ∃ r', RStep base r w r' w' ∧ r'.line = a ++ b) := by
  have ln1 := h.s1.1
  have ln2 := h.s2.1
  have hfew := h.few
  have hlow := h.low
  simp only [List.length_map] at ln1 ln2
  have hll : r.line.length = a.length + b.length + 1 := by rw [hl]; simp; omega
  refine f38.calls _ _ ?_
  unfold f38.wp
  obtain ⟨p2, hp2, hc2⟩ := h.s2.cell (i := a.length) (x := bv e.2) (by rw [hl]; simp)
  simp only [Int.toNat_natCast]
  rw [wrap1 (by omega) (by omega), show ((a.length : Int) + 1) = ((a.length + 1 : Nat) : Int) by omega]
  simp only [Int.toNat_natCast]
  refine onPtr_mk ⟨_, _, _, (h.hb.cell0 4).trans rfl, ?_⟩
  have g1 := h.s1
  have g2 := h.s2
  have hb0 := h.hb
  have nb : ∀ k, r.own k → k < w.heap.size := fun k hk => (h.lt hk).1
  have e1s : (r.line.map fun e => iv e.1) = (a.map fun e => iv e.1) ++ iv e.1 :: (b.map fun e => iv e.1) := by rw [hl]; simp
  have e2s : (r.line.map fun e => bv e.2) = (a.map fun e => bv e.2) ++ bv e.2 :: (b.map fun e => bv e.2) := by rw [hl]; simp
  have lc1 : r.n1 ≤ r.c1 := by
    rcases g1.2 with ⟨_, h1, h2⟩ | ⟨_, _, _, _, _, _, h1, _⟩ <;> omega
  have lc2 : r.n2 ≤ r.c2 := by
    rcases g2.2 with ⟨_, h1, h2⟩ | ⟨_, _, _, _, _, _, h1, _⟩ <;> omega
  rw [hp2]
  refine onPtr_mk ⟨by omega, by omega, _, hc2, fun q => q.block < w.drew.heap.size, onPtr_mk ⟨_, _, _, hb0.keepsAll (w' := w.drew) rfl 0 4 3 (by omega), (hb0.drew.cell0 3).trans rfl, by omega, by omega, onPtr_mk ⟨_, _, _, hb0.keepsAll (w' := w.drew) rfl 0 4 3 (by omega), (hb0.drew.cell0 3).trans rfl, by omega, by omega, fun w1 e1 => ⟨((Chg.refl none_ w.drew).new' e1).keeps, ?_⟩⟩⟩⟩
  rw [e1s] at g1
  have g1d : Sl w.drew base 3 r.q1 r.n1 r.c1 _ := g1.chg (Chg.refl none_ w).drew (fun _ _ hf => hf)
  obtain ⟨q4, l4, c4, w2, hr2, k2, q5, c5, w3, hr3, k3, t3, b3⟩ := less (t := 36) (ty := 36) (z := .int .i64 0) (bytes := 8) g1d Try.underlying36 (by kernel_rfl) rfl (fun u hu => by rw [← e1s] at hu; obtain ⟨y, _, rfl⟩ := List.mem_map.1 hu; rfl) (by omega) (by omega) hlow e1
  simp only [List.length_map] at hr2 hr3
  refine ⟨q4, l4, c4, w2, hr2, k2.keeps, q5, _, c5, w3, hr3, k3.keeps, ?_⟩
  clear hr2 hr3 e1 k2
  have kw3 : Chg none_ w w3 := (Chg.refl none_ w).drew.trans k3
  have B3 := kw3.blk hb0 (fun x => x)
  have G3 := g2.chg kw3 (fun _ _ hf => hf)
  refine onPtr_mk ⟨B3.canStore0 (by simp), fun w4 e4 => ?_⟩
  have e4' := e4
  rw [add_mk, Nat.zero_add] at e4'
  have B4 := B3.sets' e4'
  simp only [putC, refA] at B4
  have x4 : Chg (fun k => k = r.rb) w3 w4 := (Chg.refl _ w3).sets' e4 (.inl (by rw [add_block]))
  have t4 := t3.chg x4 (nb1 t3 B3 (by decide))
  have G4 := G3.chg x4 (nb1 G3 B3 (by decide))
  have k4 : Chg r.own w w4 := (kw3.mono (fun _ _ hf => hf.elim)).trans' x4 (fun i hi => .inl (.inl hi))
  have hb4 : base ≤ w4.heap.size := Nat.le_trans hlow k4.size
  refine ⟨fun q => q.block < w4.drew.heap.size, onPtr_mk ⟨_, _, _, B4.keepsAll (w' := w4.drew) rfl 0 5 4 (by omega), (B4.drew.cell0 4).trans rfl, by omega, by omega, onPtr_mk ⟨_, _, _, B4.keepsAll (w' := w4.drew) rfl 0 5 4 (by omega), (B4.drew.cell0 4).trans rfl, by omega, by omega, fun w5 e5 => ⟨((Chg.refl none_ w4.drew).new' e5).keeps, ?_⟩⟩⟩⟩
  rw [e2s] at G4
  have G4d : Sl w4.drew base 4 r.q2 r.n2 r.c2 _ := G4.chg (Chg.refl none_ w4).drew (fun _ _ hf => hf)
  obtain ⟨q8, l8, c8, w6, hr6, k6, q9, c9, w7, hr7, k7, t7, b7⟩ := less (t := 62) (ty := 62) (z := .bool false) (bytes := 1) G4d Try.underlying62 (by kernel_rfl) rfl (fun u hu => by rw [← e2s] at hu; obtain ⟨y, _, rfl⟩ := List.mem_map.1 hu; rfl) (by omega) (by omega) hb4 e5
  simp only [List.length_map] at hr6 hr7
  refine ⟨q8, l8, c8, w6, hr6, k6.keeps, q9, _, c9, w7, hr7, k7.keeps, ?_⟩
  clear hr6 hr7 e5 k6
  have kw7 : Chg none_ w4 w7 := (Chg.refl none_ w4).drew.trans k7
  have B7 := kw7.blk B4 (fun x => x)
  have t7' := t4.chg kw7 (fun _ _ hf => hf)
  refine onPtr_mk ⟨B7.canStore0 (by simp), fun w8 e8 => ?_⟩
  have e8' := e8
  rw [add_mk, Nat.zero_add] at e8'
  have B8 := B7.sets' e8'
  simp only [putC] at B8
  have x8 : Chg (fun k => k = r.rb) w7 w8 := (Chg.refl _ w7).sets' e8 (.inl (by rw [add_block]))
  have k8 : Chg r.own w w8 := (k4.trans' kw7 (fun i hi => hi.elim)).trans' x8 (fun i hi => .inl (.inl hi))
  refine ⟨rfl, { r with q1 := q5, n1 := r.n1 - 1, c1 := c5, q2 := q9, n2 := r.n2 - 1, c2 := c9, line := a ++ b }, ⟨⟨B8, ?_, ?_, h.ge, by simp; omega, h.num⟩, rfl, rfl, rfl, rfl, k8, ?_⟩, rfl⟩
  · simpa using t7'.chg x8 (nb1 t7' B7 (by decide))
  · simpa using t7.chg x8 (nb1 t7 B7 (by decide))
  · rintro i (hi | hi | hi)
    · exact .inl (.inl hi)
    · exact .inr (b3 i hi)
    · exact .inr (Nat.le_trans k4.size (b7 i hi))
theorem at36 (h : RInv base r w) (z : Int) : Calls Try.prog 36 #[.pointer (some (ad r.rb)), .int .i64 z] w (Ret fun u w' => w = w' ∧ ((has r.line z = false ∧ u = .int .i64 (-1)) ∨ ∃ a m b, r.line = a ++ (z, m) :: b ∧ (∀ e ∈ a, e.1 ≠ z) ∧ u = .int .i64 (a.length : Int))) := by
  have ln1 := h.s1.1
  have hfew := h.few
  simp only [List.length_map] at ln1
  refine f36.calls _ _ ?_
  unfold f36.wp
  refine onPtr_mk ⟨_, _, _, (h.hb.cell0 3).trans rfl, fun x w1 => ∃ a b, x = (List.length a : Int) ∧ r.line = a ++ b ∧ (∀ e ∈ a, e.1 ≠ z) ∧ w = w1, fun x _ => r.n1 - x.toNat, ⟨[], r.line, rfl, rfl, by simp, rfl⟩, ?_⟩
  rintro x _ ⟨a, b, rfl, hl, ha, rfl⟩
  refine bc (fun hlt => ?_) (fun hge => ?_)
  · have hlt' : a.length < r.n1 := by simpa using hlt
    cases b with
    | nil => rw [hl] at ln1; simp at ln1; omega
    | cons e b =>
      obtain ⟨p1, hp1, hc1⟩ := h.s1.cell (i := a.length) (x := iv e.1) (by rw [hl]; simp)
      simp only [Int.toNat_natCast]
      rw [hp1]
      refine onPtr_mk ⟨by omega, by omega, _, hc1, bc (fun he => ?_) (fun he => ?_)⟩
      · have he' : e.1 = z := by simpa using he
        exact ⟨by trivial, .inr ⟨a, e.2, b, by rw [hl, ← he'], ha, rfl⟩⟩
      · have he' : e.1 ≠ z := by simpa using he
        rw [wrap1 (by omega) (by omega)]
        refine ⟨⟨a ++ [e], b, by simp, by rw [hl]; simp, fun y hy => ?_, by trivial⟩, by omega⟩
        simp at hy
        rcases hy with hy | rfl
        · exact ha y hy
        · exact he'
  · have hge' : ¬ a.length < r.n1 := by simpa using hge
    have hb : b = [] := by
      apply List.eq_nil_of_length_eq_zero
      rw [hl] at ln1; simp at ln1; omega
    subst hb
    refine ⟨rfl, .inl ⟨?_, rfl⟩⟩
    simp only [Ytnloecggngmcjaa.has, List.any_eq_false, beq_iff_eq]
    rw [hl]
    simpa using fun e m he => ha (e, m) he
end
end Go.Proofs.Ytnloecggngmcjaa
