import Derived.Test.YtnloecggngmcjaaEvP
set_option maxRecDepth 20000
namespace Go.Proofs.Ytnloecggngmcjaa
open Go Go.Vc Go.RowKit Go.Vc.Ring
def keepB (kp z : Int) : Bool := decide (kp > 0) && decide (IntKind.wrap .i64 z ≥ kp)
section
variable {base : Nat} {r : Rs} {w : World}
theorem rkeep35 (h : RInv base r w) (z : Int) : Calls Try.prog 35 #[.pointer (some (ad r.rb)), .int .u8 z] w (Ret fun u w' => u = .bool (keepB r.kp z) ∧ w = w') := by
  refine f35.calls _ _ ?_
  unfold f35.wp
  refine onPtr_mk ⟨_, (h.hb.cell0 2).trans rfl, bc (fun h1 => onPtr_mk ⟨_, (h.hb.cell0 2).trans rfl, ?_⟩) (fun h1 => ?_)⟩ <;> simp_all [keepB] <;> (intro _; omega)
theorem rline21 (h : RInv base r w) : Calls Try.prog 21 #[.pointer (some (ad r.rb))] w (Ret fun u w' => (∃ q c, u = .slice q r.line.length c ∧ Ints w' q r.line.length (r.line.map (·.1))) ∧ Chg none_ w w') := by
  have ln1 := h.s1.1
  have hfew := h.few
  simp only [List.length_map] at ln1
  refine f21.calls _ ?_
  unfold f21.wp
  intro w1 e1
  have k1 := (Chg.refl none_ w).new' e1
  have I1 := h.chg k1 (fun _ _ hf => hf)
  have d1 : Sl w1 base 3 (some ⟨w.heap.size, 0, none⟩) 0 0 [] := ⟨rfl, .inr ⟨w.heap.size, 0, #[], rfl, h.low, new_blk e1, Nat.le_refl _, Nat.zero_le _, by simp, by simp⟩⟩
  refine onPtr_mk ⟨_, _, _, (I1.hb.cell0 3).trans rfl, ?_⟩
  obtain ⟨q, c, w2, hr, t2, k2, _⟩ := d1.append (P := Try.prog) (t := 36) (ty := 36) (z := .int .i64 0) (bytes := 8) Try.underlying36 (by kernel_rfl) rfl I1.s1.rd (fun u hu => by obtain ⟨y, _, rfl⟩ := List.mem_map.1 hu; rfl) (by simp only [maxLen]; omega) (by omega) I1.low (c2 := r.c1)
  refine ⟨q, _, c, w2, hr, ?_⟩
  rw [Nat.zero_add, List.nil_append] at t2
  rw [Nat.zero_add, ← ln1]
  rw [← ln1] at t2
  refine ⟨⟨q, c, rfl, Ints.sl (xs := r.line.map (·.1)) (by simpa [Function.comp_def] using t2)⟩, own_at k1 k2 (fun k hk => by simp [qBlock] at hk; omega)⟩
theorem rmarks22 (h : RInv base r w) (nd : (r.line.map (·.1)).Nodup) : Calls Try.prog 22 #[.pointer (some (ad r.rb))] w (Ret fun u w' => (∃ q c, u = .slice q (marksTo r.line r.n.toNat).length c ∧ Ints w' q (marksTo r.line r.n.toNat).length (marksTo r.line r.n.toNat)) ∧ Chg none_ w w') := by
  have hn := h.num
  have ln2 := h.s2.1
  simp only [List.length_map] at ln2
  refine f22.calls _ ?_
  unfold f22.wp
  refine ⟨fun q l c x w1 => ∃ i : Nat, x = i ∧ i ≤ r.n.toNat ∧ Sl w1 w.heap.size 3 q l c ((marksTo r.line i).map iv) ∧ Chg none_ w w1, fun _ _ _ x _ => r.n.toNat - x.toNat, ⟨0, rfl, Nat.zero_le _, Sl.nil _ _ _, Chg.refl _ _⟩, ?_⟩
  rintro q l c x w1 ⟨i, rfl, hi, s, k⟩
  have hI := h.chg k (fun _ _ hf => hf)
  have hM : r.n.toNat - ((i : Int) + 1).toNat < r.n.toNat - (i : Int).toNat ↔ i < r.n.toNat := by omega
  refine onPtr_mk ⟨_, (hI.hb.cell0 1).trans rfl, bc (fun hlt => ?_) (fun hge => ?_)⟩
  · have hi' : i < r.n.toNat := by simp at hlt; omega
    rw [wrap1 (by omega) (by omega)]
    have same : isM r.line i = false → ∃ j : Nat, ((i : Int) + 1) = j ∧ j ≤ r.n.toNat ∧ Sl w1 w.heap.size 3 q l c ((marksTo r.line j).map iv) ∧ Chg none_ w w1 := fun hf => ⟨i + 1, by omega, hi', by rw [marksTo_succ, hf]; exact s, k⟩
    refine Calls.use (at36 hI i) ?_
    rintro _ _ ⟨rfl, (⟨hh, rfl⟩ | ⟨a, m, b, hl, _, rfl⟩)⟩
    · exact ⟨_, rfl, bcF (by simp) ⟨same (isM_has hh), hM.2 hi'⟩⟩
    · have hm := (pure_split hl nd).2.2.2
      have hal : a.length < r.n2 := by rw [← ln2, hl]; simp
      obtain ⟨p, hp, hc⟩ := hI.s2.cell (i := a.length) (x := bv m) (by rw [hl]; simp)
      refine ⟨_, rfl, bcT (by simp) (onPtr_mk ⟨_, _, _, (hI.hb.cell0 4).trans rfl, ?_⟩)⟩
      rw [hp]
      refine onPtr_mk ⟨by omega, by omega, _, hc, bc (fun hmt => ?_) (fun hmf => ⟨same (by rw [hm, hmf]), hM.2 hi'⟩)⟩
      intro w3 e3
      have k3 := k.new' e3
      have s3 := s.chg ((Chg.refl none_ w1).new' e3) (fun _ _ hf => hf)
      have hl1 := s.1
      have hl2 := marksTo_len r.line i
      simp only [List.length_map] at hl1
      obtain ⟨q', c', w4, hr, s4, k4, _⟩ := s3.append1 (P := Try.prog) (t := 36) (ty := 36) (z := .int .i64 0) (bytes := 8) Try.underlying36 (by kernel_rfl) rfl (new_blk e3) rfl (by simp only [maxLen]; omega) (by omega) k3.size
      refine ⟨q', _, c', w4, hr, ⟨i + 1, by omega, hi', ?_, own_at k3 k4 (fun g hg => (s3.lt hg.symm).2)⟩, hM.2 hi'⟩
      have e5 : marksTo r.line (i + 1) = marksTo r.line i ++ [(i : Int)] := by rw [marksTo_succ, hm, hmt]; rfl
      rw [e5]
      simpa using s4
  · have hi' : i = r.n.toNat := by simp at hge; omega
    subst hi'
    have hl1 := s.1
    simp only [List.length_map] at hl1
    subst hl1
    exact ⟨⟨q, c, rfl, Ints.sl s⟩, k⟩
end
theorem Good.keeps {W : World} {B : Nat} {v : Vi} {w : World} (G : Good W B v w) (z : Int) : Calls Try.prog 25 #[.pointer (some (ad B)), .int .u8 z] w (Ret fun u w' => u = .bool (keepB v.keep z) ∧ w = w') := by
  have e := G.B
  subst e
  refine f25.calls _ _ ?_
  unfold f25.wp
  refine Calls.use (made27 G.inv.hv) ?_
  rintro _ _ ⟨rfl, rfl⟩
  refine ⟨_, rfl, bcT rfl (onPtr_mk ⟨_, (G.inv.hv.cell0 1).trans rfl, bc (fun h1 => onPtr_mk ⟨_, (G.inv.hv.cell0 1).trans rfl, ?_⟩) (fun h1 => ?_)⟩)⟩ <;> simp_all [keepB] <;> (intro _; omega)
/-! # both -/
structure Both (W : World) (B rb : Nat) (v : Vi) (r : Rs) (w : World) : Prop where
  G : Good W B v w
  R : RInv W.heap.size r w
  rb : r.rb = rb
  kind : v.kind = r.k
  keep : v.keep = r.kp
  n : v.n = r.n.toNat
  line : r.line = v.line
section
variable {W : World} {B rb : Nat} {v : Vi} {r : Rs} {w : World}
theorem sepB {base : Nat} (h : Inv v w) (R : RInv base r w) : ∀ k, r.own k → ¬ v.own k := fun k hk => by
  rcases hk with rfl | hk | hk
  · exact h.notOwn R.hb (by decide) (by decide) (by decide)
  · exact h.slOwn R.s1 k hk
  · obtain ⟨cs, hc⟩ := Sl.blk R.s2 hk
    exact h.notOwn hc (by decide) (by decide) (by decide)
theorem Both.nd (h : Both W B rb v r w) : (r.line.map (·.1)).Nodup := by rw [h.line]; exact h.G.inv.regsNodup
theorem Both.next (h : Both W B rb v r w) {w' : World} (c : Chg none_ w w') : Both W B rb v r w' :=
  ⟨h.G.next c, h.R.chg c (fun _ _ hf => hf), h.rb, h.kind, h.keep, h.n, h.line⟩
/-- the same step of both -/
theorem Both.step (h : Both W B rb v r w) {v' : Vi} {r' : Rs} {w1 w2 : World} (g : Good W B v' w1) (s : Step v w v' w1) (t : RStep W.heap.size r w1 r' w2) (hl : r'.line = v'.line) : Both W B rb v' r' w2 := by
  have R1 := h.R.chg s.chg (sepB h.G.inv h.R)
  exact ⟨g.chgS t.chg (fun k hk => ⟨(R1.lt hk).2, sepB g.inv R1 k hk⟩), t.inv, t.rb.trans h.rb, (s.kind.trans h.kind).trans t.k.symm, (s.keep.trans h.keep).trans t.kp.symm, (s.n.trans h.n).trans (by rw [t.n]), hl⟩
theorem Both.after (h : Both W B rb v r w) {v' : Vi} {w1 : World} (s : Step v w v' w1) : RInv W.heap.size r w1 := h.R.chg s.chg (sepB h.G.inv h.R)
structure Moves (v : Vi) (r : Rs) (w : World) (v' : Vi) (r' : Rs) (w' : World) : Prop where
  chg : Chg (fun k => v.own k ∨ r.own k) w w'
  own : ∀ k, v'.own k ∨ r'.own k → (v.own k ∨ r.own k) ∨ w.heap.size ≤ k
  same : r'.k = r.k ∧ r'.n = r.n ∧ r'.kp = r.kp
theorem does20 (h : Both W B rb v r w) (a b : Int) : Calls Try.prog 20 #[.pointer (some (ad B)), .pointer (some (ad rb)), .agg #[.int .i64 a, .int .i64 b]] w (Ret fun u w' => u = .bool true ∧ ∃ v' r', Both W B rb v' r' w' ∧ Moves v r w v' r' w') := by
  have erb := h.rb
  refine f20.calls _ _ _ _ ?_
  unfold f20.wp
  intro w1 e1
  have X1 := new_blk e1
  have c1 := (Chg.refl none_ w).new' e1
  have h1 := h.next c1
  clear e1
  have hbs : v.bs.length ≤ 256 := Nat.le_trans h.G.inv.few h.G.inv.small
  have hll : v.line.length = v.bs.length := by simp [Vi.line]
  have X1d := X1.drew
  have h1d := h1.next (Chg.refl none_ w1).drew
  have c1d : Chg none_ w w1.drew := c1.drew
  have xn : ∀ {u : World} {v0 : Vi}, Inv v0 u → Blk u w.heap.size 30 #[.int .i64 a, .int .i64 b] → ¬ v0.own w.heap.size := fun i x => i.notOwn x (by decide) (by decide) (by decide)
  have keepsK : ∀ {u : World} {v0 v' : Vi} {u' : World}, Inv v0 u → Blk u w.heap.size 30 #[.int .i64 a, .int .i64 b] → Step v0 u v' u' → Keeps (fun q => q.block = w.heap.size) u u' := fun i x s q (hq : q.block = _) => s.chg.cell (by rw [hq]; exact x.lt) (by rw [hq]; exact xn i x)
  have kk : (fun q : Addr => q.block = w.heap.size) ((⟨w.heap.size, 0, none⟩ : Addr).add 1) := by show (Addr.add _ _).block = _; rw [add_block]
  have fin : ∀ {u u' u'' : World} {v' : Vi} {r' : Rs}, Chg none_ w u → Step v u v' u' → RStep W.heap.size r u' r' u'' → Moves v r w v' r' u'' := fun c s t => by
    refine ⟨?_, fun k hk => ?_, t.k, t.n, t.kp⟩
    rotate_left
    · rcases hk with hk | hk
      · rcases s.own k hk with h1 | h1
        · exact .inl (.inl h1)
        · exact .inr (Nat.le_trans c.size h1)
      · rcases t.own k hk with h1 | h1
        · exact .inl (.inr h1)
        · exact .inr (Nat.le_trans (Nat.le_trans c.size s.chg.size) h1)
    have x1 := (c.mono (S' := fun k => v.own k ∨ r.own k) (fun _ _ hf => hf.elim)).trans' s.chg (fun i hi => .inl (.inl hi))
    exact x1.trans' t.chg (fun i hi => .inl (.inr hi))
  refine ⟨_, (X1.cell 0).trans rfl, bc (fun _ => ?_) (fun _ => bc (fun _ => ?_) (fun _ => bc (fun _ => ?_) (fun _ => bc (fun _ => ?_) (fun _ => bc (fun _ => ?_) (fun _ => bc (fun _ => ?_) (fun _ => bc (fun _ => ?_) (fun _ => ?_)))))))⟩
  · refine ⟨fun q => q.block = w.heap.size, _, kk, (X1d.cell0 1).trans rfl, _, kk, (X1d.cell0 1).trans rfl, Calls.use (h1d.G.putIn b) ?_⟩
    rintro _ w2 ⟨rfl, v', G', s', l'⟩
    have R2 := h1d.after s'
    have hf : (sealL r.n.toNat r.line b).2.length ≤ 256 := by
      rw [← h.n, h.line, ← l']
      have h2 := G'.inv.few; have h3 := G'.inv.small
      simp [Vi.line]; omega
    refine ⟨_, rfl, keepsK h1d.G.inv X1d s', ?_⟩
    rw [← erb]
    refine Calls.use (rseal31 R2 b hf) ?_
    rintro _ w3 ⟨rfl, r', t', m'⟩
    exact ⟨_, rfl, by rw [h.line, h.n]; simp, v', r', erb ▸ (h1d.step G' s' t' (by rw [m', l', h.line, h.n])), fin c1d s' t'⟩
  · refine ⟨fun q => q.block = w.heap.size, _, kk, (X1d.cell0 1).trans rfl, _, kk, (X1d.cell0 1).trans rfl, Calls.use (h1d.G.hit b) ?_⟩
    rintro _ w2 ⟨rfl, v', G', s', l'⟩
    have R2 := h1d.after s'
    refine ⟨_, rfl, keepsK h1d.G.inv X1d s', ?_⟩
    rw [← erb]
    refine Calls.use (rhit32 R2 h.nd b) ?_
    rintro _ w3 ⟨rfl, r', t', m'⟩
    exact ⟨_, rfl, by rw [h.line, h.kind]; simp, v', r', erb ▸ (h1d.step G' s' t' (by rw [m', l', h.line, h.kind])), fin c1d s' t'⟩
  · refine Calls.use h1.G.nxt ?_
    rintro _ w2 ⟨rfl, v', G', s', l'⟩
    have R2 := h1.after s'
    refine ⟨_, _, rfl, ?_⟩
    rw [← erb]
    refine Calls.use (rnext33 R2) ?_
    rintro _ w3 ⟨rfl, r', t', m'⟩
    exact ⟨_, _, rfl, bcT (by rw [h.line]; simp) ⟨by rw [h.line]; simp, v', r', erb ▸ (h1.step G' s' t' (by rw [m', l', h.line])), fin c1 s' t'⟩⟩
  · refine ⟨fun q => q.block = w.heap.size, _, kk, (X1d.cell0 1).trans rfl, _, kk, (X1d.cell0 1).trans rfl, Calls.use (h1d.G.free b) ?_⟩
    rintro _ w2 ⟨rfl, v', G', s', l'⟩
    have R2 := h1d.after s'
    refine ⟨_, rfl, keepsK h1d.G.inv X1d s', ?_⟩
    rw [← erb]
    refine Calls.use (rfree34 R2 h.nd b) ?_
    rintro _ w3 ⟨rfl, r', t', m'⟩
    exact ⟨_, rfl, by rw [h.line, h.n]; simp, v', r', erb ▸ (h1d.step G' s' t' (by rw [m', l', h.line, h.n])), fin c1d s' t'⟩
  · refine ⟨fun q => q.block = w.heap.size, _, kk, (X1d.cell0 1).trans rfl, _, kk, (X1d.cell0 1).trans rfl, Calls.use (h1d.G.keeps _) ?_⟩
    rintro _ _ ⟨rfl, rfl⟩
    refine ⟨_, rfl, fun _ _ => rfl, ?_⟩
    rw [← erb]
    refine Calls.use (rkeep35 h1d.R _) ?_
    rintro _ _ ⟨rfl, rfl⟩
    exact ⟨_, rfl, by rw [h.keep]; simp, v, r, erb ▸ h1d, ⟨c1d.mono (fun _ _ hf => hf.elim), fun _ hk => .inl hk, rfl, rfl, rfl⟩⟩
  · refine Calls.use h1.G.ln ?_
    rintro _ w2 ⟨⟨q2, c2, rfl⟩, ho2, hc2, G2⟩
    have h2 := h1.next hc2
    refine ⟨_, _, _, rfl, ?_⟩
    rw [← erb]
    refine Calls.use (rline21 h2.R) ?_
    rintro _ w3 ⟨⟨q3, c3, rfl, hi3⟩, hc3⟩
    refine ⟨_, _, _, rfl, Calls.use (same18 ((Ints.own ho2).chg hc3) hi3 (by omega)) ?_⟩
    rintro _ w4 ⟨rfl, c4⟩
    exact ⟨_, rfl, by simp [Vi.regs, h.line], v, r, erb ▸ ((h2.next hc3).next c4), ⟨(((c1.trans hc2).trans hc3).trans c4).mono (fun _ _ hf => hf.elim), fun _ hk => .inl hk, rfl, rfl, rfl⟩⟩
  · refine Calls.use h1.G.mks ?_
    rintro _ w2 ⟨⟨q2, c2, rfl⟩, ho2, hc2, G2⟩
    have h2 := h1.next hc2
    refine ⟨_, _, _, rfl, ?_⟩
    rw [← erb]
    refine Calls.use (rmarks22 h2.R h.nd) ?_
    rintro _ w3 ⟨⟨q3, c3, rfl, hi3⟩, hc3⟩
    have hm := marksTo_len v.line v.n
    have hs := h.G.inv.small
    refine ⟨_, _, _, rfl, Calls.use (same18 ((Ints.own ho2).chg hc3) hi3 (by omega)) ?_⟩
    rintro _ w4 ⟨rfl, c4⟩
    exact ⟨_, rfl, by simp [h.line, h.n], v, r, erb ▸ ((h2.next hc3).next c4), ⟨(((c1.trans hc2).trans hc3).trans c4).mono (fun _ _ hf => hf.elim), fun _ hk => .inl hk, rfl, rfl, rfl⟩⟩
  · exact ⟨rfl, v, r, h1, ⟨c1.mono (fun _ _ hf => hf.elim), fun _ hk => .inl hk, rfl, rfl, rfl⟩⟩
end
end Go.Proofs.Ytnloecggngmcjaa
