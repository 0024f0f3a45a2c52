import Derived.Test.YtnloecggngmcjaaEvO
set_option maxRecDepth 20000
namespace Go.Proofs.Ytnloecggngmcjaa
open Go Go.Vc Go.RowKit Go.Vc.Ring
theorem countP_range' {α : Type} (p : α → Bool) (g : Nat → Bool) : ∀ (xs : List α) (s : Nat), (∀ i x, xs[i]? = some x → g (s + i) = p x) → (List.range' s xs.length).countP g = xs.countP p
  | [], _, _ => rfl
  | x :: xs, s, h => by
    have h0 := h 0 x rfl
    rw [Nat.add_zero] at h0
    have := countP_range' p g xs (s + 1) (fun i y hy => by rw [show s + 1 + i = s + (i + 1) by omega]; exact h (i + 1) y hy)
    rw [List.length_cons, List.range'_succ, List.countP_cons, List.countP_cons, this, h0]
def cntW (rb : Nat) (w : World) : Nat := match w.cell? ((ad rb).add 4) with
  | some (.slice (some a) l _) => (List.range' 0 l).countP fun i => isT (w.cell? (a.add (i * 1)))
  | _ => 0
section
variable {base : Nat} {r : Rs} {w : World}
theorem RInv.cnt (h : RInv base r w) : cntW r.rb w = r.line.countP (·.2) := by
  have h4 : w.cell? ((ad r.rb).add 4) = some (.slice r.q2 r.n2 r.c2) := (h.hb.cell0 4).trans rfl
  have ln := h.s2.1
  simp only [List.length_map] at ln
  rw [cntW, h4]
  cases hq : r.q2 with
  | none =>
    have : r.line = [] := by
      cases hl : r.line with
      | nil => rfl
      | cons e t =>
        obtain ⟨a, ha, _⟩ := h.s2.cell (i := 0) (x := bv e.2) (by rw [hl]; rfl)
        rw [hq] at ha; cases ha
    rw [this]; rfl
  | some a =>
    show (List.range' 0 r.n2).countP _ = _
    rw [← ln]
    refine countP_range' _ _ r.line 0 fun i x hx => ?_
    obtain ⟨a', ha, hc⟩ := h.s2.cell (i := i) (x := bv x.2) (by simp [hx])
    rw [hq] at ha
    cases ha
    rw [Nat.zero_add, hc]; rfl
theorem Sl.set {w1 : World} {e : TypeId} {l c : Nat} {a : Addr} {xs : List Value} {x : Value} {i : Nat} (s : Sl w base e (some a) l c xs) (hi : i < l) (ew : w1 = setCells (a.add (i * 1)) 0 [x] w) : Sl w1 base e (some a) l c (xs.set i x) ∧ Chg (fun k => k = a.block) w w1 := by
  refine ⟨⟨by rw [List.length_set, s.1], ?_⟩, (Chg.refl _ w).sets' ew (.inl (by rw [add_block]))⟩
  rcases s.2 with ⟨h0, _⟩ | ⟨g, off, cur, hq, hb, hc, h1, h2, h3, hr⟩
  · cases h0
  · cases hq
    rw [Nat.mul_one, add_mk] at ew
    have := hc.sets' ew
    rw [Nat.add_zero, putC, putC] at this
    refine .inr ⟨g, off, _, rfl, hb, this, h1, h2, by simpa using h3, fun j y hy => ?_⟩
    by_cases hj : j = i
    · subst hj
      rw [List.getElem?_set_self (by rw [s.1]; exact hi)] at hy
      cases hy
      rw [Array.getElem?_setIfInBounds, if_pos rfl, if_pos (by omega)]
    · rw [List.getElem?_set_ne (Ne.symm hj)] at hy
      rw [Array.getElem?_setIfInBounds_ne (by omega)]
      exact hr j y hy
theorem Sl.stores {e : TypeId} {l c : Nat} {a : Addr} {xs : List Value} {i : Nat} (s : Sl w base e (some a) l c xs) (hi : i < l) : canStore w (a.add (i * 1)) 1 := by
  rcases s.2 with ⟨h0, _⟩ | ⟨g, off, cur, hq, hb, hc, h1, h2, h3, hr⟩
  · cases h0
  · cases hq
    rw [Nat.mul_one, add_mk]
    exact hc.canStore (by omega)
theorem inR_pos {n z : Int} (h : 1 ≤ n) : inR n.toNat z = (decide (0 ≤ z) && decide (z < n)) := by
  simp only [inR]
  congr 2
  rw [eq_iff_iff]
  omega
theorem has_split {l a b : Ln} {z : Int} {m : Bool} (h : l = a ++ (z, m) :: b) : has l z = true := by
  rw [h]; simp [Ytnloecggngmcjaa.has]
theorem nd_split {l a b : Ln} {z : Int} {m : Bool} (h : l = a ++ (z, m) :: b) (nd : (l.map (·.1)).Nodup) : (∀ e ∈ a, e.1 ≠ z) ∧ (∀ e ∈ b, e.1 ≠ z) := by
  rw [h] at nd
  simp only [List.map_append, List.map_cons] at nd
  have h1 := List.nodup_append.1 nd
  refine ⟨fun e he hc => h1.2.2 _ (List.mem_map.2 ⟨e, he, rfl⟩) _ (by simp) hc, fun e he hc => (List.nodup_cons.1 h1.2.1).1 (List.mem_map.2 ⟨e, he, hc⟩)⟩
theorem pure_split {l a b : Ln} {z : Int} {m : Bool} (h : l = a ++ (z, m) :: b) (nd : (l.map (·.1)).Nodup) : rem l z = a ++ b ∧ one l z = [(z, m)] ∧ mark l z = a ++ (z, true) :: b ∧ isM l z = m := by
  obtain ⟨h1, h2⟩ := nd_split h nd
  subst h
  refine ⟨?_, ?_, ?_, ?_⟩
  · rw [rem_app, rem_none h1]
    congr 1
    show rem ((z, m) :: b) z = b
    rw [rem, List.filter_cons_of_neg (by simp)]
    exact rem_none h2
  · rw [one_app, one_none h1]
    show one ((z, m) :: b) z = _
    rw [one, List.filter_cons_of_pos (by simp)]
    exact congrArg _ (one_none h2)
  · rw [mark, List.map_append, List.map_cons]
    have m1 := mark_none h1
    have m2 := mark_none h2
    rw [mark] at m1 m2
    rw [m1, m2]; simp
  · simp only [isM, List.any_append, List.any_cons, beq_self_eq_true, Bool.true_and]
    have e1 : (a.any fun e => e.1 == z && e.2) = false := by
      rw [List.any_eq_false]; intro e he; simp [h1 e he]
    have e2 : (b.any fun e => e.1 == z && e.2) = false := by
      rw [List.any_eq_false]; intro e he; simp [h2 e he]
    rw [e1, e2]; simp
theorem rseal31 (h : RInv base r w) (z : Int) (hf : (sealL r.n.toNat r.line z).2.length ≤ 256) : Calls Try.prog 31 #[.pointer (some (ad r.rb)), .int .i64 z] w (Ret fun u w' => u = .int .i64 (sealL r.n.toNat r.line z).1 ∧ ∃ r', RStep base r w r' w' ∧ r'.line = (sealL r.n.toNat r.line z).2) := by
  have hn := h.num
  have hin := inR_pos (z := z) hn.1
  refine f31.calls _ _ ?_
  unfold f31.wp
  refine bc (fun hz => ?_) (fun hz => onPtr_mk ⟨_, (h.hb.cell0 1).trans rfl, bc (fun hz2 => ?_) (fun hz2 => Calls.use (at36 h z) ?_)⟩)
  · have e : inR r.n.toNat z = false := by rw [hin]; simp at hz ⊢; omega
    simp only [sealL, e]
    exact ⟨by trivial, r, h.refl, rfl⟩
  · have e : inR r.n.toNat z = false := by rw [hin]; simp at hz2 ⊢; omega
    simp only [sealL, e]
    exact ⟨by trivial, r, h.refl, rfl⟩
  · have e : inR r.n.toNat z = true := by rw [hin]; simp at hz hz2 ⊢; omega
    rintro _ _ ⟨rfl, (⟨hh, rfl⟩ | ⟨a, m, b, hl, _, rfl⟩)⟩
    · refine ⟨_, rfl, bcF (by simp) ?_⟩
      simp only [sealL, e, hh, if_true] at hf ⊢
      refine Calls.use (put37 h z false (by simp at hf; omega)) ?_
      rintro _ w2 ⟨rfl, r', s', l'⟩
      exact ⟨rfl, by trivial, r', s', l'⟩
    · refine ⟨_, rfl, bcT (by simp) ?_⟩
      simp only [sealL, e, has_split hl, if_true]
      exact ⟨by trivial, r, h.refl, rfl⟩
theorem rfree34 (h : RInv base r w) (nd : (r.line.map (·.1)).Nodup) (z : Int) : Calls Try.prog 34 #[.pointer (some (ad r.rb)), .int .i64 z] w (Ret fun u w' => u = .int .i64 (freeL r.n.toNat r.line z).1 ∧ ∃ r', RStep base r w r' w' ∧ r'.line = (freeL r.n.toNat r.line z).2) := by
  have hn := h.num
  have hin := inR_pos (z := z) hn.1
  refine f34.calls _ _ ?_
  unfold f34.wp
  refine bc (fun hz => ?_) (fun hz => onPtr_mk ⟨_, (h.hb.cell0 1).trans rfl, bc (fun hz2 => ?_) (fun hz2 => Calls.use (at36 h z) ?_)⟩)
  · have e : inR r.n.toNat z = false := by rw [hin]; simp at hz ⊢; omega
    simp only [freeL, e]
    exact ⟨by trivial, r, h.refl, rfl⟩
  · have e : inR r.n.toNat z = false := by rw [hin]; simp at hz2 ⊢; omega
    simp only [freeL, e]
    exact ⟨by trivial, r, h.refl, rfl⟩
  · have e : inR r.n.toNat z = true := by rw [hin]; simp at hz hz2 ⊢; omega
    rintro _ _ ⟨rfl, (⟨hh, rfl⟩ | ⟨a, m, b, hl, _, rfl⟩)⟩
    · refine ⟨_, rfl, bcT (by simp) ?_⟩
      simp only [freeL, e, hh, if_true]
      exact ⟨by trivial, r, h.refl, rfl⟩
    · refine ⟨_, rfl, bcF (by simp) (Calls.use (take38 h hl) ?_)⟩
      rintro _ w2 ⟨rfl, r', s', l'⟩
      simp only [freeL, e, has_split hl, if_true]
      exact ⟨_, rfl, by trivial, r', s', by rw [l', (pure_split hl nd).1]⟩
theorem rhit32 (h : RInv base r w) (nd : (r.line.map (·.1)).Nodup) (z : Int) : Calls Try.prog 32 #[.pointer (some (ad r.rb)), .int .i64 z] w (Ret fun u w' => u = .bool (hitL r.k r.line z).1 ∧ ∃ r', RStep base r w r' w' ∧ r'.line = (hitL r.k r.line z).2) := by
  refine f32.calls _ _ ?_
  unfold f32.wp
  refine Calls.use (at36 h z) ?_
  rintro _ _ ⟨rfl, (⟨hh, rfl⟩ | ⟨a, m, b, hl, _, rfl⟩)⟩
  · refine ⟨_, rfl, bcT (by simp) ?_⟩
    simp only [hitL, hh]
    exact ⟨by trivial, r, h.refl, rfl⟩
  · obtain ⟨p1, p2, p3, _⟩ := pure_split hl nd
    have hh := has_split hl
    simp only [hitL, hh, if_true]
    have hll : r.line.length = a.length + b.length + 1 := by rw [hl]; simp; omega
    have hfew := h.few
    have ln2 := h.s2.1
    simp only [List.length_map] at ln2
    refine ⟨_, rfl, bcF (by simp) ⟨fun w2 => ∃ r', RStep base r w r' w2 ∧ (r.k = 2 → r'.line = rem r.line z ++ one r.line z) ∧ (r.k ≠ 2 → r' = r ∧ w2 = w), ?_, ?_⟩⟩
    · rintro w2 ⟨r', s', h2, hn2⟩
      have hb := s'.inv.hb
      have hrb := s'.rb
      have hk := s'.k
      rw [hrb] at hb
      refine onPtr_mk ⟨_, (hb.cell 0).trans rfl, bc (fun h3 => ?_) (fun h3 => ?_)⟩
      · have h3' : r.k = 3 := by rw [← hk]; simpa using h3
        obtain ⟨rfl, rfl⟩ := hn2 (by omega)
        obtain ⟨p, hp, hc⟩ := h.s2.cell (i := a.length) (x := bv m) (by rw [hl]; simp)
        have s2 := h.s2
        rw [hp] at s2
        simp only [Int.toNat_natCast]
        refine onPtr_mk ⟨_, _, _, (hb.cell0 4).trans rfl, ?_⟩
        rw [hp]
        refine onPtr_mk ⟨by omega, by omega, Sl.stores s2 (by omega), fun w5 e5 => ?_⟩
        obtain ⟨t2, x5⟩ := Sl.set s2 (by omega) e5
        have hq : qBlock r'.q2 = some p.block := by rw [hp]; rfl
        have n1 := nb1 h.s2 h.hb (by decide) _ hq
        refine ⟨by trivial, { r' with line := mark r'.line z }, ⟨⟨x5.blk h.hb (fun hc => n1 hc.symm), ?_, ?_, h.ge, by simpa [mark] using h.few, h.num⟩, rfl, rfl, rfl, rfl, x5.mono (fun k _ hk => .inr (.inr (by rw [hq, hk]))), fun k hk => .inl hk⟩, ?_⟩
        · have e1 : (mark r'.line z).map (fun e => iv e.1) = r'.line.map fun e => iv e.1 := by
            simp only [mark, List.map_map]
            exact List.map_congr_left fun e _ => by simp only [Function.comp]; split <;> rfl
          show Sl w5 base 3 r'.q1 r'.n1 r'.c1 _
          rw [e1]
          exact h.s1.chg x5 (fun g hg (hc : g = _) => nb2 h.s1 h.s2 (by decide) g hg (by rw [hq, hc]))
        · show Sl w5 base 4 r'.q2 r'.n2 r'.c2 ((mark r'.line z).map fun e => bv e.2)
          rw [hp, p3]
          have e2 : (r'.line.map fun e => bv e.2).set a.length (bv true) = (a ++ (z, true) :: b).map fun e => bv e.2 := by
            rw [hl]; simp
          rw [← e2]; exact t2
        · rw [if_neg (by omega), if_pos h3']
      · have h3' : r.k ≠ 3 := by rw [← hk]; simpa using h3
        refine ⟨by trivial, r', s', ?_⟩
        by_cases hk2 : r.k = 2
        · rw [if_pos hk2, h2 hk2]
        · rw [if_neg hk2, if_neg h3', (hn2 hk2).1]
    · refine onPtr_mk ⟨_, (h.hb.cell 0).trans rfl, bc (fun hk => ?_) (fun hk => ?_)⟩
      · have hk' : r.k = 2 := by simpa using hk
        refine Calls.use (take38 h hl) ?_
        rintro _ w2 ⟨rfl, r2, s2, l2⟩
        refine ⟨_, rfl, ?_⟩
        rw [← s2.rb]
        refine Calls.use (put37 s2.inv z m (by rw [l2]; simp; omega)) ?_
        rintro _ w3 ⟨rfl, r3, s3, l3⟩
        exact ⟨rfl, r3, s2.trans s3, fun _ => by rw [l3, l2, p1, p2], fun hc => absurd hk' hc⟩
      · have hk' : r.k ≠ 2 := by simpa using hk
        exact ⟨r, h.refl, fun hc => absurd hc hk', fun _ => ⟨rfl, rfl⟩⟩
theorem rnext33 (h : RInv base r w) : Calls Try.prog 33 #[.pointer (some (ad r.rb))] w (Ret fun u w' => u = .tuple #[.int .i64 (nextL r.line).1, .bool (nextL r.line).2] ∧ ∃ r', RStep base r w r' w' ∧ r'.line = rotL r.line) := by
  have ln1 := h.s1.1
  simp only [List.length_map] at ln1
  refine f33.calls _ ?_
  unfold f33.wp
  refine onPtr_mk ⟨_, _, _, (h.hb.cell0 3).trans rfl, bc (fun h0 => ?_) (fun h0 => ?_)⟩
  · have hl : r.line = [] := List.eq_nil_of_length_eq_zero (by rw [ln1]; simp at h0; omega)
    exact ⟨by simp [nextL, rotL, hl], r, h.refl, by simp [rotL, hl]⟩
  have hne : r.line ≠ [] := fun hc => by rw [hc] at ln1; simp at ln1 h0; omega
  refine ⟨fun w2 => ∃ r', RStep base r w r' w2 ∧ rotL r'.line = rotL r.line, cntW r.rb, ⟨r, h.refl, rfl⟩, ?_⟩
  rintro w2 ⟨r', s', hrot⟩
  have hI := s'.inv
  have hb := hI.hb
  have hrb := s'.rb
  rw [hrb] at hb
  have lm1 := hI.s1.1
  have lm2 := hI.s2.1
  simp only [List.length_map] at lm1 lm2
  cases hl : r'.line with
  | nil => exact absurd (by rw [← hrot, hl]; rfl) (rot_nil hne)
  | cons e t =>
    have hlen : r'.line.length = t.length + 1 := by rw [hl]; rfl
    obtain ⟨p, hp, hc⟩ := hI.s2.cell (i := 0) (x := bv e.2) (by rw [hl]; rfl)
    obtain ⟨p', hp', hc'⟩ := hI.s1.cell (i := 0) (x := iv e.1) (by rw [hl]; rfl)
    refine onPtr_mk ⟨_, _, _, (hb.cell0 4).trans rfl, ?_⟩
    rw [hp]
    refine onPtr_mk ⟨by omega, by omega, _, hc, bc (fun hm => ?_) (fun hm => ?_)⟩
    · refine onPtr_mk ⟨_, _, _, (hb.cell0 3).trans rfl, ?_⟩
      rw [hp']
      refine onPtr_mk ⟨by omega, by omega, _, hc', ?_⟩
      have htk := take38 hI (a := []) (b := t) (e := e) (by rw [hl]; rfl)
      rw [hrb] at htk
      refine Calls.use htk ?_
      rintro _ w3 ⟨rfl, r3, s3, l3⟩
      have hfew := hI.few
      have hpt := put37 s3.inv e.1 false (by rw [l3]; simp; omega)
      rw [s3.rb, hrb] at hpt
      refine ⟨_, rfl, Calls.use hpt ?_⟩
      rintro _ w4 ⟨rfl, r4, s4, l4⟩
      have l4' : r4.line = t ++ [(e.1, false)] := by rw [l4, l3]; rfl
      have he : e = (e.1, true) := by rw [← hm]
      refine ⟨rfl, ⟨r4, (s'.trans s3).trans s4, by rw [l4', ← rot_step, ← he, ← hl, hrot]⟩, ?_⟩
      have c4 := s4.inv.cnt
      have c2 := hI.cnt
      rw [s4.rb, s3.rb, hrb] at c4
      rw [hrb] at c2
      rw [c4, c2, l4', hl]
      simp [List.countP_append, hm]
    · refine onPtr_mk ⟨_, _, _, (hb.cell0 3).trans rfl, ?_⟩
      rw [hp']
      have hr : rotL r.line = e :: t := by rw [← hrot, hl]; simp [rotL, hm]
      refine onPtr_mk ⟨by omega, by omega, _, hc', ?_, r', s', by rw [hl, hr]⟩
      rw [nextL, hr]
end
end Go.Proofs.Ytnloecggngmcjaa
