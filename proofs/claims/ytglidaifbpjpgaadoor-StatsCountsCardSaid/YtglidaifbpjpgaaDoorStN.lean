import Derived.Test.YtglidaifbpjpgaaDoorStM
import Derived.Test.YtglidaifbpjpgaaDoorStL
set_option maxRecDepth 20000
namespace Go.Proofs.YtglidaifbpjpgaaDoor
open Go Go.Vc Go.RowKit
/-! # what the document's histogram does -/
theorem countP_at {bs : List Int} (hp : bs.Pairwise (· < ·)) {n : Int} {i : Nat} (hi : i ≤ bs.length) (hlo : ∀ (j : Nat) (b : Int), j < i → bs[j]? = some b → b < n) (hhi : ∀ b, bs[i]? = some b → ¬ b < n) : bs.countP (· < n) = i := by
  have e : bs = bs.take i ++ bs.drop i := (List.take_append_drop i bs).symm
  rw [e, List.countP_append]
  have h1 : (bs.take i).countP (· < n) = i := by
    rw [List.countP_eq_length.2, List.length_take]
    · omega
    · intro a ha
      obtain ⟨j, hj⟩ := List.getElem?_of_mem ha
      rw [List.getElem?_take] at hj
      split at hj
      · rename_i hji; simpa using hlo j a hji hj
      · cases hj
  have h2 : (bs.drop i).countP (· < n) = 0 := by
    rw [List.countP_eq_zero]
    intro a ha
    obtain ⟨j, hj⟩ := List.getElem?_of_mem ha
    rw [List.getElem?_drop] at hj
    obtain ⟨b, hb⟩ := get_ex (l := bs) (i := i) (by have := get_lt hj; omega)
    have hb' := hhi b hb
    rcases Nat.eq_zero_or_pos j with h0 | h0
    · subst h0
      rw [Nat.add_zero, hb] at hj
      cases hj
      simpa using hb'
    · have h1 := get_lt hj
      have h2 := get_lt hb
      have := (List.pairwise_iff_getElem.1 hp) i (i + j) h2 h1 (by omega)
      rw [List.getElem?_eq_getElem h1] at hj
      rw [List.getElem?_eq_getElem h2] at hb
      cases hj; cases hb
      simp; omega
  omega
section
variable {w : World} {base : Nat} {h : Hs}
theorem refTotal41 (R : RI w base h) : Calls Tryd.prog 41 #[.pointer (some (ad h.b))] w (Ret fun v w' => v = .int .i64 h.tot ∧ w = w') := by
  refine f41.calls _ ?_
  unfold f41.wp
  exact onPtr_mk ⟨_, (R.blk.cell0 2).trans rfl, rfl, rfl⟩
theorem refSum42 (R : RI w base h) : Calls Tryd.prog 42 #[.pointer (some (ad h.b))] w (Ret fun v w' => v = .int .i64 h.sum ∧ w = w') := by
  refine f42.calls _ ?_
  unfold f42.wp
  exact onPtr_mk ⟨_, (R.blk.cell0 3).trans rfl, rfl, rfl⟩
theorem refCounts43 (R : RI w base h) : Calls Tryd.prog 43 #[.pointer (some (ad h.b))] w (Ret fun v w' => ∃ q c, v = .slice q (h.bs.length + 1) c ∧ SE En.int w' w.heap.size 3 q (h.bs.length + 1) c h.cs ∧ Chg none_ w w') := by
  refine f43.calls _ ?_
  unfold f43.wp
  intro w1 e1
  have k1 := (Chg.refl none_ w).new' e1
  have R1 := R.chgN k1
  have hl := R.good.ok.2.1
  obtain ⟨q', c', w2, hr, s2, k2, _⟩ := append_lit (c := h.c2) (empty_lit e1) (Chg.refl none_ w1) R1.sc.re (by omega) k1.size
  exact onPtr_mk ⟨_, _, _, (R1.blk.cell0 1).trans rfl, q', _, c', w2, hr, q', c', rfl, s2, k1.up k2 (fun g hg => by omega)⟩
theorem refAdd26 (R : RI w base h) (n : Int) :
    Calls Tryd.prog 26 #[.pointer (some (ad h.b)), .int .i64 n] w (Ret fun v w' => v = .bool (h.can n) ∧ RI w' base (h.add n) ∧ Chg h.rown w w') := by
  refine f26.calls _ _ ?_
  unfold f26.wp
  refine bc (fun hlt => ?_) (fun h0 => bc (fun hgt => ?_) (fun h1 => onPtr_mk ⟨_, (R.blk.cell0 2).trans rfl, bc (fun hge => ?_) (fun h2 => ?_)⟩))
  · have e : h.can n = false := by simp at hlt; simp [Hs.can]; omega
    rw [e, show h.add n = h by simp [Hs.add, e]]; exact ⟨rfl, R, Chg.refl _ _⟩
  · have e : h.can n = false := by simp at hgt; simp [Hs.can]; omega
    rw [e, show h.add n = h by simp [Hs.add, e]]; exact ⟨rfl, R, Chg.refl _ _⟩
  · have e : h.can n = false := by simp at hge; simp [Hs.can]; omega
    rw [e, show h.add n = h by simp [Hs.add, e]]; exact ⟨rfl, R, Chg.refl _ _⟩
  have h0 : 0 ≤ n := by simp at h0; omega
  have h1 : n ≤ 2147483647 := by simp at h1; omega
  have h2 : h.tot < 2147483647 := by simp at h2; omega
  have e : h.can n = true := by simp [Hs.can]; omega
  have g := R.good
  have hl := g.ok.2.1
  obtain ⟨x, hx, hx0, hx1⟩ := g.get n
  have ea : addCs h.bs h.cs n = h.cs.set (h.bs.countP (· < n)) (x + 1) := by simp only [addCs, hx]; rfl
  have hk : h.bs.countP (· < n) < h.bs.length + 1 := Nat.lt_succ_of_le List.countP_le_length
  have eadd : h.add n = { h with cs := h.cs.set (h.bs.countP (· < n)) (x + 1), tot := h.tot + 1, sum := h.sum + n } := by simp [Hs.add, e, ea]
  rw [e]
  generalize h.add n = h' at *
  refine ⟨fun y w' => y = ((h.bs.countP (· < n) : Nat) : Int) ∧ w = w', ?_, fun y w' => ∃ i : Nat, y = i ∧ i ≤ h.bs.length ∧ (∀ (j : Nat) (b : Int), j < i → h.bs[j]? = some b → b < n) ∧ w = w', fun y _ => h.bs.length - y.toNat, ⟨0, rfl, Nat.zero_le _, fun j b hj => by omega, rfl⟩, ?_⟩
  · rintro _ _ ⟨rfl, rfl⟩
    refine onPtr_mk ⟨_, _, _, (R.blk.cell0 1).trans rfl, ?_⟩
    obtain ⟨a, ha, hcan⟩ := R.sc.can hk
    obtain ⟨a', ha', hr⟩ := R.sc.re.get _ _ hx
    rw [ha] at ha'
    cases ha'
    rw [ha]
    refine onPtr_mk ⟨by omega, by omega, x, reads_one' hr, onPtr_mk ⟨by omega, by omega, ?_, fun w3 e3 => ?_⟩⟩
    · have := hcan 0 1 (Nat.le_refl _); rwa [add_zero'] at this
    rw [wrapS (x := x + 1) (by omega) (by omega)] at e3
    obtain ⟨s3, k3⟩ := R.sc.set ha (x' := x + 1) hk e3
    have b3 := k3.blk R.blk (fun h => R.d2 h.symm)
    have sb3 := R.sb.chg k3 (fun g hg h => R.d3 (hg.trans h))
    refine onPtr_mk ⟨_, (b3.cell0 2).trans rfl, onPtr_mk ⟨b3.canStore0 (by simp), fun w4 e4 => ?_⟩⟩
    have ht0 := g.t0
    rw [wrapS (x := h.tot + 1) (by omega) (by omega)] at e4
    obtain ⟨b4, k4⟩ := b3.put e4
    refine onPtr_mk ⟨_, (b4.cell0 3).trans rfl, onPtr_mk ⟨b4.canStore0 (by simp), fun w5 e5 => ?_⟩⟩
    have hs0 := g.s0
    have hs1 := g.s1
    rw [wrapS (x := h.sum + n) (by omega) (by omega)] at e5
    obtain ⟨b5, k5⟩ := b4.put e5
    have k35 : Chg (fun k => k = h.b) w3 w5 := k4.trans k5
    subst eadd
    refine ⟨rfl, ⟨b5, sb3.chg k35 (fun g hg h => R.d1 (hg.trans (congrArg some h))), s3.chg k35 (fun g hg h => R.d2 (hg.trans (congrArg some h))), R.base, R.d1, R.d2, R.d3, ?_⟩, ?_⟩
    · rw [← ea]; exact g.add h0 h1 h2
    · exact (k3.mono fun k _ hk => .inr hk).trans (k35.mono fun k _ hk => .inl hk)
  · rintro y _ ⟨i, rfl, hi, hlo, rfl⟩
    refine onPtr_mk ⟨_, _, _, (R.blk.cell 0).trans rfl, bc (fun hlt => ?_) (fun hge => ?_)⟩
    · have hi' : i < h.bs.length := by simpa using hlt
      obtain ⟨a, b, ha, hb, hrb⟩ := R.sb.re.ex hi'
      refine onPtr_mk ⟨some a, _, _, (R.blk.cell 0).trans (by rw [ha]; rfl), onPtr_mk ⟨by omega, by omega, b, reads_one' hrb, bc (fun hgt => ?_) (fun hle => ?_)⟩⟩
      · rw [wrapS (x := (i : Int) + 1) (by omega) (by omega)]
        refine ⟨⟨i + 1, rfl, hi', fun j c hj hc => ?_, rfl⟩, meas hi'⟩
        rcases Nat.lt_or_ge j i with h3 | h3
        · exact hlo j c h3 hc
        · have : j = i := by omega
          subst this
          rw [hb] at hc
          cases hc
          have := of_decide_eq_true hgt; omega
      · refine ⟨?_, rfl⟩
        rw [countP_at g.ok.pair (Nat.le_of_lt hi') hlo (fun c hc => by rw [hb] at hc; cases hc; have := of_decide_eq_false hle; omega)]
    · have : i = h.bs.length := by have := of_decide_eq_false hge; omega
      subst this
      exact ⟨by rw [countP_at g.ok.pair (Nat.le_refl _) hlo (fun c hc => by have := get_lt hc; omega)], rfl⟩
theorem refQuantile28 (R : RI w base h) (k o : Int) (hk : -9223372036854775808 ≤ k ∧ k ≤ 9223372036854775807) :
    Calls Tryd.prog 28 #[.pointer (some (ad h.b)), .int .i64 k, .int .i64 o] w (Ret fun v w' => v = .tuple #[.int .i64 (quant h.bs h.cs h.tot k o).1, .int .i64 (quant h.bs h.cs h.tot k o).2] ∧ w = w') := by
  refine f28.calls _ _ _ ?_
  unfold f28.wp
  have bad : badQ k o = true → ∀ {v : Value}, v = .tuple #[.int .i64 0, .int .i64 1] → v = .tuple #[.int .i64 (quant h.bs h.cs h.tot k o).1, .int .i64 (quant h.bs h.cs h.tot k o).2] ∧ w = w := fun hb _ hv => ⟨by rw [hv]; simp [quant, hb], rfl⟩
  refine bc (fun h1 => bad (by simp at h1; simp [badQ, h1]) rfl) (fun h1 => bc (fun h2 => bad (by simp at h2; simp [badQ, h2]) rfl) (fun h2 => bc (fun h3 => bad (by simp at h3; simp [badQ, h3]) rfl) (fun h3 => bc (fun h4 => bad (by simp at h4; simp [badQ, h4]) rfl) (fun h4 => ?_))))
  have hb : badQ k o = false := by simp only [badQ, h1, h2, h3, h4, Bool.or_self]
  clear bad
  refine onPtr_mk ⟨_, (R.blk.cell0 2).trans rfl, bc (fun h0 => ⟨?_, rfl⟩) (fun h0 => onPtr_mk ⟨_, _, _, (R.blk.cell 0).trans rfl, ?_⟩)⟩
  · have : h.tot = 0 := by simpa using h0
    simp [quant, hb, this]
  have h0 : h.tot ≠ 0 := by simpa using h0
  have g := R.good
  have hq : quant h.bs h.cs h.tot k o = qL h.bs h.cs 0 k o h.tot := by simp [quant, hb, h0]
  rw [hq]
  have hl := g.ok.2.1
  simp [badQ] at hb
  refine ⟨fun x y w' => ∃ i : Nat, y = i ∧ i ≤ h.bs.length ∧ x = (h.cs.take i).sum ∧ qL h.bs h.cs 0 k o h.tot = qL (h.bs.drop i) (h.cs.drop i) x k o h.tot ∧ w = w', fun _ y _ => h.bs.length - y.toNat, ⟨0, rfl, Nat.zero_le _, by simp, by simp, rfl⟩, ?_⟩
  rintro x y _ ⟨i, rfl, hi, rfl, he, rfl⟩
  refine bc (fun hlt => ?_) (fun hge => ⟨?_, rfl⟩)
  · have hi' : i < h.bs.length := by simpa using hlt
    obtain ⟨a1, b, ha1, hb1, hr1⟩ := R.sb.re.ex hi'
    obtain ⟨a2, c, ha2, hc2, hr2⟩ := R.sc.re.ex (i := i) (by omega)
    have h1 := sum_take_le i g.pos
    have h2 := sum_take_le (i + 1) g.pos
    have h3 := sum_take_succ hc2
    have h4 := g.t1
    have h5 := g.all
    have h6 := g.t0
    have m1 := mulb (a := (h.cs.take i).sum + c) (b := o) (by omega) (by omega) (by omega) (by omega)
    have m2 := mulb (a := k) (b := h.tot) (by omega) (by omega) (by omega) (by omega)
    rw [ha1]
    rw [qL_step hb1 hc2] at he
    refine onPtr_mk ⟨by omega, by omega, b, reads_one' hr1, onPtr_mk ⟨some a2, _, _, (R.blk.cell0 1).trans (by rw [ha2]; rfl), onPtr_mk ⟨by omega, by omega, c, reads_one' hr2, onPtr_mk ⟨_, (R.blk.cell0 2).trans rfl, ?_⟩⟩⟩⟩
    rw [wrapS (x := (h.cs.take i).sum + c) (by omega) (by omega), wrapS (x := ((h.cs.take i).sum + c) * o) (by omega) (by omega), wrapS (x := k * h.tot) (by omega) (by omega), wrapS (x := (i : Int) + 1) (by omega) (by omega)]
    refine bc (fun hge => ⟨?_, rfl⟩) (fun hlt => ⟨⟨i + 1, by omega, hi', h3.symm, ?_, rfl⟩, meas hi'⟩)
    · have hge : ((h.cs.take i).sum + c) * o ≥ k * h.tot := by simpa using hge
      rw [he, if_pos hge]
    · have hlt : ¬ ((h.cs.take i).sum + c) * o ≥ k * h.tot := by simpa using hlt
      rw [he, if_neg hlt]
  · have : h.bs.length ≤ i := by simpa using hge
    rw [he, List.drop_eq_nil_of_le this]; rfl
/-- the counts up to each bound -/
def upTo (cs : List Int) (n : Nat) : List Int := (List.range n).map fun i => (cs.take (i + 1)).sum
theorem upTo_succ (cs : List Int) (n : Nat) : upTo cs (n + 1) = upTo cs n ++ [(cs.take (n + 1)).sum] := by unfold upTo; rw [List.range_succ]; simp
theorem upTo_len (cs : List Int) (n : Nat) : (upTo cs n).length = n := by simp [upTo]
theorem upTo_get {cs : List Int} {n i : Nat} (hi : i < n) : (upTo cs n)[i]? = some (cs.take (i + 1)).sum := by simp [upTo, hi]
theorem refUpTo44 (R : RI w base h) :
    Calls Tryd.prog 44 #[.pointer (some (ad h.b))] w (Ret fun v w' => ∃ q c q' c', v = .tuple #[.slice q h.bs.length c, .slice q' h.bs.length c'] ∧ SE En.int w' w.heap.size 3 q h.bs.length c h.bs ∧ SE En.int w' w.heap.size 3 q' h.bs.length c' (upTo h.cs h.bs.length) ∧ Chg none_ w w') := by
  refine f44.calls _ ?_
  unfold f44.wp
  have g := R.good
  have hl := g.ok.2.1
  refine onPtr_mk ⟨_, _, _, (R.blk.cell 0).trans rfl, fun q l c x y w' => ∃ i : Nat, y = i ∧ i ≤ h.bs.length ∧ l = i ∧ x = (h.cs.take i).sum ∧ SE En.int w' w.heap.size 3 q i c (upTo h.cs i) ∧ Chg none_ w w', fun _ _ _ _ y _ => h.bs.length - y.toNat,
    ⟨0, rfl, Nat.zero_le _, rfl, by simp, SE.nil _ _ _ _, Chg.refl _ _⟩, ?_⟩
  rintro q i c _ _ w1 ⟨_, rfl, hi, rfl, rfl, s1, k1⟩
  have R1 := R.chgN k1
  refine bc (fun hlt => ?_) (fun hge => ?_)
  · have hi' : i < h.bs.length := by simpa using hlt
    obtain ⟨a, x, ha, hx, hr⟩ := R1.sc.re.ex (i := i) (by omega)
    have h1 := sum_take_le i g.pos
    have h2 := sum_take_le (i + 1) g.pos
    have h3 := sum_take_succ hx
    have h4 := g.t1
    have h5 := g.all
    refine onPtr_mk ⟨some a, _, _, (R1.blk.cell0 1).trans (by rw [ha]; rfl), onPtr_mk ⟨by omega, by omega, x, reads_one' hr, ?_⟩⟩
    rw [wrapS (x := (h.cs.take i).sum + x) (by omega) (by omega), wrapS (x := (i : Int) + 1) (by omega) (by omega), ← h3]
    intro w2 e2
    have k12 := (Chg.refl none_ w1).new' e2
    obtain ⟨q', c', w3, hr3, s3, k3, _⟩ := (s1.chgN k12).append1 (t := 28) (ty := 28) (x := (h.cs.take (i + 1)).sum) elemInt (new_blk e2) (by simp only [maxLen]; omega) (by omega) (by have := k1.size; have := k12.size; omega)
    refine ⟨q', i + 1, c', w3, hr3, ⟨i + 1, rfl, hi', rfl, rfl, by rw [upTo_succ]; exact s3, (k1.trans k12).up k3 (fun g hg => (s1.lt hg.symm).2)⟩, meas hi'⟩
  · have : i = h.bs.length := by have := of_decide_eq_false hge; omega
    intro w4 e4
    have k14 := (Chg.refl none_ w1).new' e4
    have R4 := R1.chgN k14
    obtain ⟨q', c', w5, hr5, s5, k5, _⟩ := append_lit (c := h.c1) (empty_lit e4) (Chg.refl none_ w4) R4.sb.re (by omega) k14.size
    refine onPtr_mk ⟨_, _, _, (R4.blk.cell 0).trans rfl, q', _, c', w5, hr5, q', c', q, c, by rw [this], s5.lower k1.size, ?_, (k1.trans k14).up k5 (fun g hg => by have := k1.size; omega)⟩
    rw [← this]
    exact (s1.chgN k14).chg k5 (fun g hg => by have := (s1.lt hg).1; omega)
end
theorem refMerge29 {w : World} {b1 b2 : Nat} {h o : Hs} (H : RI w b1 h) (O : RI w b2 o) (hd : ∀ k, o.own k → ¬ h.rown k) :
    Calls Tryd.prog 29 #[.pointer (some (ad h.b)), .pointer (some (ad o.b))] w (Ret fun v w' => v = .int .i64 (mergeE h o) ∧ RI w' b1 (h.merge o) ∧ Chg h.rown w w') := by
  refine f29.calls _ _ ?_
  unfold f29.wp
  have kd := (Chg.refl none_ w).drew
  have H1 := H.chgN kd
  have O1 := O.chgN kd
  have hlen := H.good.ok.2.1
  have none_e : ∀ {w' : World} {x : Int}, mergeE h o = x → x ≠ 0 → Chg none_ w w' → (.int .i64 x : Value) = .int .i64 (mergeE h o) ∧ RI w' b1 (h.merge o) ∧ Chg h.rown w w' := fun {w' x} e hx c => by
    have em : h.merge o = h := by simp [Hs.merge, e, hx]
    rw [e, em]; exact ⟨rfl, H.chgN c, c.of_none _⟩
  generalize w.drew = w0 at *
  refine onPtr_mk ⟨_, _, _, (H1.blk.cell 0).trans rfl, onPtr_mk ⟨_, _, _, (O1.blk.cell 0).trans rfl, bc (fun hne => ?_) (fun heq => ?_)⟩⟩
  · refine none_e (x := 280) ?_ (by decide) kd
    have : h.bs ≠ o.bs := fun e => by rw [e] at hne; simp at hne
    simp [mergeE, this]
  have hll : h.bs.length = o.bs.length := by simp at heq; omega
  refine onPtr_mk ⟨_, _, _, (H1.blk.cell 0).trans rfl, fun x w' => ∃ i : Nat, x = i ∧ i ≤ h.bs.length ∧ (∀ j, j < i → h.bs[j]? = o.bs[j]?) ∧ Chg none_ w w', fun x _ => h.bs.length - x.toNat, ⟨0, rfl, Nat.zero_le _, fun j hj => by omega, kd⟩, ?_⟩
  rintro x w1 ⟨i, rfl, hi, hj, k1⟩
  have H2 := H.chgN k1
  have O2 := O.chgN k1
  refine bc (fun hlt => ?_) (fun hge => ?_)
  · have hi' : i < h.bs.length := by simpa using hlt
    obtain ⟨a, u, ha, hu, hru⟩ := H2.sb.re.ex hi'
    obtain ⟨b, v, hb, hv, hrv⟩ := O2.sb.re.ex (i := i) (by omega)
    rw [ha]
    refine onPtr_mk ⟨by omega, by omega, u, reads_one' hru, onPtr_mk ⟨some b, _, _, (O2.blk.cell 0).trans (by rw [hb]; rfl), onPtr_mk ⟨by omega, by omega, v, reads_one' hrv, bc (fun hne => ?_) (fun he => ?_)⟩⟩⟩
    · refine none_e (x := 280) ?_ (by decide) k1
      have : h.bs ≠ o.bs := fun e => by rw [e, hv] at hu; cases hu; simp at hne
      simp [mergeE, this]
    · rw [wrapS (x := (i : Int) + 1) (by omega) (by omega)]
      refine ⟨⟨i + 1, rfl, hi', fun j hj' => ?_, k1⟩, meas hi'⟩
      rcases Nat.lt_or_ge j i with h3 | h3
      · exact hj j h3
      · have : j = i := by omega
        subst this
        have : u = v := by simpa using he
        rw [hu, hv, this]
  have hil : i = h.bs.length := by have := of_decide_eq_false hge; omega
  have hbs : h.bs = o.bs := by
    apply List.ext_getElem?
    intro j
    rcases Nat.lt_or_ge j i with h3 | h3
    · exact hj j h3
    · rw [List.getElem?_eq_none (by omega), List.getElem?_eq_none (by omega)]
  clear hj heq hi hge hil
  have k1d := k1.drew
  have H3 := H.chgN k1d
  have O3 := O.chgN k1d
  clear H2 O2 k1 H1 O1
  generalize w1.drew = w2 at *
  have g := H.good
  have g' := O.good
  rw [← hbs] at g'
  have t0 := g.t0; have t1 := g.t1; have t0' := g'.t0; have t1' := g'.t1
  have s0 := g.s0; have s1 := g.s1; have s0' := g'.s0; have s1' := g'.s1
  refine onPtr_mk ⟨_, (H3.blk.cell0 2).trans rfl, onPtr_mk ⟨_, (O3.blk.cell0 2).trans rfl, ?_⟩⟩
  rw [wrapS (x := 2147483647 - o.tot) (by omega) (by omega)]
  refine bc (fun hgt => ?_) (fun hle => ?_)
  · have hgt := of_decide_eq_true hgt
    refine none_e (x := 2) ?_ (by decide) k1d
    simp [mergeE, hbs]; omega
  have hle : h.tot + o.tot ≤ 2147483647 := by have := of_decide_eq_false hle; omega
  have e : mergeE h o = 0 := by simp [mergeE, hbs]; omega
  have em : h.merge o = { h with cs := h.cs.zipWith (· + ·) o.cs, tot := h.tot + o.tot, sum := h.sum + o.sum } := by simp [Hs.merge, e]
  clear none_e
  rw [e]
  generalize h.merge o = h' at *
  refine Calls.use (refCounts43 O3) ?_
  rintro _ w4 ⟨q4, c4, rfl, s4, k4⟩
  have H4 := H3.chgN k4
  have O4 := O3.chgN k4
  have hl := g.ok.2.1
  have dl : h.cs.length = o.cs.length := by rw [g.len, g'.len]
  refine ⟨_, _, _, rfl, fun x w' => ∃ (i : Nat) (es : List Int), x = i ∧ i ≤ h.bs.length + 1 ∧ Part h.cs o.cs es i ∧ SE En.int w' b1 3 h.q2 (h.bs.length + 1) h.c2 es ∧ SE En.int w' w2.heap.size 3 q4 (o.bs.length + 1) c4 o.cs ∧ Chg (fun k => some k = qB h.q2) w4 w', fun x _ => h.bs.length + 1 - x.toNat, ⟨0, h.cs, rfl, Nat.zero_le _, Part.zero _ _, H4.sc, s4, Chg.refl _ _⟩, ?_⟩
  rintro x w5 ⟨i, es, rfl, hi, hp, sc, sd, k5⟩
  refine bc (fun hlt => ?_) (fun hge => ?_)
  · have hi' : i < h.bs.length + 1 := by rw [hbs]; simp at hlt; omega
    obtain ⟨a1, y, rfl, hy, hr1⟩ := sd.re.ex (i := i) (by rw [← hbs]; exact hi')
    obtain ⟨x, hx⟩ := get_ex (l := h.cs) (i := i) (by rw [g.len]; exact hi')
    have hx' : es[i]? = some x := by rw [hp.hi i (Nat.le_refl _)]; exact hx
    obtain ⟨a2, ha2, hr2⟩ := sc.re.get i x hx'
    obtain ⟨a2', ha2', hcan⟩ := sc.can hi'
    rw [ha2] at ha2'
    cases ha2'
    have b5 := k5.blk H4.blk (fun h0 => H.d2 h0.symm)
    have m1 := (sum_mem g.pos).2 x (List.mem_of_getElem? hx)
    have m2 := (sum_mem g'.pos).2 y (List.mem_of_getElem? hy)
    have p1 := g.pos x (List.mem_of_getElem? hx)
    have p2 := g'.pos y (List.mem_of_getElem? hy)
    rw [g.all] at m1
    rw [g'.all] at m2
    refine onPtr_mk ⟨by omega, by rw [← hbs]; omega, y, reads_one' hr1, onPtr_mk ⟨some a2, _, _, (b5.cell0 1).trans (by rw [ha2]; rfl), onPtr_mk ⟨by omega, by omega, x, reads_one' hr2, onPtr_mk ⟨by omega, by omega, ?_, fun w6 e6 => ?_⟩⟩⟩⟩
    · have := hcan 0 1 (Nat.le_refl _); rwa [add_zero'] at this
    rw [wrapS (x := x + y) (by omega) (by omega)] at e6
    rw [wrapS (x := (i : Int) + 1) (by omega) (by omega)]
    obtain ⟨s6, k6⟩ := sc.set ha2 (x' := x + y) hi' e6
    refine ⟨⟨i + 1, _, by omega, hi', hp.step hx hy, s6, sd.chg k6 (fun g hg h0 => ?_), k5.trans k6⟩, meas hi'⟩
    have := (s4.lt hg).2
    have := (H3.sc.lt h0.symm).1
    omega
  · have hil : i = h.bs.length + 1 := by rw [← hbs] at hge; simp at hge; omega
    subst hil
    have hes := hp.done dl (by rw [g.len]; exact Nat.le_refl _)
    subst hes
    have hob : o.b ≠ h.b := fun e => hd o.b (.inl rfl) (.inl e)
    have k5d := k5.drew
    have b5 := k5d.blk H4.blk (fun h0 => H.d2 h0.symm)
    have sb5 := H4.sb.chg k5d (fun g hg h0 => H.d3 (hg.trans h0))
    have ob5 := k5d.blk O4.blk (fun h0 => hd o.b (.inl rfl) (.inr h0))
    have scd := sc.drew
    generalize w5.drew = w5' at *
    have ne2 : ∀ {b i : Nat}, (b ≠ h.b ∨ i ≠ 2) → (⟨b, 0, none⟩ : Addr).add i ≠ (⟨h.b, 0, none⟩ : Addr).add 2 := fun {b i} hb e => by
      rw [add_mk, add_mk] at e
      simp at e
      omega
    refine ⟨fun p => p ≠ (⟨h.b, 0, none⟩ : Addr).add 2, onPtr_mk (onPtr_mk ⟨_, ne2 (.inl hob), (ob5.cell0 2).trans rfl, onPtr_mk ⟨_, ne2 (.inr (by decide)), (b5.cell0 3).trans rfl, onPtr_mk ⟨_, ne2 (.inl hob), (ob5.cell0 3).trans rfl, _, (b5.cell0 2).trans rfl, fun _ _ => rfl, fun _ _ => rfl, onPtr_mk ⟨fun _ _ => rfl, fun _ _ => rfl, b5.canStore0 (by simp), fun w6 e6 => ?_⟩⟩⟩⟩)⟩
    rw [wrapS (x := h.tot + o.tot) (by omega) (by omega)] at e6
    obtain ⟨b6, k6⟩ := b5.put e6
    refine ⟨fun q hq => ?_, onPtr_mk ⟨b6.canStore0 (by simp), fun w7 e7 => ?_⟩⟩
    · rw [e6, setCells, setCells, add_zero']
      exact World.cell?_setCell_other _ _ _ _ (fun e => hq e.symm)
    rw [wrapS (x := h.sum + o.sum) (by omega) (by omega)] at e7
    obtain ⟨b7, k7⟩ := b6.put e7
    have k57 : Chg (fun k => k = h.b) w5' w7 := k6.trans k7
    subst em
    refine ⟨rfl, ⟨b7, sb5.chg k57 (fun g hg h0 => H.d1 (hg.trans (congrArg some h0))), scd.chg k57 (fun g hg h0 => H.d2 (hg.trans (congrArg some h0))), H.base, H.d1, H.d2, H.d3, g.merge g' hle⟩, ?_⟩
    exact (((k1d.trans k4).of_none _).trans (k5d.mono fun k _ hk => .inr hk)).trans (k57.mono fun k _ hk => .inl hk)
end Go.Proofs.YtglidaifbpjpgaaDoor
