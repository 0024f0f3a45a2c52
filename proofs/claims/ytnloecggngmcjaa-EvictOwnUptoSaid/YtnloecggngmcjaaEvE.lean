import Derived.Test.YtnloecggngmcjaaEvD
set_option maxRecDepth 20000
namespace Go.Proofs.Ytnloecggngmcjaa
open Go Go.Vc Go.RowKit Go.Vc.Ring
section
variable {v : Vi} {w : World}
theorem rem_app (a b : Ln) (z : Int) : rem (a ++ b) z = rem a z ++ rem b z := by simp [rem]
theorem one_app (a b : Ln) (z : Int) : one (a ++ b) z = one a z ++ one b z := by simp [one]
theorem rem_none {a : Ln} {z : Int} (h : ∀ e ∈ a, e.1 ≠ z) : rem a z = a := by
  simp only [rem, List.filter_eq_self]; intro e he; simpa using h e he
theorem one_none {a : Ln} {z : Int} (h : ∀ e ∈ a, e.1 ≠ z) : one a z = [] := by
  simp only [one, List.filter_eq_nil_iff]; intro e he; simpa using h e he
theorem mark_none {a : Ln} {z : Int} (h : ∀ e ∈ a, e.1 ≠ z) : mark a z = a := by
  conv => rhs; rw [← List.map_id a]
  exact List.map_congr_left fun e he => by simp [h e he]
abbrev Vi.f (v : Vi) (b : Nat) : Int × Bool := (v.g.rg b, v.g.mr b)
theorem Inv.split (h : Inv v w) {i b : Nat} (hb : v.arr[i]? = some (some b)) : ∃ l1 l2, v.bs = l1 ++ b :: l2 ∧ rem v.line i = (l1 ++ l2).map v.f ∧ one v.line i = [v.f b] ∧ mark v.line i = l1.map v.f ++ ((i : Int), true) :: l2.map v.f ∧ v.g.rg b = i := by
  obtain ⟨l1, l2, e, hr, h1, h2⟩ := h.place hb
  have a1 : ∀ e ∈ l1.map v.f, e.1 ≠ (i : Int) := fun e he => by
    obtain ⟨y, hy, rfl⟩ := List.mem_map.1 he; exact h1 y hy
  have a2 : ∀ e ∈ l2.map v.f, e.1 ≠ (i : Int) := fun e he => by
    obtain ⟨y, hy, rfl⟩ := List.mem_map.1 he; exact h2 y hy
  have el : v.line = l1.map v.f ++ v.f b :: l2.map v.f := by rw [Vi.line, e]; simp
  refine ⟨l1, l2, e, ?_, ?_, ?_, hr⟩
  · rw [el, rem_app, rem_none a1, List.map_append]
    congr 1
    show rem (v.f b :: l2.map v.f) i = _
    rw [rem, List.filter_cons_of_neg (by simp [hr])]
    exact rem_none a2
  · rw [el, one_app, one_none a1]
    show one (v.f b :: l2.map v.f) i = _
    rw [one, List.filter_cons_of_pos (by simp [hr])]
    exact congrArg _ (one_none a2)
  · rw [el]
    show (l1.map v.f ++ v.f b :: l2.map v.f).map _ = _
    rw [List.map_append, List.map_cons]
    have m1 := mark_none a1
    have m2 := mark_none a2
    rw [mark] at m1 m2
    rw [m1, m2]
    simp [hr]
def Vi.moved (v : Vi) (l1 l2 : List Nat) (b : Nat) : Vi := { v with bs := l1 ++ l2 ++ [b], g := (v.g.out b).last v.r b }
theorem moved_line (v : Vi) (l1 l2 : List Nat) (b : Nat) : (v.moved l1 l2 b).line = (l1 ++ l2).map v.f ++ [v.f b] := by
  simp [Vi.line, Vi.moved, G.out, G.last]
theorem Inv.nbr (h : Inv v w) {l1 l2 : List Nat} {b : Nat} (e : v.bs = l1 ++ b :: l2) : v.g.pv b ∈ v.r :: v.bs ∧ v.g.nx b ∈ v.r :: v.bs := by
  have hr := h.ring
  rw [e] at hr
  obtain ⟨l1', l2', e1, e2⟩ := hr.parts
  have h1 : v.g.pv b ∈ v.r :: l1 := by rw [e1]; simp
  have h2 : v.g.nx b ∈ l2 ++ [v.r] := by rw [e2]; simp
  rw [e]
  simp at h1 h2 ⊢
  exact ⟨by rcases h1 with h1 | h1 <;> simp [h1], by rcases h2 with h2 | h2 <;> simp [h2]⟩
theorem move (h : Inv v w) {l1 l2 : List Nat} {b : Nat} (e : v.bs = l1 ++ b :: l2) :
    Calls Try.prog 30 #[.pointer (some (ad b))] w (Ret fun u w1 => u = .tuple #[] ∧ Calls Try.prog 29 #[.pointer (some (ad v.B)), .pointer (some (ad b))] w1 (Ret fun u w2 => u = .tuple #[] ∧ Step v w (v.moved l1 l2 b) w2)) := by
  have hbm : b ∈ v.r :: v.bs := by rw [e]; simp
  have hr := h.ring
  rw [e] at hr
  have hro := hr.out
  obtain ⟨np, nq⟩ := h.nbr e
  have hnd := hr.nodup
  have hbn : b ∉ v.r :: (l1 ++ l2) := by
    have h1 := (List.nodup_cons.1 hnd)
    intro hc
    simp at hc
    have h2 := List.nodup_append.1 h1.2
    rcases hc with hc | hc | hc
    · subst hc; exact h1.1 (by simp)
    · exact h2.2.2 _ hc _ (by simp) rfl
    · exact (List.nodup_cons.1 h2.2.1).1 hc
  have sub : ∀ x, x ∈ v.r :: (l1 ++ l2) → x ∈ v.r :: v.bs := fun x hx => by
    rw [e]; simp at hx ⊢; rcases hx with h1 | h1 | h1 <;> simp [h1]
  refine (out30 h.hn hbm np nq).mono ?_
  rintro _ w1 ⟨_, rfl, rfl, N1, c1⟩
  refine ⟨_, rfl, rfl, ?_⟩
  have B1 := c1.blk h.hv (fun hc => h.neB hc rfl)
  have A1 := c1.blk h.ha (fun hc => h.neA hc rfl)
  refine (last29 (S := (· ∈ v.r :: (l1 ++ l2))) B1 (N1.mono sub) (by simp) (N1 b hbm) hro.pvr hbn).mono ?_
  rintro _ w2 ⟨_, rfl, rfl, N2, c2⟩
  have S2 : ∀ y, y ∈ v.r :: (l1 ++ l2) ∨ y = b → y ∈ v.r :: v.bs := fun y hy => hy.elim (sub y) (fun hc => hc ▸ hbm)
  have mem : ∀ y, y ∈ v.r :: (l1 ++ l2 ++ [b]) ↔ y ∈ v.r :: v.bs := fun y => by rw [e]; simp; constructor <;> (rintro (h1 | h1 | h1 | h1) <;> simp [h1])
  refine ⟨_, rfl, rfl, ⟨⟨c2.blk B1 (fun hc => h.neB (S2 _ hc) rfl), c2.blk A1 (fun hc => h.neA (S2 _ hc) rfl), N2.mono fun y hy => ?_, h.len, hro.last hbn, ?_, ?_, h.small⟩, rfl, rfl, rfl, rfl, ?_, ?_⟩⟩
  · have hy' : y ∈ v.r :: (l1 ++ l2 ++ [b]) := hy
    simp at hy' ⊢
    rcases hy' with h1 | h1 | h1 | h1 <;> simp [h1]
  · intro y hy
    exact h.tabI y (by
      have hy' : y ∈ l1 ++ l2 ++ [b] := hy
      rw [e]; simp at hy' ⊢; rcases hy' with h1 | h1 | h1 <;> simp [h1])
  · intro i y hy
    obtain ⟨h1, h2⟩ := h.tabO i y hy
    refine ⟨?_, h2⟩
    show y ∈ l1 ++ l2 ++ [b]
    rw [e] at h1; simp at h1 ⊢; rcases h1 with h1 | h1 | h1 <;> simp [h1]
  · exact (c1.mono fun k _ hk => .inr (.inr hk)).trans (c2.mono fun k _ hk => .inr (.inr (S2 k hk)))
  · rintro k (hk | hk | hk)
    · exact .inl (.inl hk)
    · exact .inl (.inr (.inl hk))
    · exact .inl (.inr (.inr ((mem k).1 hk)))
theorem hit12 (h : Inv v w) (z : Int) : Calls Try.prog 12 #[.pointer (some (ad v.B)), .int .i64 z] w (Ret fun u w' => u = .bool (hitL v.kind v.line z).1 ∧ ∃ v', Step v w v' w' ∧ v'.line = (hitL v.kind v.line z).2) := by
  refine f12.calls _ _ ?_
  unfold f12.wp
  refine Calls.use (is28 h.hv z) ?_
  rintro _ _ ⟨rfl, rfl⟩
  refine ⟨_, rfl, bc (fun hz => ?_) (fun hz => ?_)⟩
  · have hz' : inR v.n z = false := by simpa using hz
    have hf : has v.line z = false := by
      cases e : has v.line z
      · rfl
      · exfalso
        simp only [Ytnloecggngmcjaa.has, Vi.line, List.any_eq_true, List.mem_map, beq_iff_eq] at e
        obtain ⟨_, ⟨b, hb, rfl⟩, hz⟩ := e
        obtain ⟨j, hj, hr⟩ := h.tabI b hb
        have : j < v.n := by
          rw [← h.len]; rcases Nat.lt_or_ge j v.arr.length with h1 | h1
          · exact h1
          · rw [List.getElem?_eq_none h1] at hj; cases hj
        simp [inR] at hz'
        simp only [hr] at hz
        omega
    simp only [hitL, hf]
    exact ⟨by trivial, v, h.refl, rfl⟩
  have hz' : inR v.n z = true := by simpa using hz
  obtain ⟨i, rfl, hi⟩ := inR_nat hz'
  obtain ⟨o, ho⟩ := h.get hi
  simp only [Int.toNat_natCast]
  refine onPtr_mk ⟨_, _, _, (h.hv.cell0 3).trans rfl, onPtr_mk ⟨by omega, by omega, _, h.cell ho, ptrOk_none _ _, bc (fun hp => ?_) (fun hp => ?_)⟩⟩
  · cases o with
    | some b => simp at hp
    | none =>
      simp only [hitL, h.hasF ho]
      exact ⟨by trivial, v, h.refl, rfl⟩
  cases o with
  | none => simp at hp
  | some b =>
    have hh := (h.has i).2 ⟨b, ho⟩
    obtain ⟨l1, l2, e, e1, e2, e3, er⟩ := h.split ho
    simp only [hitL, hh, if_true]
    refine onPtr_mk ⟨_, _, _, (h.hv.cell0 3).trans rfl, onPtr_mk ⟨by omega, by omega, _, h.cell ho, onPtr_mk ⟨_, (h.hv.cell 0).trans rfl, bc (fun hk => ?_) (fun hk => bc (fun hk3 => ?_) (fun hk3 => ?_))⟩⟩⟩
    · have hk' : v.kind = 2 := by simpa using hk
      refine Calls.use (move h e) ?_
      rintro _ w1 ⟨rfl, hc⟩
      refine ⟨rfl, Calls.use hc ?_⟩
      rintro _ w2 ⟨rfl, hs⟩
      exact ⟨rfl, by trivial, _, hs, by rw [moved_line, if_pos hk', e1, e2]⟩
    · have hk' : v.kind = 3 := by simpa using hk3
      have hbm : b ∈ v.r :: v.bs := by rw [e]; simp
      refine onPtr_mk ⟨h.hn.st hbm (by decide), fun w1 ew => ⟨by trivial, { v with g := { v.g with mr := upd v.g.mr b true } }, ⟨⟨?_, ?_, h.hn.setMk ew, h.len, ⟨h.ring.nodup, h.ring.lk⟩, h.tabI, h.tabO, h.small⟩, rfl, rfl, rfl, rfl, ?_, fun k hk => .inl hk⟩, ?_⟩⟩
      · exact h.hv.far' ew (by rw [add_block]; exact h.neB hbm)
      · exact h.ha.far' ew (by rw [add_block]; exact h.neA hbm)
      · exact Chg.node (Chg.refl _ w) ew (.inl (.inr (.inr hbm)))
      · rw [if_neg (by omega), if_pos hk', e3]
        have hnd := (List.nodup_cons.1 h.ring.nodup).2
        rw [e] at hnd
        have h2 := List.nodup_append.1 hnd
        simp only [Vi.line, e, List.map_append, List.map_cons]
        congr 1
        · exact List.map_congr_left fun y hy => by
            have : y ≠ b := fun hc => h2.2.2 _ (hc ▸ hy) _ (by simp) rfl
            simp [Ring.upd, this]
        · congr 1
          · simp [Ring.upd, er]
          · exact List.map_congr_left fun y hy => by
              have : y ≠ b := fun hc => (List.nodup_cons.1 h2.2.1).1 (hc ▸ hy)
              simp [Ring.upd, this]
    · refine ⟨by trivial, v, h.refl, ?_⟩
      rw [if_neg (by simpa using hk), if_neg (by simpa using hk3)]
theorem free13 (h : Inv v w) (z : Int) : Calls Try.prog 13 #[.pointer (some (ad v.B)), .int .i64 z] w (Ret fun u w' => u = .int .i64 (freeL v.n v.line z).1 ∧ ∃ v', Step v w v' w' ∧ v'.line = (freeL v.n v.line z).2) := by
  refine f13.calls _ _ ?_
  unfold f13.wp
  refine Calls.use (made27 h.hv) ?_
  rintro _ _ ⟨rfl, rfl⟩
  refine ⟨_, rfl, bcF rfl ?_⟩
  refine Calls.use (is28 h.hv z) ?_
  rintro _ _ ⟨rfl, rfl⟩
  refine ⟨_, rfl, bc (fun hz => ?_) (fun hz => ?_)⟩
  · have hz' : inR v.n z = false := by simpa using hz
    simp only [freeL, hz']
    exact ⟨by trivial, v, h.refl, rfl⟩
  have hz' : inR v.n z = true := by simpa using hz
  obtain ⟨i, rfl, hi⟩ := inR_nat hz'
  obtain ⟨o, ho⟩ := h.get hi
  simp only [Int.toNat_natCast]
  refine onPtr_mk ⟨_, _, _, (h.hv.cell0 3).trans rfl, onPtr_mk ⟨by omega, by omega, _, h.cell ho, ptrOk_none _ _, bc (fun hp => ?_) (fun hp => ?_)⟩⟩
  · cases o with
    | some b => simp at hp
    | none =>
      simp only [freeL, hz', h.hasF ho, if_true]
      exact ⟨by trivial, v, h.refl, rfl⟩
  cases o with
  | none => simp at hp
  | some b =>
    have hh := (h.has i).2 ⟨b, ho⟩
    obtain ⟨l1, l2, e, e1, e2, e3, er⟩ := h.split ho
    simp only [freeL, hz', hh, if_true]
    have hbm : b ∈ v.r :: v.bs := by rw [e]; simp
    have hr := h.ring
    rw [e] at hr
    have hro := hr.out
    obtain ⟨np, nq⟩ := h.nbr e
    refine onPtr_mk ⟨_, _, _, (h.hv.cell0 3).trans rfl, onPtr_mk ⟨by omega, by omega, _, h.cell ho, ?_⟩⟩
    refine Calls.use (out30 h.hn hbm np nq) ?_
    rintro _ w1 ⟨rfl, N1, c1⟩
    have B1 := c1.blk h.hv (fun hc => h.neB hc rfl)
    have A1 := c1.blk h.ha (fun hc => h.neA hc rfl)
    refine ⟨rfl, onPtr_mk ⟨_, _, _, (B1.cell0 3).trans rfl, onPtr_mk ⟨by omega, by omega, A1.canStore0 (by simp [h.len]; omega), fun w2 ew => ⟨by trivial, { v with arr := v.arr.set i none, bs := l1 ++ l2, g := v.g.out b }, ⟨⟨?_, arr_set (o := none) A1 ew, ?_, ?_, hro, ?_, ?_, h.small⟩, rfl, rfl, rfl, rfl, ?_, ?_⟩, ?_⟩⟩⟩⟩
    · exact B1.far' ew (by rw [add_block]; exact h.neBA)
    · intro y hy
      have hy' : y ∈ v.r :: (l1 ++ l2) := hy
      have hy2 : y ∈ v.r :: v.bs := by rw [e]; simp at hy' ⊢; rcases hy' with h1 | h1 | h1 <;> simp [h1]
      exact (N1 y hy2).far' ew (by rw [add_block]; exact fun hc => h.neA hy2 hc.symm)
    · show (v.arr.set i none).length = v.n
      simp [h.len]
    · intro y hy
      have hy' : y ∈ l1 ++ l2 := hy
      obtain ⟨j, hj, hrj⟩ := h.tabI y (by rw [e]; simp at hy' ⊢; rcases hy' with h1 | h1 <;> simp [h1])
      have hji : j ≠ i := fun hc => by
        subst hc
        rw [ho] at hj
        simp at hj
        subst hj
        have h1 := (List.nodup_append.1 (List.nodup_cons.1 hr.nodup).2)
        simp at hy'
        rcases hy' with h2 | h2
        · exact h1.2.2 _ h2 _ (by simp) rfl
        · exact (List.nodup_cons.1 h1.2.1).1 h2
      exact ⟨j, by rw [List.getElem?_set_ne hji.symm]; exact hj, hrj⟩
    · intro j y hy
      by_cases hji : j = i
      · subst hji
        simp [h.len, hi] at hy
      · simp only [List.getElem?_set_ne (Ne.symm hji)] at hy
        obtain ⟨h1, h2⟩ := h.tabO j y hy
        refine ⟨?_, h2⟩
        show y ∈ l1 ++ l2
        rw [e] at h1
        have hyb : y ≠ b := fun hc => by subst hc; omega
        simp [hyb] at h1 ⊢
        exact h1
    · exact (c1.mono fun k _ hk => .inr (.inr hk)).sets' ew (.inl (by rw [add_block]; exact .inr (.inl rfl)))
    · rintro k (hk | hk | hk)
      · exact .inl (.inl hk)
      · exact .inl (.inr (.inl hk))
      · have hk' : k ∈ v.r :: (l1 ++ l2) := hk
        exact .inl (.inr (.inr (by rw [e]; simp at hk' ⊢; rcases hk' with h1 | h1 | h1 <;> simp [h1])))
    · rw [e1]; rfl
end
end Go.Proofs.Ytnloecggngmcjaa
