import Derived.Test.YtnloecggngmcjaaEvC
set_option maxRecDepth 20000
namespace Go.Proofs.Ytnloecggngmcjaa
open Go Go.Vc Go.RowKit Go.Vc.Ring
theorem arr_set {w w1 : World} {A : Nat} {arr : List (Option Nat)} {i : Nat} {o : Option Nat} (h : Blk w A 50 (arr.map po).toArray) (e : w1 = setCells ((ad A).add (i * 1)) 0 [po o] w) : Blk w1 A 50 ((arr.set i o).map po).toArray := by
  rw [Nat.mul_one, add_mk, Nat.zero_add] at e
  have := h.sets' e
  rw [Nat.add_zero, putC, putC] at this
  have e2 : (arr.map po).toArray.setIfInBounds i (po o) = ((arr.set i o).map po).toArray := by simp [List.map_set]
  rw [← e2]; exact this
theorem inR_nat {n : Nat} {z : Int} (h : inR n z = true) : ∃ i : Nat, z = i ∧ i < n := by
  simp [inR] at h
  exact ⟨z.toNat, by omega, by omega⟩
section
variable {v : Vi} {w : World}
theorem Inv.get (h : Inv v w) {i : Nat} (hi : i < v.n) : ∃ o, v.arr[i]? = some o := ⟨v.arr[i]'(by rw [h.len]; exact hi), List.getElem?_eq_getElem _⟩
theorem Inv.hasF (h : Inv v w) {i : Nat} (hb : v.arr[i]? = some none) : Ytnloecggngmcjaa.has v.line i = false := by
  cases e : Ytnloecggngmcjaa.has v.line i
  · rfl
  · obtain ⟨b, hb'⟩ := (h.has i).1 e
    rw [hb] at hb'; cases hb'
theorem line_last (g : G) (r x : Nat) (bs : List Nat) : (bs.map fun b => ((g.last r x).rg b, (g.last r x).mr b)) = bs.map fun b => (g.rg b, g.mr b) := rfl
theorem seal11 (h : Inv v w) (z : Int) : Calls Try.prog 11 #[.pointer (some (ad v.B)), .int .i64 z] w (Ret fun u w' => u = .int .i64 (sealL v.n v.line z).1 ∧ ∃ v', Step v w v' w' ∧ v'.line = (sealL v.n v.line z).2) := by
  refine f11.calls _ _ ?_
  unfold f11.wp
  refine Calls.use (made27 h.hv) ?_
  rintro _ _ ⟨rfl, rfl⟩
  refine ⟨_, rfl, bcF rfl ?_⟩
  refine Calls.use (is28 h.hv z) ?_
  rintro _ _ ⟨rfl, rfl⟩
  refine ⟨_, rfl, bc (fun hz => ?_) (fun hz => ?_)⟩
  · have hz' : inR v.n z = false := by simpa using hz
    simp only [sealL, hz']
    exact ⟨by trivial, v, h.refl, rfl⟩
  have hz' : inR v.n z = true := by simpa using hz
  obtain ⟨i, rfl, hi⟩ := inR_nat hz'
  obtain ⟨o, ho⟩ := h.get hi
  simp only [Int.toNat_natCast]
  refine onPtr_mk ⟨_, _, _, (h.hv.cell0 3).trans rfl, onPtr_mk ⟨by omega, by omega, _, h.cell ho, ptrOk_none _ _, bc (fun hp => ?_) (fun hp => ?_)⟩⟩
  · cases o with
    | none => simp at hp
    | some b =>
      have := (h.has i).2 ⟨b, ho⟩
      simp only [sealL, hz', this, if_true]
      exact ⟨by trivial, v, h.refl, rfl⟩
  cases o with
  | some b => simp at hp
  | none =>
    have hf := h.hasF ho
    simp only [sealL, hz', hf, if_true]
    clear hp
    refine onPtr_mk ⟨_, _, _, (h.hv.cell0 3).trans rfl, fun w1 e1 => onPtr_mk ⟨by omega, by omega, ?_⟩⟩
    have xn : ∀ k, v.own k → k ≠ w.heap.size := fun k hk => by have := h.lt hk; omega
    have X1 := new_blk e1
    have A1 := h.ha.new' e1
    have B1 := h.hv.new' e1
    have N1 := h.hn.new' e1
    have c1 := (Chg.refl v.own w).new' e1
    generalize hx : w.heap.size = x at *
    refine ⟨A1.canStore0 (by simp [h.len]; omega), fun w2 e2 => ?_⟩
    have A2 := arr_set (o := some x) A1 e2
    have nA : ∀ y, y ∈ v.r :: v.bs → y ≠ ((ad v.A).add (i * 1)).block := fun y hy e => by rw [add_block] at e; exact h.neA hy e.symm
    have X2 := X1.far' e2 (by rw [add_block]; exact (xn _ (.inr (.inl rfl))).symm)
    have B2 := B1.far' e2 (by rw [add_block]; exact h.neBA)
    have N2 : Nodes 60 w2 (· ∈ v.r :: v.bs) v.g := fun y hy => (N1 y hy).far' e2 (nA y hy)
    have c2 := c1.sets' e2 (.inl (by rw [add_block]; exact .inr (.inl rfl)))
    clear e1 e2 A1 B1 N1 X1 c1
    refine onPtr_mk ⟨_, _, _, (B2.cell0 3).trans rfl, onPtr_mk ⟨by omega, by omega, some (ad x), ?_, ?_⟩⟩
    · rw [Nat.mul_one, A2.cell0]; simp [h.len, hi]
    let g0 : G := { v.g with rg := upd v.g.rg x i, mr := upd v.g.mr x false }
    have N2' : Nodes 60 w2 (· ∈ v.r :: v.bs) g0 := fun y hy => by
      have hyx : y ≠ x := xn y (.inr (.inr hy))
      have := N2 y hy
      simpa [G.nd, g0, Ring.upd, hyx] using this
    have hxn : x ∉ v.r :: v.bs := fun hc => xn x (.inr (.inr hc)) rfl
    refine Calls.use (last29 (g := g0) (S := (· ∈ v.r :: v.bs)) (x := x) B2 N2' (by simp) (by simpa [g0, Ring.upd] using X2) (h.ring.pvr) hxn) ?_
    rintro _ w3 ⟨rfl, N3, c3⟩
    refine ⟨rfl, by trivial, { v with arr := v.arr.set i (some x), bs := v.bs ++ [x], g := g0.last v.r x }, ⟨⟨?_, ?_, ?_, ?_, ?_, ?_, ?_, h.small⟩, rfl, rfl, rfl, rfl, ?_, ?_⟩, ?_⟩
    · exact c3.blk B2 (by rintro (hc | hc); exact h.neB hc rfl; exact xn _ (.inl rfl) hc)
    · exact c3.blk A2 (by rintro (hc | hc); exact h.neA hc rfl; exact xn _ (.inr (.inl rfl)) hc)
    · exact N3.mono fun y hy => by
        have hy' : y ∈ v.r :: (v.bs ++ [x]) := hy
        simp at hy' ⊢
        rcases hy' with h1 | h1 | h1 <;> simp [h1]
    · simp [h.len]
    · exact Ring.last (g := g0) ⟨h.ring.nodup, h.ring.lk⟩ hxn
    · intro b hb
      simp only [List.mem_append, List.mem_singleton] at hb
      rcases hb with hb | rfl
      · obtain ⟨j, hj, hr⟩ := h.tabI b hb
        have hji : j ≠ i := fun e => by subst e; rw [ho] at hj; cases hj
        have hbx : b ≠ x := xn b (.inr (.inr (List.mem_cons_of_mem _ hb)))
        exact ⟨j, by rw [List.getElem?_set_ne hji.symm]; exact hj, by simp [G.last, g0, Ring.upd, hbx, hr]⟩
      · exact ⟨i, by simp [h.len, hi], by simp [G.last, g0, Ring.upd]⟩
    · intro j b hj
      by_cases hji : j = i
      · subst hji
        simp [h.len, hi] at hj
        subst hj
        exact ⟨by simp, by simp [G.last, g0, Ring.upd]⟩
      · simp only [List.getElem?_set_ne (Ne.symm hji)] at hj
        obtain ⟨h1, h2⟩ := h.tabO j b hj
        have hbx : b ≠ x := xn b (.inr (.inr (List.mem_cons_of_mem _ h1)))
        exact ⟨by simp [h1], by simp [G.last, g0, Ring.upd, hbx, h2]⟩
    · exact c2.trans' c3 (by
        rintro k (hk | rfl)
        · exact .inl (.inr (.inr hk))
        · exact .inr (by omega))
    · rintro k (hk | hk | hk)
      · exact .inl (.inl hk)
      · exact .inl (.inr (.inl hk))
      · have hk' : k ∈ v.r :: (v.bs ++ [x]) := hk
        simp at hk'
        rcases hk' with h1 | h1 | h1
        · exact .inl (.inr (.inr (by simp [h1])))
        · exact .inl (.inr (.inr (by simp [h1])))
        · exact .inr (by omega)
    · simp only [Vi.line, List.map_append, List.map_cons, List.map_nil, Bool.false_eq_true, if_false]
      congr 1
      · apply List.map_congr_left
        intro b hb
        have hbx : b ≠ x := xn b (.inr (.inr (List.mem_cons_of_mem _ hb)))
        simp [G.last, g0, Ring.upd, hbx]
      · simp [G.last, g0, Ring.upd]
end
end Go.Proofs.Ytnloecggngmcjaa
