import Derived.Test.YtnloecggngmcjaaEvI
set_option maxRecDepth 20000
namespace Go.Proofs.Ytnloecggngmcjaa
open Go Go.Vc Go.RowKit Go.Vc.Ring
def isM (l : Ln) (z : Int) : Bool := l.any fun e => e.1 == z && e.2
def marksTo (l : Ln) (k : Nat) : List Int := ((List.range k).filter fun (i : Nat) => isM l (i : Int)).map fun (i : Nat) => (i : Int)
theorem marksTo_succ (l : Ln) (k : Nat) : marksTo l (k + 1) = if isM l k then marksTo l k ++ [(k : Int)] else marksTo l k := by
  simp only [marksTo, List.range_succ, List.filter_append, List.map_append]
  split <;> rename_i h <;> simp [h]
theorem marksTo_len (l : Ln) (k : Nat) : (marksTo l k).length ≤ k := by
  simp only [marksTo, List.length_map]
  have := List.length_filter_le (fun i : Nat => isM l (i : Int)) (List.range k)
  simpa using this
section
variable {v : Vi} {w : World}
theorem Inv.markAt (h : Inv v w) {i b : Nat} (hb : v.arr[i]? = some (some b)) : isM v.line i = v.g.mr b := by
  obtain ⟨h1, h2⟩ := h.tabO i b hb
  rw [Bool.eq_iff_iff]
  simp only [isM, Vi.line, List.any_eq_true, List.mem_map, Bool.and_eq_true, beq_iff_eq]
  constructor
  · rintro ⟨_, ⟨y, hy, rfl⟩, e1, e2⟩
    have := h.uniq hy h1 (e1.trans h2.symm)
    subst this
    exact e2
  · intro hm
    exact ⟨_, ⟨b, h1, rfl⟩, h2, hm⟩
theorem isM_has {l : Ln} {z : Int} (h : has l z = false) : isM l z = false := by
  simp only [Ytnloecggngmcjaa.has, isM, List.any_eq_false, Bool.and_eq_true, not_and, beq_iff_eq] at *
  intro e he h1
  exact absurd h1 (h e he)
theorem marks19 (h : Inv v w) : Calls Try.prog 19 #[.pointer (some (ad v.B))] w (Ret fun u w' => (∃ q c, u = .slice q (marksTo v.line v.n).length c) ∧ w'.ownsRow w.heap.size 3 1 u (marksTo v.line v.n).length ((marksTo v.line v.n).map iv) ∧ Chg none_ w w') := by
  have hs2 := h.small
  refine f19.calls _ ?_
  unfold f19.wp
  refine Calls.use (made27 h.hv) ?_
  rintro _ _ ⟨rfl, rfl⟩
  refine ⟨_, rfl, bcF rfl (onPtr_mk ⟨_, _, _, (h.hv.cell0 3).trans rfl, ?_⟩)⟩
  refine ⟨fun q l c x w2 => ∃ i : Nat, x = i ∧ i ≤ v.n ∧ l = (marksTo v.line i).length ∧ w2.ownsRow w.heap.size 3 1 (.slice q l c) l ((marksTo v.line i).map iv) ∧ Chg none_ w w2,
    fun _ _ _ x _ => v.n - x.toNat, ⟨0, rfl, Nat.zero_le _, rfl, World.ownsRow_nil _ _ _ _, Chg.refl _ _⟩, ?_⟩
  rintro q l c x w2 ⟨i, rfl, hi, hl, ho, cg⟩
  have hI := h.chg cg (fun _ _ hf => hf)
  refine bc (fun hlt => ?_) (fun hge => ?_)
  · have hi' : i < v.n := by simpa using hlt
    obtain ⟨o, hoo⟩ := h.get hi'
    simp only [Int.toNat_natCast]
    have hM : v.n - ((i : Int) + 1).toNat < v.n - i := by omega
    rw [wrap1 (by omega) (by omega)]
    have same : isM v.line i = false → ∃ j : Nat, ((i : Int) + 1) = j ∧ j ≤ v.n ∧ l = (marksTo v.line j).length ∧ w2.ownsRow w.heap.size 3 1 (.slice q l c) l ((marksTo v.line j).map iv) ∧ Chg none_ w w2 := fun hf =>
      ⟨i + 1, by omega, hi', by rw [marksTo_succ, hf]; exact hl, by rw [marksTo_succ, hf]; exact ho, cg⟩
    refine onPtr_mk ⟨by omega, by omega, _, hI.cell hoo, ptrOk_none _ _, bc (fun hp => ?_) (fun hp => ?_)⟩
    · cases o with
      | none => simp at hp
      | some b =>
        obtain ⟨hb1, hb2⟩ := h.tabO i b hoo
        have hma := h.markAt hoo
        refine onPtr_mk ⟨_, hI.hn.mr (x := b) (List.mem_cons_of_mem _ hb1), bc (fun hm => ?_) (fun hm => ⟨same (hma.trans hm), hM⟩)⟩
        intro w3 e3
        have c3 := cg.new' e3
        have ho3 := own_chg ho ((Chg.refl none_ w2).new' e3) (fun _ _ hf => hf)
        have hlen := marksTo_len v.line i
        obtain ⟨q', c', w4, hr, ho4, c4, hat⟩ := append1 (P := Try.prog) (t := 36) (ty := 36) (e := 3) (z := .int .i64 0) (bytes := 8) Try.underlying36 (by kernel_rfl) rfl ho3 (new_blk e3) rfl (by simp only [maxLen]; omega) (by omega) c3.size
        have cw : Chg none_ w w4 := c3.trans' c4 (fun k hk => .inr (own_lt ho3 hk.symm).2)
        have e5 : marksTo v.line (i + 1) = marksTo v.line i ++ [(i : Int)] := by rw [marksTo_succ, hma, hm]; rfl
        exact ⟨q', _, c', w4, hr, ⟨i + 1, by omega, hi', by rw [e5, hl]; simp, by rw [e5]; simpa using ho4, cw⟩, hM⟩
    · cases o with
      | some b => simp at hp
      | none => exact ⟨same (isM_has (h.hasF hoo)), hM⟩
  · have hi' : i = v.n := by have : ¬ i < v.n := by simpa using hge
                             omega
    subst hi'
    subst hl
    exact ⟨⟨_, _, rfl⟩, ho, cg⟩
theorem Inv.regsNodup (h : Inv v w) : (v.line.map (·.1)).Nodup := by
  have hn := (List.nodup_cons.1 h.ring.nodup).2
  have : ∀ l : List Nat, l.Nodup → (∀ b ∈ l, b ∈ v.bs) → ((l.map v.f).map (·.1)).Nodup := fun l => by
    induction l with
    | nil => intro _ _; simp
    | cons b l ih =>
      intro hn hs
      have hn' := List.nodup_cons.1 hn
      simp only [List.map_cons, List.nodup_cons]
      refine ⟨fun hc => ?_, ih hn'.2 (fun y hy => hs y (by simp [hy]))⟩
      simp at hc
      obtain ⟨y, hy, he⟩ := hc
      have := h.uniq (hs y (by simp [hy])) (hs b (by simp)) he
      exact hn'.1 (this ▸ hy)
  exact this v.bs hn (fun _ hb => hb)
/-- if all in line are marked, as many are marked as stand in line -/
theorem Inv.allMarked (h : Inv v w) (ha : ∀ e ∈ v.line, e.2 = true) : (marksTo v.line v.n).length = v.line.length := by
  have hn := h.regsNodup
  have e1 : (marksTo v.line v.n).length = ((List.range v.n).filter fun (i : Nat) => isM v.line (i : Int)).length := by simp [marksTo]
  have e2 : v.line.length = (v.line.map fun e => e.1.toNat).length := by simp
  have rg : ∀ e ∈ v.line, ∃ i : Nat, e.1 = i ∧ i < v.n := fun e he => by
    obtain ⟨b, hb, rfl⟩ := List.mem_map.1 he
    obtain ⟨i, hi, hr⟩ := h.tabI b hb
    refine ⟨i, hr, ?_⟩
    rw [← h.len]
    rcases Nat.lt_or_ge i v.arr.length with h1 | h1
    · exact h1
    · rw [List.getElem?_eq_none h1] at hi; cases hi
  have nd : ∀ l : Ln, (∀ e ∈ l, ∃ i : Nat, e.1 = i ∧ i < v.n) → (l.map (·.1)).Nodup → (l.map fun e => e.1.toNat).Nodup := fun l => by
    induction l with
    | nil => intro _ _; simp
    | cons e l ih =>
      intro hr hn
      simp only [List.map_cons, List.nodup_cons] at hn ⊢
      refine ⟨fun hc => hn.1 ?_, ih (fun y hy => hr y (by simp [hy])) hn.2⟩
      obtain ⟨y, hy, he⟩ := List.mem_map.1 hc
      obtain ⟨i, hi, _⟩ := hr _ (List.mem_cons_of_mem _ hy)
      obtain ⟨j, hj, _⟩ := hr e (by simp)
      refine List.mem_map.2 ⟨_, hy, ?_⟩
      omega
  rw [e1, e2]
  apply Nat.le_antisymm
  · refine nodup_le (List.Pairwise.filter _ List.nodup_range) fun i hi => ?_
    have := (List.mem_filter.1 hi).2
    simp only [isM, List.any_eq_true, Bool.and_eq_true, beq_iff_eq] at this
    obtain ⟨e, he, h1, _⟩ := this
    exact List.mem_map.2 ⟨e, he, by omega⟩
  · refine nodup_le (nd v.line rg hn) fun i hi => ?_
    obtain ⟨e, he, hei⟩ := List.mem_map.1 hi
    obtain ⟨j, hj, hjn⟩ := rg e he
    refine List.mem_filter.2 ⟨by simp; omega, ?_⟩
    simp only [isM, List.any_eq_true, Bool.and_eq_true, beq_iff_eq]
    exact ⟨e, he, by omega, ha e he⟩
end
theorem Good.mks {W : World} {B : Nat} {v : Vi} {w : World} (G : Good W B v w) : Calls Try.prog 19 #[.pointer (some (ad B))] w (Ret fun u w' => (∃ q c, u = .slice q (marksTo v.line v.n).length c) ∧ w'.ownsRow w.heap.size 3 1 u (marksTo v.line v.n).length ((marksTo v.line v.n).map iv) ∧ Chg none_ w w' ∧ Good W B v w') := by
  have e := G.B
  subst e
  exact Calls.mono (marks19 G.inv) fun _ _ ⟨u, h1, h2, h3, h4⟩ => ⟨u, h1, h2, h3, h4, G.next h4⟩
end Go.Proofs.Ytnloecggngmcjaa
