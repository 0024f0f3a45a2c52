import Derived.Test.YtnloecggngmcjaaEvE
set_option maxRecDepth 20000
namespace Go.Proofs.Ytnloecggngmcjaa
open Go Go.Vc Go.RowKit Go.Vc.Ring
section
variable {v : Vi} {w : World}
def Vi.marked (v : Vi) (b : Nat) (m : Bool) : Vi := { v with g := { v.g with mr := upd v.g.mr b m } }
theorem setMark (h : Inv v w) {b : Nat} (hb : b ∈ v.bs) {m : Bool} {w1 : World} (ew : w1 = setCells ((ad b).add 3) 0 [.bool m] w) : Step v w (v.marked b m) w1 := by
  have hbm : b ∈ v.r :: v.bs := by simp [hb]
  refine ⟨⟨?_, ?_, h.hn.setMk ew, h.len, ⟨h.ring.nodup, h.ring.lk⟩, h.tabI, h.tabO, h.small⟩, rfl, rfl, rfl, rfl, ?_, fun k hk => .inl hk⟩
  · exact h.hv.far' ew (by rw [add_block]; exact h.neB hbm)
  · exact h.ha.far' ew (by rw [add_block]; exact h.neA hbm)
  · exact Chg.node (Chg.refl _ w) ew (.inl (.inr (.inr hbm)))
theorem countP_less {α : Type} {p q : α → Bool} : ∀ {l : List α}, (∀ b ∈ l, q b = true → p b = true) → (∃ b ∈ l, p b = true ∧ q b = false) → l.countP q < l.countP p
  | [], _, h => by obtain ⟨_, h, _⟩ := h; cases h
  | x :: l, h1, ⟨b, hb, hp, hq⟩ => by
    have hle : l.countP q ≤ l.countP p := List.countP_mono_left fun y hy => h1 y (List.mem_cons_of_mem _ hy)
    rcases List.mem_cons.1 hb with rfl | hb
    · simp [hp, hq]; omega
    · have := countP_less (fun y hy => h1 y (List.mem_cons_of_mem _ hy)) ⟨b, hb, hp, hq⟩
      have hx := h1 x (by simp)
      cases e : q x
      · simp only [List.countP_cons, e]; simp; omega
      · simp only [List.countP_cons, e, hx e]; simp; omega
theorem rot_step (z : Int) (l : Ln) : rotL ((z, true) :: l) = rotL (l ++ [(z, false)]) := by
  have key : ∀ l : Ln, (l ++ [(z, false)]).dropWhile (·.2) = l.dropWhile (·.2) ++ [(z, false)] ∧ (l ++ [(z, false)]).takeWhile (·.2) = l.takeWhile (·.2) := by
    intro l
    induction l with
    | nil => simp
    | cons e l ih => by_cases he : e.2 = true <;> simp [he, ih]
  simp only [rotL, List.dropWhile_cons, List.takeWhile_cons, if_true, key, List.map_cons, List.append_assoc, List.singleton_append]
def isT : Option Value → Bool
  | some (.bool b) => b
  | _ => false
def nextL (l : Ln) : Int × Bool := match rotL l with | [] => (0, false) | e :: _ => (e.1, true)
theorem next14 (h : Inv v w) : Calls Try.prog 14 #[.pointer (some (ad v.B))] w (Ret fun u w' => u = .tuple #[.int .i64 (nextL v.line).1, .bool (nextL v.line).2] ∧ ∃ v', Step v w v' w' ∧ v'.line = rotL v.line) := by
  refine f14.calls _ ?_
  unfold f14.wp
  have s0 : Step v w v w.drew := ⟨h.drew, rfl, rfl, rfl, rfl, (Chg.refl _ w).drew, fun _ hk => .inl hk⟩
  have h' := h.drew
  clear h
  generalize w.drew = w0 at *
  refine ⟨fun _ => True, Calls.use (made27 h'.hv) ?_⟩
  rintro _ _ ⟨rfl, rfl⟩
  have nr := h'.hn (x := v.r) (by simp)
  have hq : v.g.nx v.r ∈ v.r :: v.bs := by
    rw [h'.ring.nxr]; cases v.bs <;> simp
  refine ⟨_, rfl, fun _ _ => rfl, bcF rfl (onPtr_mk ⟨_, trivial, (h'.hv.cell0 2).trans rfl, onPtr_mk ⟨_, trivial, h'.hn.nx (x := v.r) (by simp), onPtr_mk ⟨_, trivial, (h'.hv.cell0 2).trans rfl, ptrOk_blk (h'.hn _ hq) nr (by simp [G.nd, ndA]) (by simp [G.nd, ndA]), bc (fun he => ?_) (fun he => ?_)⟩⟩⟩)⟩
  · have hb : v.bs = [] := by
      have hn := h'.ring.nodup
      rw [h'.ring.nxr] at he
      cases hbs : v.bs with
      | nil => rfl
      | cons b l =>
        rw [hbs] at hn he
        simp at he
        subst he
        exact absurd hn (by simp)
    have : v.line = [] := by simp [Vi.line, hb]
    exact ⟨by simp [nextL, rotL, this], v, s0, by simp [rotL, this]⟩
  have hbs : v.bs ≠ [] := fun hb => by
    rw [h'.ring.nxr, hb] at he; simp at he
  clear he nr hq
  refine ⟨fun w2 => ∃ v', Step v w v' w2 ∧ rotL v'.line = rotL v.line ∧ v'.r = v.r ∧ (∀ b, b ∈ v'.bs ↔ b ∈ v.bs), fun w2 => v.bs.countP fun b => isT (w2.cell? ((ad b).add 3)), ⟨v, s0, rfl, rfl, fun _ => Iff.rfl⟩, ?_⟩
  clear h' s0 w0
  rintro w2 ⟨v', s, hrot, hr, hmem⟩
  have h := s.inv
  have hB := s.B
  cases hb' : v'.bs with
  | nil =>
    exfalso
    cases hv : v.bs with
    | nil => exact hbs hv
    | cons b l => have := (hmem b).2 (by rw [hv]; simp); rw [hb'] at this; simp at this
  | cons b tl =>
    have hnx : v'.g.nx v'.r = b := by rw [h.ring.nxr, hb']; rfl
    have hbm : b ∈ v'.bs := by rw [hb']; simp
    have hbm' : b ∈ v'.r :: v'.bs := by simp [hbm]
    have c1 := h.hv.cell0 2
    have c2 := h.hn.nx (x := v'.r) (by simp)
    rw [hnx] at c2
    rw [hB] at c1
    refine onPtr_mk ⟨_, c1.trans rfl, onPtr_mk ⟨_, c2, onPtr_mk ⟨_, h.hn.mr hbm', bc (fun hm => ?_) (fun hm => ?_)⟩⟩⟩
    · refine onPtr_mk ⟨_, c1.trans rfl, onPtr_mk ⟨_, c2, onPtr_mk ⟨h.hn.st hbm' (by decide), fun w3 ew => ?_⟩⟩⟩
      have s3 := setMark h hbm ew
      refine Calls.use (move (l1 := []) s3.inv (by rw [← List.nil_append (b :: tl)] at hb'; exact hb')) ?_
      rintro _ w4 ⟨rfl, hc⟩
      refine ⟨rfl, ?_⟩
      have e1 : (v'.marked b false).B = v.B := hB
      rw [e1] at hc
      refine Calls.use hc ?_
      rintro _ w5 ⟨rfl, s5⟩
      have s6 := s3.trans s5
      have hl : v'.line = (v'.g.rg b, true) :: tl.map v'.f := by simp [Vi.line, hb', hm]
      have hnd := (List.nodup_cons.1 h.ring.nodup).2
      rw [hb'] at hnd
      have hl5 : ((v'.marked b false).moved [] tl b).line = tl.map v'.f ++ [(v'.g.rg b, false)] := by
        rw [moved_line]
        congr 1
        · exact List.map_congr_left fun y hy => by
            have : y ≠ b := fun hc => (List.nodup_cons.1 hnd).1 (hc ▸ hy)
            simp [Vi.marked, Ring.upd, this]
        · simp [Vi.marked, Ring.upd]
      have hm5 : ∀ y, y ∈ ((v'.marked b false).moved [] tl b).bs ↔ y ∈ v.bs := fun y => by
        rw [← hmem y, hb']
        show y ∈ [] ++ tl ++ [b] ↔ _
        simp; exact Or.comm
      refine ⟨rfl, ⟨_, s.trans s6, by rw [hl5, ← rot_step, ← hl, hrot], hr, hm5⟩, ?_⟩
      refine countP_less (fun y hy hq => ?_) ⟨b, (hmem b).1 hbm, ?_, ?_⟩
      · have hy5 := (hm5 y).2 hy
        have m5 := s5.inv.hn.mr (x := y) (List.mem_cons_of_mem _ hy5)
        have m2 := h.hn.mr (x := y) (List.mem_cons_of_mem _ ((hmem y).2 hy))
        have hq' : isT (w5.cell? ((ad y).add 3)) = true := hq
        show isT (w2.cell? ((ad y).add 3)) = true
        clear hq
        rw [m5] at hq'
        rw [m2]
        simp [Vi.moved, Vi.marked, G.last, G.out, Ring.upd, isT] at hq' ⊢
        by_cases hyb : y = b
        · simp [hyb] at hq'
        · simpa [hyb] using hq'
      · show isT (w2.cell? _) = true
        rw [h.hn.mr hbm']; simp [hm, isT]
      · show isT (w5.cell? _) = false
        rw [s5.inv.hn.mr (x := b) (List.mem_cons_of_mem _ ((hm5 b).2 ((hmem b).1 hbm)))]
        simp [Vi.moved, Vi.marked, G.last, G.out, Ring.upd, isT]
    · have hl : v'.line = (v'.g.rg b, false) :: tl.map v'.f := by simp [Vi.line, hb', hm]
      have hrl : rotL v.line = v'.line := by rw [← hrot, hl]; simp [rotL]
      refine onPtr_mk ⟨_, c1.trans rfl, onPtr_mk ⟨_, c2, onPtr_mk ⟨_, h.hn.rg hbm', ?_, v', s, hrl.symm⟩⟩⟩
      rw [nextL, hrl, hl]
end
end Go.Proofs.Ytnloecggngmcjaa
