import Derived.Test.YtdlbmmodlkmofaaGreatDoorPzB
set_option maxRecDepth 20000
namespace Go.Proofs.YtdlbmmodlkmofaaGreatDoor
open Go Go.Vc Go.RowKit
/-! # the geometry -/
def pw (lo hi x : Int) : Bool := (List.range 13).any fun k => x == lo * 2 ^ k && decide (x ≤ hi)
def pbit (x : Int) : Bool := (IntKind.wrap .i64 (((BitVec.ofInt (IntKind.bits .i64) x &&& BitVec.ofInt (IntKind.bits .i64) (IntKind.wrap .i64 (x - 1))).toNat : Nat) : Int) : Int) == 0
theorem pbit_all : ((List.range 4097).all fun n => (decide (1 ≤ n) && pbit n) == (List.range 13).any (fun k => n == 2 ^ k) && ((decide (16 ≤ n) && pbit n) == (List.range 13).any (fun k => n == 16 * 2 ^ k && decide (n ≤ 4096)))) = true := by kernel_rfl
theorem pbit_pw {lo hi x : Int} (hlo : lo = 1 ∨ lo = 16) (hh : hi ≤ 4096) (h1 : lo ≤ x) (h2 : x ≤ hi) : pbit x = pw lo hi x := by
  obtain ⟨n, rfl⟩ : ∃ n : Nat, x = (n : Int) := ⟨x.toNat, by rcases hlo with h | h <;> omega⟩
  have := (List.all_eq_true.1 pbit_all) n (List.mem_range.2 (by omega))
  simp only [Bool.and_eq_true, beq_iff_eq] at this
  obtain ⟨a, b⟩ := this
  rcases hlo with rfl | rfl
  · rw [show decide (1 ≤ n) = true by simp; omega, Bool.true_and] at a
    rw [a, pw]
    congr 1; funext k
    rw [Int.one_mul, show decide ((n : Int) ≤ hi) = true by simp; omega, Bool.and_true, Bool.eq_iff_iff]
    simp only [beq_iff_eq]
    norm_cast
  · rw [show decide (16 ≤ n) = true by simp; omega, Bool.true_and] at b
    rw [b, pw]
    congr 1; funext k
    rw [show decide ((n : Int) ≤ hi) = true by simp; omega, show decide (n ≤ 4096) = true by simp; omega, Bool.and_true, Bool.and_true, Bool.eq_iff_iff]
    simp only [beq_iff_eq]
    norm_cast
theorem pw_lo {lo hi x : Int} (h0 : 0 ≤ lo) (h : pw lo hi x = true) : lo ≤ x ∧ x ≤ hi := by
  simp only [pw, List.any_eq_true, List.mem_range, Bool.and_eq_true, beq_iff_eq, decide_eq_true_eq] at h
  obtain ⟨k, _, hk, h2⟩ := h
  refine ⟨?_, h2⟩
  rw [hk]
  have : (1 : Int) ≤ 2 ^ k := by have := Nat.one_le_two_pow (n := k); exact_mod_cast this
  calc lo = lo * 1 := (Int.mul_one lo).symm
    _ ≤ lo * 2 ^ k := Int.mul_le_mul_of_nonneg_left this h0
theorem power72 (w : World) {x lo hi : Int} (hlo : lo = 1 ∨ lo = 16) (hh : hi ≤ 4096) :
    Calls Tryz.prog 50 #[.int .i64 x, .int .i64 lo, .int .i64 hi] w (Ret fun v w' => v = .bool (pw lo hi x) ∧ w = w') := by
  refine f50.calls _ _ _ ?_
  unfold f50.wp
  have h0 : 0 ≤ lo := by rcases hlo with h | h <;> omega
  have hf : ¬ (lo ≤ x ∧ x ≤ hi) → pw lo hi x = false := fun h => by
    cases hb : pw lo hi x with
    | false => rfl
    | true => exact absurd (pw_lo h0 hb) h
  refine bc (fun h1 => bc (fun h2 => ⟨?_, rfl⟩) (fun h2 => ⟨?_, rfl⟩)) (fun h1 => ⟨?_, rfl⟩)
  · exact congrArg Value.bool (pbit_pw hlo hh (of_decide_eq_true h1) (of_decide_eq_true h2))
  · rw [hf fun h => of_decide_eq_false h2 h.2]
  · rw [hf fun h => of_decide_eq_false h1 h.1]
theorem power81 (w : World) {x lo hi : Int} (hlo : lo = 1 ∨ lo = 16) (hh : hi ≤ 4096) :
    Calls Tryz.prog 55 #[.int .i64 x, .int .i64 lo, .int .i64 hi] w (Ret fun v w' => v = .bool (pw lo hi x) ∧ w = w') := by
  refine f55.calls _ _ _ ?_
  unfold f55.wp
  refine ⟨fun y w' => w = w' ∧ ∃ k : Nat, y = lo * 2 ^ k ∧ y ≤ 8192 ∧ ∀ j, j < k → x ≠ lo * 2 ^ j, fun y _ => (8193 - y).toNat, ⟨rfl, 0, by simp, by rcases hlo with h | h <;> omega, fun j hj => by omega⟩, ?_⟩
  rintro y _ ⟨rfl, k, rfl, hy, hk⟩
  have hp : (1 : Int) ≤ 2 ^ k := by have := Nat.one_le_two_pow (n := k); exact_mod_cast this
  have hpos : 1 ≤ lo * 2 ^ k := by rcases hlo with rfl | rfl <;> omega
  refine bc (fun h1 => bc (fun h2 => ⟨?_, rfl⟩) (fun h2 => ?_)) (fun h1 => ⟨?_, rfl⟩)
  · have h1 : lo * 2 ^ k ≤ hi := of_decide_eq_true h1
    have h2 : x = lo * 2 ^ k := by simpa using h2
    have hk13 : k < 13 := by
      rcases Nat.lt_or_ge k 13 with h | h
      · exact h
      · have : (2 : Int) ^ 13 ≤ 2 ^ k := by exact_mod_cast Nat.pow_le_pow_right (by decide) h
        rcases hlo with rfl | rfl <;> omega
    refine congrArg Value.bool (Eq.symm ?_)
    simp only [pw, List.any_eq_true, List.mem_range, Bool.and_eq_true, beq_iff_eq, decide_eq_true_eq]
    exact ⟨k, hk13, h2, by omega⟩
  · have h1 : lo * 2 ^ k ≤ hi := of_decide_eq_true h1
    have h2 : x ≠ lo * 2 ^ k := by simpa using h2
    have e : lo * 2 ^ (k + 1) = lo * 2 ^ k * 2 := by rw [Int.pow_succ, Int.mul_assoc]
    generalize hu : lo * 2 ^ k = u at *
    rw [wrapS (x := u * 2) (by omega) (by omega)]
    refine ⟨⟨rfl, k + 1, e.symm, by omega, fun j hj => ?_⟩, ?_⟩
    · rcases Nat.lt_or_ge j k with h | h
      · exact hk j h
      · have : j = k := by omega
        subst this
        rw [hu]; exact h2
    · show (8193 - u * 2).toNat < (8193 - u).toNat
      omega
  · have h1 : ¬ lo * 2 ^ k ≤ hi := of_decide_eq_false h1
    refine congrArg Value.bool (Eq.symm ?_)
    rw [← Bool.not_eq_true]
    simp only [pw, List.any_eq_true, List.mem_range, Bool.and_eq_true, beq_iff_eq, decide_eq_true_eq]
    rintro ⟨j, hj, hx, hxh⟩
    rcases Nat.lt_or_ge j k with h | h
    · exact hk j h hx
    · have : (2 : Int) ^ k ≤ 2 ^ j := by exact_mod_cast Nat.pow_le_pow_right (by decide) h
      have : lo * 2 ^ k ≤ lo * 2 ^ j := Int.mul_le_mul_of_nonneg_left this (by rcases hlo with h | h <;> omega)
      omega
/-- a geometry that may be -/
def gB (g : Gm) : Bool := pw 16 4096 g.page && decide (1 ≤ g.pages) && decide (g.pages ≤ 64) && decide (2 ≤ g.regions) && decide (g.regions ≤ 256) && pw 1 g.page g.align && decide (128 ≤ g.page * g.pages) && decide (g.page * g.pages * g.regions ≤ 1048576) && decide (g.align + 48 ≤ g.page * g.pages)
def gC (g : Gm) : Int := if gB g then 0 else 20
theorem gC_bad {g : Gm} (h : gB g = false) : gC g = 20 := by simp [gC, h]
theorem gC_good {g : Gm} (h : gB g = true) : gC g = 0 := by simp [gC, h]
theorem prods {page pages regions : Int} (h1 : 16 ≤ page) (h2 : page ≤ 4096) (h3 : 1 ≤ pages) (h4 : pages ≤ 64) (h5 : 2 ≤ regions) (h6 : regions ≤ 256) :
    0 ≤ page * pages ∧ page * pages ≤ 262144 ∧ 0 ≤ page * pages * regions ∧ page * pages * regions ≤ 67108864 := by
  have a : page * pages ≤ 4096 * 64 := Int.mul_le_mul h2 h4 (by omega) (by omega)
  have b : 0 ≤ page * pages := Int.mul_nonneg (by omega) (by omega)
  have c : page * pages * regions ≤ 262144 * 256 := Int.mul_le_mul (by omega) h6 (by omega) (by omega)
  have d : 0 ≤ page * pages * regions := Int.mul_nonneg b (by omega)
  omega
theorem geom46 (w : World) (g : Gm) : Calls Tryz.prog 30 #[.agg (gv g).toArray] w (Ret fun v w' => v = .int .i64 (gC g) ∧ Chg none_ w w') := by
  refine f30.calls _ _ _ _ ?_
  unfold f30.wp
  refine newBox fun w1 B k _ => ⟨_, (B.cell 0).trans rfl, Calls.use (power81 w1 (Or.inr rfl) (by decide)) ?_⟩
  rintro _ _ ⟨rfl, rfl⟩
  have bad : ∀ {P : Prop}, (gB g = true → P) → ¬ P → Value.int .i64 20 = .int .i64 (gC g) := fun h hp => by
    rw [gC_bad]
    cases hg : gB g with
    | false => rfl
    | true => exact absurd (h hg) hp
  have split : gB g = true → pw 16 4096 g.page = true ∧ 1 ≤ g.pages ∧ g.pages ≤ 64 ∧ 2 ≤ g.regions ∧ g.regions ≤ 256 ∧ pw 1 g.page g.align = true ∧ 128 ≤ g.page * g.pages ∧ g.page * g.pages * g.regions ≤ 1048576 ∧ g.align + 48 ≤ g.page * g.pages := fun h => by
    simp only [gB, Bool.and_eq_true, decide_eq_true_eq] at h
    obtain ⟨⟨⟨⟨⟨⟨⟨⟨a, b⟩, c⟩, d⟩, e⟩, f⟩, g'⟩, i⟩, j⟩ := h
    exact ⟨a, b, c, d, e, f, g', i, j⟩
  refine ⟨_, rfl, bc (fun hb => ⟨bad (fun h => (split h).1) (by simpa using hb), k⟩) (fun hb => ?_)⟩
  have hb : pw 16 4096 g.page = true := by simpa using hb
  have hp := pw_lo (by decide) hb
  refine ⟨_, (B.cell0 1).trans rfl, bc (fun h => ⟨bad (fun h => (split h).2.1) (by have := of_decide_eq_true h; omega), k⟩) (fun h1 => ?_)⟩
  refine ⟨_, (B.cell0 1).trans rfl, bc (fun h => ⟨bad (fun h => (split h).2.2.1) (by have := of_decide_eq_true h; omega), k⟩) (fun h2 => ?_)⟩
  refine ⟨_, (B.cell0 2).trans rfl, bc (fun h => ⟨bad (fun h => (split h).2.2.2.1) (by have := of_decide_eq_true h; omega), k⟩) (fun h3 => ?_)⟩
  refine ⟨_, (B.cell0 2).trans rfl, bc (fun h => ⟨bad (fun h => (split h).2.2.2.2.1) (by have := of_decide_eq_true h; omega), k⟩) (fun h4 => ?_)⟩
  refine ⟨_, (B.cell0 3).trans rfl, _, (B.cell 0).trans rfl, Calls.use (power81 w1 (Or.inl rfl) hp.2) ?_⟩
  rintro _ _ ⟨rfl, rfl⟩
  refine ⟨_, rfl, bc (fun hb => ⟨bad (fun h => (split h).2.2.2.2.2.1) (by simpa using hb), k⟩) (fun h5 => ?_)⟩
  have h5 : pw 1 g.page g.align = true := by simpa using h5
  have ha := pw_lo (by decide) h5
  have h1 := of_decide_eq_false h1
  have h2 := of_decide_eq_false h2
  have h3 := of_decide_eq_false h3
  have h4 := of_decide_eq_false h4
  obtain ⟨p1, p2, p3, p4⟩ := prods (pages := g.pages) (regions := g.regions) hp.1 hp.2 (by omega) (by omega) (by omega) (by omega)
  have e1 := wrapS (x := g.page * g.pages) (by omega) (by omega)
  have e2 := wrapS (x := g.page * g.pages - 48) (by omega) (by omega)
  have e3 := wrapS (x := g.page * g.pages * g.regions) (by omega) (by omega)
  refine ⟨_, (B.cell 0).trans rfl, _, (B.cell0 1).trans rfl, ?_⟩
  rw [e1]
  refine bc (fun h => ⟨bad (fun h => (split h).2.2.2.2.2.2.1) (by have := of_decide_eq_true h; omega), k⟩) (fun h6 => ?_)
  refine ⟨_, (B.cell 0).trans rfl, _, (B.cell0 1).trans rfl, _, (B.cell0 3).trans rfl, ?_⟩
  rw [e1, e2]
  refine bc (fun h => ⟨bad (fun h => (split h).2.2.2.2.2.2.2.2) (by have := of_decide_eq_true h; omega), k⟩) (fun h7 => ?_)
  refine ⟨_, (B.cell 0).trans rfl, _, (B.cell0 1).trans rfl, _, (B.cell0 2).trans rfl, ?_⟩
  rw [e1, e3]
  refine bc (fun h => ⟨bad (fun h => (split h).2.2.2.2.2.2.2.1) (by have := of_decide_eq_true h; omega), k⟩) (fun h8 => ⟨?_, k⟩)
  have h6 := of_decide_eq_false h6
  have h7 := of_decide_eq_false h7
  have h8 := of_decide_eq_false h8
  rw [gC_good]
  simp only [gB, Bool.and_eq_true, decide_eq_true_eq]
  refine ⟨⟨⟨⟨⟨⟨⟨⟨hb, ?_⟩, ?_⟩, ?_⟩, ?_⟩, h5⟩, ?_⟩, ?_⟩, ?_⟩ <;> omega
theorem geom35 (w : World) (g : Gm) : Calls Tryz.prog 27 #[.agg (gv g).toArray] w (Ret fun v w' => v = .int .i64 (gC g) ∧ Chg none_ w w') := by
  refine f27.calls _ _ _ _ ?_
  unfold f27.wp
  have bad : ∀ {P : Prop}, (gB g = true → P) → ¬ P → Value.int .i64 20 = .int .i64 (gC g) := fun h hp => by
    rw [gC_bad]
    cases hg : gB g with
    | false => rfl
    | true => exact absurd (h hg) hp
  have split : gB g = true → pw 16 4096 g.page = true ∧ 1 ≤ g.pages ∧ g.pages ≤ 64 ∧ 2 ≤ g.regions ∧ g.regions ≤ 256 ∧ pw 1 g.page g.align = true ∧ 128 ≤ g.page * g.pages ∧ g.page * g.pages * g.regions ≤ 1048576 ∧ g.align + 48 ≤ g.page * g.pages := fun h => by
    simp only [gB, Bool.and_eq_true, decide_eq_true_eq] at h
    obtain ⟨⟨⟨⟨⟨⟨⟨⟨a, b⟩, c⟩, d⟩, e⟩, f⟩, g'⟩, i⟩, j⟩ := h
    exact ⟨a, b, c, d, e, f, g', i, j⟩
  let G : Prop := pw 16 4096 g.page = true ∧ 1 ≤ g.pages ∧ g.pages ≤ 64 ∧ 2 ≤ g.regions ∧ g.regions ≤ 256
  refine newBox fun w1 B k _ => ⟨fun x w' => w1 = w' ∧ (x = true → ¬ G) ∧ (x = false → G), ?_, ?_⟩
  · rintro x _ ⟨rfl, hx1, hx2⟩
    refine bc (fun h => ⟨bad (P := G) (fun h => ⟨(split h).1, (split h).2.1, (split h).2.2.1, (split h).2.2.2.1, (split h).2.2.2.2.1⟩) (hx1 h), k⟩) (fun h => ?_)
    obtain ⟨hb, h1, h2, h3, h4⟩ := hx2 h
    have hp := pw_lo (by decide) hb
    refine ⟨_, (B.cell0 3).trans rfl, _, (B.cell 0).trans rfl, Calls.use (power72 w1 (Or.inl rfl) hp.2) ?_⟩
    rintro _ _ ⟨rfl, rfl⟩
    refine ⟨_, rfl, bc (fun hb => ⟨bad (fun h => (split h).2.2.2.2.2.1) (by simpa using hb), k⟩) (fun h5 => ?_)⟩
    have h5 : pw 1 g.page g.align = true := by simpa using h5
    have ha := pw_lo (by decide) h5
    obtain ⟨p1, p2, p3, p4⟩ := prods hp.1 hp.2 h1 h2 h3 h4
    have e1 := wrapS (x := g.page * g.pages) (by omega) (by omega)
    have e3 := wrapS (x := g.page * g.pages * g.regions) (by omega) (by omega)
    refine ⟨_, (B.cell 0).trans rfl, _, (B.cell0 1).trans rfl, ?_⟩
    rw [e1]
    refine bc (fun h => ⟨bad (fun h => (split h).2.2.2.2.2.2.1) (by have := of_decide_eq_true h; omega), k⟩) (fun h6 => ?_)
    refine ⟨_, (B.cell0 2).trans rfl, ?_⟩
    rw [e3]
    refine bc (fun h => ⟨bad (fun h => (split h).2.2.2.2.2.2.2.1) (by have := of_decide_eq_true h; omega), k⟩) (fun h7 => ?_)
    have hm : IntKind.wrap .i64 (IntKind.wrap .i64 ((if g.align > 32 then g.align else 32) + 24) + 24) = (if g.align > 32 then g.align else 32) + 48 := by
      rw [wrapS (x := (if g.align > 32 then g.align else 32) + 24) (by split <;> omega) (by split <;> omega), wrapS (by split <;> omega) (by split <;> omega)]
      omega
    refine ⟨_, (B.cell0 3).trans rfl, ?_⟩
    rw [hm]
    refine bc (fun h => ⟨bad (fun h => (split h).2.2.2.2.2.2.2.2) ?_, k⟩) (fun h8 => ⟨?_, k⟩)
    · have h := of_decide_eq_true h
      have h6 := of_decide_eq_false h6
      split at h <;> omega
    · have h6 := of_decide_eq_false h6
      have h7 := of_decide_eq_false h7
      have h8 := of_decide_eq_false h8
      rw [gC_good]
      simp only [gB, Bool.and_eq_true, decide_eq_true_eq]
      refine ⟨⟨⟨⟨⟨⟨⟨⟨hb, ?_⟩, ?_⟩, ?_⟩, ?_⟩, h5⟩, ?_⟩, ?_⟩, ?_⟩ <;> first | omega | (split at h8 <;> omega)
  · refine ⟨_, (B.cell 0).trans rfl, Calls.use (power72 w1 (Or.inr rfl) (by decide)) ?_⟩
    rintro _ _ ⟨rfl, rfl⟩
    refine ⟨_, rfl, bc (fun hb => ⟨rfl, fun _ h => ?_, fun h => ?_⟩) (fun hb => ?_)⟩
    · have := h.1; rw [this] at hb; simp at hb
    · rw [h] at hb; cases hb
    · have hb : pw 16 4096 g.page = true := by simpa using hb
      refine ⟨fun x w' => w1 = w' ∧ (x = true → ¬ (1 ≤ g.pages ∧ g.pages ≤ 64)) ∧ (x = false → 1 ≤ g.pages ∧ g.pages ≤ 64), ?_, ?_⟩
      · rintro x _ ⟨rfl, hx1, hx2⟩
        refine bc (fun h => ⟨rfl, fun _ hg => hx1 h ⟨hg.2.1, hg.2.2.1⟩, fun h' => by rw [h] at h'; cases h'⟩) (fun h => ?_)
        have hx2 := hx2 h
        refine ⟨_, (B.cell0 2).trans rfl, bc (fun h => ⟨rfl, fun _ hg => ?_, fun h' => by cases h'⟩) (fun h => ⟨_, (B.cell0 2).trans rfl, rfl, fun h' hg => ?_, fun h' => ⟨hb, hx2.1, hx2.2, ?_, ?_⟩⟩)⟩
        · have := hg.2.2.2.1; have := of_decide_eq_true h; omega
        · have := hg.2.2.2.2; have := of_decide_eq_true h'; omega
        · have := of_decide_eq_false h; omega
        · have := of_decide_eq_false h'; omega
      · refine ⟨_, (B.cell0 1).trans rfl, bc (fun h => ⟨rfl, fun _ hg => ?_, fun h' => by cases h'⟩) (fun h => ⟨_, (B.cell0 1).trans rfl, rfl, fun h' hg => ?_, fun h' => ⟨?_, ?_⟩⟩)⟩
        · have := of_decide_eq_true h; omega
        · have := of_decide_eq_true h'; omega
        · have := of_decide_eq_false h; omega
        · have := of_decide_eq_false h'; omega
end Go.Proofs.YtdlbmmodlkmofaaGreatDoor
