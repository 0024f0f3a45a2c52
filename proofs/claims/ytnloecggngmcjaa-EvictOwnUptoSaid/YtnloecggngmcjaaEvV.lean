import Derived.Test.YtnloecggngmcjaaEvU
set_option maxRecDepth 20000
namespace Go.Proofs.Ytnloecggngmcjaa
open Go Go.Vc Go.RowKit Go.Vc.Ring
theorem Sl.of_own {w : World} {base e : Nat} {q : Option Addr} {l c n : Nat} {xs : List Value} (h : w.ownsRow base e 1 (.slice q l c) n xs) (hn : l = n) : Sl w base e q l c xs := by
  refine ⟨by rw [h.1]; omega, ?_⟩
  rcases h.2 with ⟨h0, h1⟩ | ⟨g, cap, cur, hv, hb, hc, h2, h3, h4, h5⟩
  · cases h0; exact .inl ⟨rfl, rfl, rfl⟩
  · cases hv
    refine .inr ⟨g, 0, cur, rfl, hb, hc, h2, h3, by omega, fun i x hx => ?_⟩
    have hlt : i < xs.length := by
      rcases Nat.lt_or_ge i xs.length with h6 | h6
      · exact h6
      · rw [List.getElem?_eq_none h6] at hx; cases hx
    rw [Nat.zero_add, ← hx, ← h5, List.getElem?_take, if_pos (by rw [h.1] at hlt; exact hlt)]
    simp
theorem fillLoop {w : World} {base : Nat} {q : Option Addr} {n c : Nat} {xs0 : List Value} (s : Sl w base 3 q n c xs0) (hn : n ≤ 256) (z : Int) {R : World → Prop}
    (hR : ∀ w', Sl w' base 3 q n c (List.replicate n (iv z)) → Chg (fun g => some g = qBlock q) w w' → R w') :
    ∃ (I : Int → World → Prop) (M : Int → World → Nat), I 0 w ∧ ∀ (x : Int) (w1 : World), I x w1 → bcase (decide ((x : Int) < ((n : Nat) : Int))) (onPtr q fun a => 0 ≤ (x : Int) ∧ (x : Int) < ((n : Nat) : Int) ∧ canStore w1 (a.add ((x : Int).toNat * 1)) 1 ∧
      ∀ w2 : World, w2 = setCells (a.add ((x : Int).toNat * 1)) 0 [.int .i64 z] w1 → I (IntKind.wrap .i64 (x + 1)) w2 ∧ M (IntKind.wrap .i64 (x + 1)) w2 < M x w1) (R w1) := by
  refine ⟨fun x w1 => ∃ (i : Nat) (xs : List Value), x = i ∧ i ≤ n ∧ Sl w1 base 3 q n c (List.replicate i (iv z) ++ xs) ∧ Chg (fun g => some g = qBlock q) w w1, fun x _ => n - x.toNat, ⟨0, xs0, rfl, Nat.zero_le _, s, Chg.refl _ _⟩, ?_⟩
  rintro x w1 ⟨i, xs, rfl, hi, t, k⟩
  have hl := t.1
  simp at hl
  refine bc (fun hlt => ?_) (fun hge => ?_)
  · have hi' : i < n := by simpa using hlt
    cases xs with
    | nil => simp at hl; omega
    | cons u xs =>
      obtain ⟨a, ha, _⟩ := t.cell (i := i) (x := u) (by rw [List.getElem?_append_right (by simp)]; simp)
      subst ha
      simp only [Int.toNat_natCast]
      refine onPtr_mk ⟨by omega, by omega, Sl.stores t hi', fun w2 e2 => ?_⟩
      obtain ⟨t2, k2⟩ := Sl.set t hi' e2
      rw [wrap1 (by omega) (by omega)]
      refine ⟨⟨i + 1, xs, by omega, hi', ?_, k.trans (k2.mono (fun g _ hg => by rw [hg]; rfl))⟩, by omega⟩
      have e5 : (List.replicate i (iv z) ++ u :: xs).set i (iv z) = List.replicate (i + 1) (iv z) ++ xs := by
        rw [List.set_append_right _ _ (by simp)]
        simp [List.replicate_succ']
      rw [← e5]; exact t2
  · have hi' : i = n := by have : ¬ i < n := by simpa using hge
                           omega
    subst hi'
    have : xs = [] := List.eq_nil_of_length_eq_zero (by omega)
    subst this
    exact hR w1 (by simpa using t) k
abbrev Kp := Option Addr × Nat × Nat
abbrev kv (s : Kp) : Value := .slice s.1 s.2.1 s.2.2
def Fill (w : World) (s : Kp) (z : Int) : Prop := ∀ x, x < s.2.1 → ∃ a, s.1 = some a ∧ w.cell? (a.add (x * 1)) = some (iv z)
theorem Fill.chg {w w' : World} {s : Kp} {z : Int} (h : Fill w s z) {S : Nat → Prop} (k : Chg S w w') (hS : ∀ g, qBlock s.1 = some g → ¬ S g) : Fill w' s z := fun x hx => by
  obtain ⟨a, ha, hc⟩ := h x hx
  exact ⟨a, ha, Chg.cellS k hc (by rw [add_block]; exact hS _ (by rw [ha]; rfl))⟩
theorem Fill.sl {w : World} {base : Nat} {q : Option Addr} {n c : Nat} {z : Int} (s : Sl w base 3 q n c (List.replicate n (iv z))) : Fill w (q, n, c) z := fun x hx => by
  obtain ⟨a, ha, hc⟩ := s.cell (i := x) (x := iv z) (by rw [List.getElem?_replicate, if_pos hx])
  exact ⟨a, ha, hc⟩
structure KS (base : Nat) (w : World) (bad : Nat → Prop) (ks : List Kp) (q : Option Addr) (l c : Nat) : Prop where
  sl : Sl w base 36 q l c (ks.map kv)
  fill : ∀ j s, ks[j]? = some s → Fill w s (-1 - ((j / 2 : Nat) : Int))
  blk : ∀ s ∈ ks, ∀ g, qBlock s.1 = some g → (∃ cs, Blk w g 3 cs) ∧ ¬ bad g
  few : ∀ s ∈ ks, s.2.1 ≤ 256
  row : ∀ g, qBlock q = some g → ¬ bad g
theorem KS.move {base : Nat} {w w' : World} {bad bad' S : Nat → Prop} {ks : List Kp} {q : Option Addr} {l c : Nat} (h : KS base w bad ks q l c) (k : Chg S w w') (h1 : ∀ g, S g → bad g) (h2 : ∀ g, bad' g → bad g ∨ w.heap.size ≤ g) : KS base w' bad' ks q l c := by
  refine ⟨h.sl.chg k (fun g hg hs => h.row g hg (h1 g hs)), fun j s hj => (h.fill j s hj).chg k (fun g hg hs => (h.blk s (List.mem_of_getElem? hj) g hg).2 (h1 g hs)), fun s hs g hg => ?_, h.few, fun g hg hb => ?_⟩
  · obtain ⟨⟨cs, hc⟩, hn⟩ := h.blk s hs g hg
    refine ⟨⟨cs, k.blk hc (fun hs => hn (h1 g hs))⟩, fun hb => ?_⟩
    rcases h2 g hb with h3 | h3
    · exact hn h3
    · have := hc.lt; omega
  · rcases h2 g hb with h3 | h3
    · exact h.row g hg h3
    · have := (h.sl.lt hg).1; omega
end Go.Proofs.Ytnloecggngmcjaa
