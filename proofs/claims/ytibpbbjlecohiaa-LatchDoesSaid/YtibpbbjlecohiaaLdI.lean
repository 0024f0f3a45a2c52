import Derived.Test.YtibpbbjlecohiaaLdD
set_option maxRecDepth 20000
namespace Go.Proofs.Ytibpbbjlecohiaa
namespace Full
open Go Go.Vc Go.RowKit Go.ChangeMaps Go.MapKept Go.WideShapes
open Go.Maps (Keyed IsMap Tidy)
/-! # maps from ints to plain values -/
structure EnM (H α : Type) where
  v : α → Value
  d : α → DataW H
  R : Value → Option (DataW H × List MemPlace)
  enc : ∀ x, R (v x) = some (d x, [])
  inv : ∀ u x ps, R u = some (d x, ps) → u = v x
def eI : EnM Unit Int := ⟨fun x => .int .i64 x, fun x => .lit (.int .i64 x), fun | .int .i64 x => some (.lit (.int .i64 x), []) | _ => none, fun _ => rfl, fun u x ps h => by
  split at h
  · simp at h; rw [h.1]
  · cases h⟩
def eH : EnM Hd Hd := ⟨fun x => .slice x.1 x.2.1 x.2.2, fun x => .held x, fun | .slice q l c => some (.held (q, l, c), []) | _ => none, fun _ => rfl, fun u x ps h => by
  split at h
  · simp at h; rw [← h.1]
  · cases h⟩
structure Mg {H α : Type} (E : EnM H α) (w : World) (b n : Nat) (f : Int → Option α) : Prop where
  ex : ∃ D : DataW H, w.ownsMap Try.prog 3 E.R b n D ∧ (∀ x, ok64 x → Maps.has D (l64 x) = (f x).isSome) ∧ ∀ x, ok64 x → ∀ z, D.atKey (l64 x) z = ((f x).map E.d).getD z
def upd {α : Type} (f : Int → Option α) (x : Int) (v : α) : Int → Option α := fun y => if y = x then some v else f y
section
variable {H α : Type} {E : EnM H α} {t e : TypeId} {w w' : World} {b n : Nat} {f : Int → Option α}
theorem Mg.made (E : EnM H α) (w : World) : Mg E (w.alloc (.map #[] 0)) w.heap.size 0 (fun _ => none) :=
  ⟨_, World.ownsMap_made w Try.prog 3 E.R, fun _ _ => rfl, fun _ _ _ => rfl⟩
theorem Mg.lt (h : Mg E w b n f) : b < w.heap.size := by obtain ⟨D, h, _⟩ := h.ex; exact h.lt
theorem Mg.chg (h : Mg E w b n f) {S : Nat → Prop} (c : Chg S w w') (hS : ¬ S b) : Mg E w' b n f := by
  obtain ⟨D, h1, h2, h3⟩ := h.ex
  have hb := c.block b h1.lt hS
  obtain ⟨es, clock, hh, r⟩ := h1
  exact ⟨D, ⟨es, clock, hb.trans hh, r⟩, h2, h3⟩
theorem Mg.chgN (h : Mg E w b n f) (c : Chg none_ w w') : Mg E w' b n f := h.chg c fun x => x
theorem Mg.ne (h : Mg E w b n f) {g : Nat} {t : TypeId} {cs : Array Value} (B : Blk w g t cs) : b ≠ g := fun hb => by
  obtain ⟨D, ⟨es, clock, hh, _⟩, _⟩ := h.ex
  subst hb
  rw [Blk, hh] at B
  cases B
theorem Mg.look (h : Mg E w b n f) (ht : Try.prog.underlying t = some (.map 3 e)) (z : α) (hz : ∀ w, (zeroValue e).run Try.prog w = .ok (E.v z) w) {x : Int} (hx : ok64 x) :
    (Instr.lookup t (.map (some b)) (.int .i64 x) false).run Try.prog w = .ok (E.v ((f x).getD z)) w := by
  obtain ⟨D, h1, h2, h3⟩ := h.ex
  obtain ⟨v, ps, hrun, hv⟩ := h1.lookup (Maps.int_keyed key3) ht (hz w) (E.enc z) (key64 key3 hx)
  rw [h3 x hx] at hv
  rw [hrun]
  cases hf : f x with
  | none => rw [hf] at hv; rw [E.inv v z ps hv]; rfl
  | some u => rw [hf] at hv; rw [E.inv v u ps hv]; rfl
theorem Mg.update (h : Mg E w b n f) (ht : Try.prog.underlying t = some (.map 3 e)) (hn : n < maxLen) {x : Int} (hx : ok64 x) (v : α) :
    ∃ w', (Instr.mapUpdate t (.map (some b)) (.int .i64 x) (E.v v)).run Try.prog w = .ok () w' ∧ Mg E w' b (n + 1) (upd f x v) ∧ Chg (fun g => g = b) w w' := by
  obtain ⟨D, h1, h2, h3⟩ := h.ex
  obtain ⟨w', hrun, ho, hg⟩ := h1.update (Maps.int_keyed key3) ht hn (key64 key3 hx) (E.enc v)
  refine ⟨w', hrun, ⟨_, ho, fun y hy => ?_, fun y hy z => ?_⟩, ⟨hg.os, hg.tape, hg.output, hg.size, fun g hg' hne => hg.block g hg' (fun e => hne (by simpa using e))⟩⟩
  · by_cases e : y = x
    · subst e; rw [Maps.has_put_same h1.isMap ((Maps.int_keyed key3).key (key64 key3 hx))]; simp [upd]
    · rw [Maps.has_put_other (by simpa [l64] using e), h2 y hy]; simp [upd, e]
  · by_cases e : y = x
    · subst e; rw [Maps.atKey_put_same h1.isMap ((Maps.int_keyed key3).key (key64 key3 hx))]; simp [upd]
    · rw [Maps.atKey_put_other (by simpa [l64] using e), h3 y hy]; simp [upd, e]
abbrev un (f : Int → Option α) : Int → Option W3 := fun t => (f t).map fun _ => (0, 0, 0)
theorem un_some (f : Int → Option α) (x : Int) : (un f x).isSome = (f x).isSome := by simp [un]
theorem Mg.keys (h : Mg E w b n f) (hf : ∀ t v, f t = some v → 0 ≤ t ∧ t < 16) :
    ∃ D : DataW H, w.ownsMap Try.prog 3 E.R b n D ∧ (keysF (un f)).Perm (intKeys D) ∧ Maps.size D ≤ 16 := by
  obtain ⟨D, h1, h2, h3⟩ := h.ex
  have hf' : ∀ t v, un f t = some v → 0 ≤ t ∧ t < 16 := fun t v ht => by
    have : (f t).isSome = true := by rw [← un_some f t, ht]; rfl
    obtain ⟨v', hv'⟩ := Option.isSome_iff_exists.1 this
    exact hf t v' hv'
  have hp : (keysF (un f)).Perm (intKeys D) := by
    refine CollectedI.perm (left := fun _ => false) ⟨(keysF_lt (un f)).imp (fun h => by omega), fun x => ?_⟩ h1 (Maps.int_keyed key3) key3 (fun _ => rfl)
    rw [keysF_mem hf', un_some]
    constructor
    · intro hs
      obtain ⟨v, hv⟩ := Option.isSome_iff_exists.1 hs
      have := hf x v hv
      exact ⟨by rw [show Maps.has D (.int .i64 x) = (f x).isSome from h2 x (ok64_task this.1 this.2)]; exact hs, rfl⟩
    · rintro ⟨hs, _⟩
      obtain ⟨es, hD, hko⟩ := h1.keysOf
      have hok : ok64 x := by
        subst hD
        rw [Maps.has_eq, List.any_eq_true] at hs
        obtain ⟨p, hp, hsk⟩ := hs
        obtain ⟨u, hu⟩ := hko p hp
        obtain ⟨y, _, hy, hl⟩ := Maps.keyOf_i64 key3 hu
        rw [hy] at hsk
        have : y = x := by simpa [Lit.sameKey] using hsk
        subst this
        exact hl
      rw [← h2 x hok]; exact hs
  refine ⟨D, h1, hp, ?_⟩
  obtain ⟨es, hD, _⟩ := h1.keysOf
  subst hD
  have h16 := keysF_len (un f)
  rw [hp.length_eq] at h16
  simpa [intKeys, Maps.size] using h16
end
/-! # for whom each one waits, as a map -/
structure Adj (w : World) (base m n : Nat) (F : Int → Option Hd) (adj : Int → List Int) : Prop where
  map : Mg eH w m n F
  se : ∀ x h, F x = some h → SE En.int w base 3 h.1 h.2.1 h.2.2 (adj x)
  ap : ∀ x y h h' g, F x = some h → F y = some h' → qB h.1 = some g → qB h'.1 = some g → x = y
  no : ∀ x, F x = none → adj x = []
theorem Adj.chgN {w w' : World} {base m n : Nat} {F : Int → Option Hd} {adj : Int → List Int} (h : Adj w base m n F adj) (k : Chg none_ w w') : Adj w' base m n F adj :=
  ⟨h.map.chgN k, fun x y hx => (h.se x y hx).chgN k, h.ap, h.no⟩
/-- what is looked up -/
theorem Adj.se' {w : World} {base m n : Nat} {F : Int → Option Hd} {adj : Int → List Int} (h : Adj w base m n F adj) (x : Int) : SE En.int w base 3 ((F x).getD (none, 0, 0)).1 ((F x).getD (none, 0, 0)).2.1 ((F x).getD (none, 0, 0)).2.2 (adj x) := by
  cases hF : F x with
  | none => rw [h.no x hF]; exact SE.nil _ _ _ _
  | some y => exact h.se x y hF
/-- one more -/
theorem Adj.put {w w1 w2 : World} {base m n : Nat} {F : Int → Option Hd} {adj : Int → List Int} (h : Adj w base m n F adj) {x : Int} {q' : Option Addr} {l' c' : Nat} {ys : List Int} (k1 : Chg (fun k => some k = qB ((F x).getD (none, 0, 0)).1) w w1)
    (A : SE En.int w1 base 3 q' l' c' ys) (hq : qB q' = qB ((F x).getD (none, 0, 0)).1 ∨ qB q' = some w.heap.size) (M : Mg eH w2 m (n + 1) (upd F x (q', l', c'))) (k2 : Chg (fun g => g = m) w1 w2) : Adj w2 base m (n + 1) (upd F x (q', l', c')) (fun y => if y = x then ys else adj y) := by
  have hne : ∀ {h0 : Hd} {zs : List Int}, SE En.int w1 base 3 h0.1 h0.2.1 h0.2.2 zs → SE En.int w2 base 3 h0.1 h0.2.1 h0.2.2 zs := fun A0 => A0.chg k2 fun g hg hs => by
    obtain ⟨cs, B⟩ := A0.blk hg
    subst hs
    have hlt1 : g < w.heap.size := h.map.lt
    have hmw : Mg eH w1 g n F := h.map.chg k1 fun hs => by
      obtain ⟨cs', B'⟩ := (h.se' x).blk hs.symm
      exact h.map.ne B' rfl
    exact hmw.ne B rfl
  refine ⟨M, fun y hd hy => ?_, fun y z hd hd' g hy hz hg hg' => ?_, fun y hy => ?_⟩
  · unfold upd at hy
    by_cases e : y = x
    · rw [if_pos e] at hy ⊢
      cases hy
      exact hne (h0 := (q', l', c')) A
    · rw [if_neg e] at hy ⊢
      refine hne ((h.se y hd hy).chg k1 fun g hg hs => ?_)
      cases hF : F x with
      | none => rw [hF] at hs; simp [qB] at hs
      | some hx => rw [hF] at hs; exact e (h.ap y x hd hx g hy hF hg hs.symm)
  · unfold upd at hy hz
    have old : ∀ {y : Int} {hd : Hd}, y ≠ x → F y = some hd → qB hd.1 = some g → qB q' = some g → False := fun {y hd} e hy hg hq' => by
      rcases hq with hq | hq
      · cases hF : F x with
        | none => rw [hq, hF] at hq'; simp [qB] at hq'
        | some hx => rw [hq, hF] at hq'; exact e (h.ap y x hd hx g hy hF hg hq')
      · rw [hq] at hq'
        have := (h.se y hd hy).lt hg
        cases hq'
        omega
    by_cases e : y = x <;> by_cases e' : z = x
    · rw [e, e']
    · rw [if_pos e] at hy; rw [if_neg e'] at hz
      cases hy
      exact (old e' hz hg' hg).elim
    · rw [if_neg e] at hy; rw [if_pos e'] at hz
      cases hz
      exact (old e hy hg hg').elim
    · rw [if_neg e] at hy; rw [if_neg e'] at hz
      exact h.ap y z hd hd' g hy hz hg hg'
  · unfold upd at hy
    by_cases e : y = x
    · rw [if_pos e] at hy; cases hy
    · rw [if_neg e] at hy ⊢; exact h.no y hy
end Full
end Go.Proofs.Ytibpbbjlecohiaa
set_option maxRecDepth 20000
namespace Go.Proofs.Ytibpbbjlecohiaa
namespace Full
open Go Go.Vc Go.RowKit
/-! # the program's search, walked -/
theorem least_ex {P : Nat → Prop} (h : ∃ n, P n) : ∃ n, P n ∧ ∀ m, P m → n ≤ m := by
  obtain ⟨n, hn⟩ := h
  induction n using Nat.strongRecOn with
  | ind n ih =>
    by_cases hl : ∃ m, m < n ∧ P m
    · obtain ⟨m, hm, hp⟩ := hl
      exact ih m hm hp
    · exact ⟨n, hn, fun m hm => Nat.le_of_not_lt fun hlt => hl ⟨m, hlt, hm⟩⟩
open Classical in
noncomputable def mn (P : Nat → Prop) : Nat := if h : ∃ n, P n then Classical.choose (least_ex h) else 0
theorem mn_spec {P : Nat → Prop} (h : ∃ n, P n) : P (mn P) := by
  unfold mn
  rw [dif_pos h]
  exact (Classical.choose_spec (least_ex h)).1
theorem mn_le {P : Nat → Prop} {n : Nat} (h : P n) : mn P ≤ n := by
  unfold mn
  rw [dif_pos ⟨n, h⟩]
  exact (Classical.choose_spec (least_ex ⟨n, h⟩)).2 n h
/-- how many tasks are not seen yet -/
def uns (seen : List Int) : Nat := (List.range 16).countP fun t : Nat => decide ((t : Int) ∉ seen)
theorem countP_lt {α : Type} {p q : α → Bool} {a : α} (hpq : ∀ x, q x = true → p x = true) : ∀ {l : List α}, a ∈ l → p a = true → q a = false → l.countP q < l.countP p
  | b :: l, h, hp, hq => by
    have hle : ∀ l : List α, l.countP q ≤ l.countP p := fun l => List.countP_mono_left fun x _ => hpq x
    rcases List.mem_cons.1 h with rfl | h
    · rw [List.countP_cons_of_pos hp, List.countP_cons_of_neg (by simp [hq])]
      have := hle l; omega
    · have ih := countP_lt hpq h hp hq
      rw [List.countP_cons, List.countP_cons]
      by_cases hb : q b = true
      · rw [if_pos hb, if_pos (hpq b hb)]; omega
      · rw [if_neg hb]; omega
theorem uns_snoc {seen : List Int} {t : Int} (h0 : 0 ≤ t) (h1 : t < 16) (hn : t ∉ seen) : uns (seen ++ [t]) + 1 ≤ uns seen := by
  refine countP_lt (a := t.toNat) (fun x hx => ?_) (by simp; omega) (by simpa [show ((t.toNat : Nat) : Int) = t by omega] using hn) (by simp [show ((t.toNat : Nat) : Int) = t by omega])
  simp only [decide_eq_true_eq, List.mem_append, not_or] at hx ⊢
  exact hx.1
theorem uns_le (seen : List Int) : uns seen ≤ 16 := by
  have := List.countP_le_length (p := fun t : Nat => decide ((t : Int) ∉ seen)) (l := List.range 16)
  simpa [uns] using this
/-- what is seen -/
def chi (seen : List Int) : Int → Option Int := fun y => if y ∈ seen then some 1 else none
theorem chi_upd (seen : List Int) (t : Int) : upd (chi seen) t 1 = chi (seen ++ [t]) := by
  funext y
  unfold upd chi
  by_cases h : y = t
  · simp [h]
  · simp [h]
theorem zero3 (w : World) : (zeroValue 3).run Try.prog w = .ok (eI.v 0) w := by kernel_rfl
theorem zero35 (w : World) : (zeroValue 35).run Try.prog w = .ok (eH.v (none, 0, 0)) w := by kernel_rfl
theorem Mn.chgB {w w' : World} {q : Option Addr} {l : Nat} {xs : List Int} (h : Mn w q l xs) {S : Nat → Prop} (k : Chg S w w') (hS : ∀ b cs, S b → Blk w b 3 cs → False) : Mn w' q l xs := by
  obtain ⟨b, c, A⟩ := h.ex
  exact .of (A.chg k fun g hg hs => by obtain ⟨cs, B⟩ := A.blk hg; exact hS g cs hs B)
/-- a list of paths -/
structure PL (base : Nat) (w : World) (q : Option Addr) (l c : Nat) (ps : List (List Int)) : Prop where
  ex : ∃ hs, SE En.hd w base 35 q l c hs ∧ hs.length = ps.length ∧ ∀ (i : Nat) (h : Hd) (p : List Int), hs[i]? = some h → ps[i]? = some p → Mn w h.1 h.2.1 p ∧ p ≠ []
theorem PL.chg {base : Nat} {w w' : World} {q : Option Addr} {l c : Nat} {ps : List (List Int)} (h : PL base w q l c ps) {S : Nat → Prop} (k : Chg S w w') (h35 : ∀ b cs, S b → Blk w b 35 cs → False) (h3 : ∀ b cs, S b → Blk w b 3 cs → False) : PL base w' q l c ps := by
  obtain ⟨hs, A, hl, hx⟩ := h.ex
  exact ⟨hs, A.chg k fun g hg hs => (by obtain ⟨cs, B⟩ := A.blk hg; exact h35 g cs hs B), hl, fun i h p h1 h2 => ⟨(hx i h p h1 h2).1.chgB k h3, (hx i h p h1 h2).2⟩⟩
theorem PL.chgN {base : Nat} {w w' : World} {q : Option Addr} {l c : Nat} {ps : List (List Int)} (h : PL base w q l c ps) (k : Chg none_ w w') : PL base w' q l c ps := h.chg k (fun _ _ x _ => x) fun _ _ x _ => x
theorem PL.len {base : Nat} {w : World} {q : Option Addr} {l c : Nat} {ps : List (List Int)} (h : PL base w q l c ps) : ps.length = l := by
  obtain ⟨hs, A, hl, _⟩ := h.ex
  rw [← hl, A.len]
theorem PL.nil (base : Nat) (w : World) : PL base w none 0 0 [] := ⟨[], SE.nil _ _ _ _, rfl, fun i h p h1 => by simp at h1⟩
theorem Adj.chgM {w w' : World} {base m n m1 k1 : Nat} {F : Int → Option Hd} {adj : Int → List Int} {f : Int → Option Int} (h : Adj w base m n F adj) (M : Mg eI w m1 k1 f) (hne : m ≠ m1) (k : Chg (fun b => b = m1) w w') : Adj w' base m n F adj :=
  ⟨h.map.chg k hne, fun x y hx => (h.se x y hx).chg k fun g hg hs => (by
    obtain ⟨cs, B⟩ := (h.se x y hx).blk hg
    exact M.ne B hs.symm), h.ap, h.no⟩
theorem clone109 {w : World} {q : Option Addr} {l c : Nat} {xs : List Int} (H : RE En.int w q l xs) (hq : q ≠ none) (hl : l ≤ 1000000) :
    Calls Try.prog 109 #[.slice q l c] w (Ret fun v w' => ∃ q' c', v = .slice q' l c' ∧ SE En.int w' w.heap.size 3 q' l c' xs ∧ Chg none_ w w') := by
  refine f109.calls _ _ _ ?_
  unfold f109.wp
  refine ⟨_, _, run_eqnil Try.underlying35 q l c, bcF (isNone_ne hq) (newBox fun w2 B2 k2 s2 => ?_)⟩
  have S2 : SE En.int w2 w.heap.size 3 (some ⟨w.heap.size, 0, none⟩) 0 0 [] := SE.lit B2 (Nat.le_refl _) (fun m v hv => by simp [En.flat] at hv) rfl (Nat.le_refl _) (by decide) (by show 0 * 1 ≤ 0; decide)
  obtain ⟨q5, c5, w3, hrun, A3, k3, _, _, _, _⟩ := S2.append (t := 35) (ty := 35) (c2 := c) elemInt (H.chg k2) (by simp only [maxLen]; omega) (by show (0 + l) * 8 ≤ _; omega) k2.size
  rw [Nat.zero_add] at hrun A3
  exact ⟨q5, l, c5, w3, hrun, q5, c5, rfl, A3, k2.up k3 fun b hb => (S2.lt hb.symm).2⟩
theorem lst_get {p : List Int} (hp : p ≠ []) : p[p.length - 1]? = some (lst p) := by
  rw [← List.getLast?_eq_getElem?, lst]
  cases h : p.getLast? with
  | none => exact absurd (List.getLast?_eq_none_iff.1 h) hp
  | some x => rfl
/-- one round of the search, and what it comes to -/
structure Bs (W : World) (base m n : Nat) (F : Int → Option Hd) (adj : Int → List Int) (r : Int) (m1 : Nat) (N : Nat) (q : Option Addr) (l c : Nat) (ps : List (List Int)) (seen : List Int) (w : World) : Prop where
  P : PL W.heap.size w q l c ps
  M : ∃ k1, Mg eI w m1 k1 (chi seen) ∧ k1 + uns seen ≤ 16
  A : Adj w base m n F adj
  long : ∀ p ∈ ps, p.length + N ≤ 18 ∧ 0 ≤ lst p ∧ lst p < 16
  fuel : ps ≠ [] → uns seen + 1 ≤ N
  eq : bfs adj r N ps seen = bfs adj r 17 [[r]] [r]
  k : Chg none_ W w
end Full
end Go.Proofs.Ytibpbbjlecohiaa
set_option maxRecDepth 20000
namespace Go.Proofs.Ytibpbbjlecohiaa
namespace Full
open Go Go.Vc Go.RowKit
theorem ok16 {x : Int} (h0 : 0 ≤ x) (h1 : x < 16) : ok64 x := ok64_task h0 h1
theorem drop_next {α : Type} {l : List α} {i : Nat} {x : α} (h : l[i]? = some x) : l.drop i = x :: l.drop (i + 1) := by
  have hi := get_lt h
  rw [List.drop_eq_getElem_cons hi]
  rw [List.getElem?_eq_getElem hi] at h
  cases h; rfl
theorem short83 {w : World} {base m n : Nat} {F : Int → Option Hd} {adj : Int → List Int} {r : Int} (hA : Adj w base m n F adj) (hadj : ∀ x, ∀ t ∈ adj x, 0 ≤ t ∧ t < 16) (hr : 0 ≤ r ∧ r < 16) :
    Calls Try.prog 83 #[.map (some m), .int .i64 r] w (Ret fun v w' => ∃ q l c, v = .slice q l c ∧ Chg none_ w w' ∧ l ≤ 1000 ∧ ((q = none ∧ l = 0 ∧ bfs adj r 17 [[r]] [r] = none) ∨ (q ≠ none ∧ ∃ p, bfs adj r 17 [[r]] [r] = some p ∧ RE En.int w' q l p))) := by
  refine f83.calls _ _ ?_
  unfold f83.wp
  refine newBox fun w1 B1 k1 s1 => newBox fun w2 B2 k2 s2 => ?_
  have k23 : Chg none_ w2 (w2.alloc (.map #[] 0)) := (Chg.refl none_ w2).alloc _
  have M3 : Mg eI (w2.alloc (.map #[] 0)) w2.heap.size 0 (fun _ => none) := Mg.made eI w2
  obtain ⟨w4, hup, M4, k4⟩ := M3.update (t := 138) (e := 3) Try.underlying138 (by simp only [maxLen]; omega) (ok16 hr.1 hr.2) (1 : Int)
  have hmw : m < w.heap.size := hA.map.lt
  have k03 : Chg none_ w (w2.alloc (.map #[] 0)) := k1.trans (k2.trans k23)
  have k04 : Chg none_ w w4 := k03.up k4 fun b hb => by rw [hb]; exact (k1.trans k2).size
  have B14 : Blk w4 w.heap.size 3 #[.int .i64 r] := k4.blk (k23.blk (k2.blk B1 (fun x => x)) (fun x => x)) (fun e => by have := k2.size; omega)
  have B24 : Blk w4 w1.heap.size 35 #[.slice (some ⟨w.heap.size, 0, none⟩) 1 1] := k4.blk (k23.blk B2 (fun x => x)) (fun e => by omega)
  have P4 : PL w.heap.size w4 (some ⟨w1.heap.size, 0, none⟩) 1 1 [[r]] := by
    refine ⟨[(some ⟨w.heap.size, 0, none⟩, 1, 1)], SE.lit B24 k1.size (fun m v hv => by rcases m with _ | m; exact hv; simp [En.flat, En.hd] at hv) rfl (Nat.le_refl _) (by show 1 ≤ maxLen; decide) (by show 1 * 1 ≤ 1; decide), rfl, fun i h p h1 h2 => ?_⟩
    cases i with
    | zero =>
      cases h1; cases h2
      exact ⟨.of (SE.lit B14 (Nat.le_refl _) (fun m v hv => by rcases m with _ | m; exact hv; simp [En.flat, En.int] at hv) rfl (Nat.le_refl _) (by show 1 ≤ maxLen; decide) (by show 1 * 1 ≤ 1; decide)), by simp⟩
    | succ i => simp at h1
  have hu1 : uns [r] + 1 ≤ 16 := Nat.le_trans (uns_snoc (seen := []) hr.1 hr.2 (by simp)) (uns_le [])
  have hM4 : Mg eI w4 w2.heap.size 1 (chi [r]) := by
    have := chi_upd [] r
    rw [List.nil_append] at this
    rw [← this]
    exact M4
  have hA4 := hA.chgN k04
  have hmk : (Instr.makeMap 138 none).run Try.prog w2 = .ok (.map (some w2.heap.size)) (w2.alloc (.map #[] 0)) := rfl
  have m1ge : w.heap.size ≤ w2.heap.size := (k1.trans k2).size
  generalize w2.heap.size = m1 at *
  have hmm : m ≠ m1 := by omega
  let Inv : Nat → Option Addr → Nat → Nat → World → Prop := fun N q l c w' => ∃ ps seen, Bs w base m n F adj r m1 N q l c ps seen w'
  have start : Inv 17 (some ⟨w1.heap.size, 0, none⟩) 1 1 w4 := ⟨[[r]], [r], P4, ⟨1, hM4, by omega⟩, hA4, fun p hp => by rw [List.mem_singleton.1 hp]; exact ⟨by simp, hr⟩, fun _ => by omega, rfl, k04⟩
  refine ⟨some m1, _, hmk, w4, hup, fun q l c w' => ∃ N, Inv N q l c w', fun q l c w' => mn fun N => Inv N q l c w', ⟨17, start⟩, ?_⟩
  clear start hM4 hA4 P4 B14 B24 k04 k4 M4 hup k03 M3 k23 B2 B1 hu1 k1 k2 s1 s2
  intro q1 l1 c1 w5 hex
  have hI := mn_spec hex
  have hmin : ∀ {N' q' l' c' w'}, Inv N' q' l' c' w' → N' + 1 ≤ mn (fun N => Inv N q1 l1 c1 w5) → mn (fun N => Inv N q' l' c' w') < mn (fun N => Inv N q1 l1 c1 w5) := fun h1 h2 => Nat.lt_of_le_of_lt (mn_le h1) h2
  generalize hN : mn (fun N => Inv N q1 l1 c1 w5) = N at hI
  obtain ⟨ps, seen0, hB⟩ := hI
  have hpl := hB.P.len
  refine bc (fun hgt => ?_) fun hle => ?_
  rotate_left
  · have h0 : l1 = 0 := by have := of_decide_eq_false hle; omega
    have hps : ps = [] := List.eq_nil_of_length_eq_zero (by rw [hpl, h0])
    have he := hB.eq
    subst hps
    refine ⟨none, 0, 0, rfl, hB.k, by omega, .inl ⟨rfl, rfl, ?_⟩⟩
    rw [← he]
    cases N with
    | zero => rfl
    | succ N => rw [bfs, if_pos rfl]
  have hl0 : 0 < l1 := by have := of_decide_eq_true hgt; omega
  have hps : ps ≠ [] := fun h => by rw [h] at hpl; simp at hpl; omega
  have hfu := hB.fuel hps
  obtain ⟨N, rfl⟩ : ∃ N', N = N' + 1 := ⟨N - 1, by omega⟩
  have heq := hB.eq
  rw [bfs, if_neg hps] at heq
  have hk5 := hB.k
  -- a level
  let St : List (List Int) → List Int → Option Addr → Nat → Nat → World → Prop := fun nx seen q l c w' => PL w5.heap.size w' q l c nx ∧ (∃ k1, Mg eI w' m1 k1 (chi seen) ∧ k1 + uns seen ≤ 16) ∧ nx.length + uns seen ≤ uns seen0 ∧ (∀ p ∈ nx, p.length + N ≤ 18 ∧ 0 ≤ lst p ∧ lst p < 16) ∧ Chg (fun b => b = m1) w5 w'
  have m1lt : m1 < w5.heap.size := by obtain ⟨k1, M, _⟩ := hB.M; exact M.lt
  have hBlk5 : ∀ {b : Nat} {t : TypeId} {cs : Array Value}, b = m1 → Blk w5 b t cs → False := fun hb B => by obtain ⟨k1, M, _⟩ := hB.M; exact M.ne B hb.symm
  refine ⟨fun q2 l2 c2 x1 w' => ∃ (i : Nat) (nx : List (List Int)) (seen : List Int), x1 = (i : Int) ∧ i ≤ l1 ∧ St nx seen q2 l2 c2 w' ∧ inP adj r (ps.drop i) (seen, nx) = inP adj r ps (seen0, []), fun _ _ _ x1 _ => l1 - x1.toNat,
    ⟨0, [], seen0, rfl, Nat.zero_le _, ⟨PL.nil _ _, hB.M, by simp, by simp, Chg.refl _ _⟩, rfl⟩, ?_⟩
  rintro q2 l2 c2 _ w6 ⟨i, nx, seen, rfl, hi, hS6, hi6⟩
  refine bc (fun hlt => ?_) fun hge => ?_
  rotate_left
  · have hil : i = l1 := by have := of_decide_eq_false hge; omega
    subst hil
    rw [List.drop_eq_nil_of_le (by omega), inP] at hi6
    rw [← hi6] at heq
    obtain ⟨P6, M6, u6, lg6, k6⟩ := hS6
    have hI6 : Inv N q2 l2 c2 w6 := by
      refine ⟨nx, seen, ?_, M6, ?_, lg6, fun hne => ?_, heq, hk5.up k6 fun b hb => by rw [hb]; exact m1ge⟩
      · obtain ⟨hs, A, hx⟩ := P6.ex
        exact ⟨hs, A.lower hk5.size, hx⟩
      · obtain ⟨kk, M, _⟩ := hB.M
        exact hB.A.chgM M hmm k6
      · have : 0 < nx.length := List.length_pos_iff.2 hne
        omega
    exact ⟨⟨N, hI6⟩, hmin hI6 (by omega)⟩
  have hi' : i < l1 := by simpa using hlt
  have hlb : l1 ≤ 9223372036854775807 := by obtain ⟨hs, A, _⟩ := hB.P.ex; exact SE.mx A
  rw [wrapS (x := (i : Int) + 1) (by omega) (by omega)]
  obtain ⟨P6, M6, u6, lg6, k6⟩ := hS6
  obtain ⟨hs, S5, hsl, hsx⟩ := hB.P.ex
  have S6 := S5.chg k6 (fun g hg hs' => by obtain ⟨cs, B⟩ := S5.blk hg; exact hBlk5 hs' B)
  obtain ⟨a1, hd, ha1, hhd, hrd⟩ := S6.re.ex hi'
  obtain ⟨p, hp⟩ := get_ex (l := ps) (i := i) (by omega)
  obtain ⟨hMn5, hpne⟩ := hsx i hd p hhd hp
  have hMn : ∀ w', Chg (fun b => b = m1) w5 w' → Mn w' hd.1 hd.2.1 p := fun w' k => hMn5.chgB k fun b cs hb B => hBlk5 hb B
  have hpm : p ∈ ps := List.mem_of_getElem? hp
  obtain ⟨hlong, hlp0, hlp1⟩ := hB.long p hpm
  have hpl' := hMn5.len
  have hp1 : 0 < p.length := List.length_pos_iff.2 hpne
  rw [drop_next hp, inP] at hi6
  obtain ⟨a2, y, ha2, hy, hry⟩ := (hMn w6 k6).re.ex (i := p.length - 1) (by omega)
  rw [lst_get hpne] at hy
  cases hy
  have A' : ∀ w', Chg (fun b => b = m1) w5 w' → Adj w' base m n F adj := fun w' k => by obtain ⟨kk, M, _⟩ := hB.M; exact hB.A.chgM M hmm k
  have hq3 : hd.1 ≠ none := fun h => by rw [h] at ha2; cases ha2
  have ew : IntKind.wrap .i64 (((hd.2.1 : Nat) : Int) - 1) = ((p.length - 1 : Nat) : Int) := by rw [wrapS (by omega) (by omega)]; omega
  refine onPtr_at ha1 ⟨by omega, by omega, hd.1, hd.2.1, hd.2.2, reads_one' hrd, ?_⟩
  rw [ew]
  refine onPtr_at ha2 ⟨by omega, by omega, lst p, reads_one' hry, ?_⟩
  have hlook := (A' w6 k6).map.look (t := 161) (e := 35) Try.underlying161 (none, 0, 0) zero35 (ok16 hlp0 hlp1)
  have T : ∀ w', Chg (fun b => b = m1) w5 w' → SE En.int w' base 3 ((F (lst p)).getD (none, 0, 0)).1 ((F (lst p)).getD (none, 0, 0)).2.1 ((F (lst p)).getD (none, 0, 0)).2.2 (adj (lst p)) := fun w' k => (A' w' k).se' (lst p)
  have htin : ∀ t ∈ adj (lst p), 0 ≤ t ∧ t < 16 := hadj _
  generalize (F (lst p)).getD (none, 0, 0) = th at *
  generalize adj (lst p) = ts at *
  have htl := (T w6 k6).len
  have htm := SE.mx (T w6 k6)
  refine ⟨th.1, th.2.1, th.2.2, w6, hlook, fun q5 l5 c5 x2 w' => ∃ (j : Nat) (nx' : List (List Int)) (seen' : List Int), x2 = (j : Int) ∧ j ≤ th.2.1 ∧ St nx' seen' q5 l5 c5 w' ∧ inT r p (ts.drop j) (seen', nx') = inT r p ts (seen, nx), fun _ _ _ x2 _ => th.2.1 - x2.toNat,
    ⟨0, nx, seen, rfl, Nat.zero_le _, ⟨P6, M6, u6, lg6, k6⟩, rfl⟩, ?_⟩
  rintro q5 l5 c5 _ w8 ⟨j, nx', seen', rfl, hj, ⟨P8, M8, u8, lg8, k8⟩, hj8⟩
  refine bc (fun hltj => ?_) fun hgej => ?_
  rotate_left
  · have hjl : j = th.2.1 := by have := of_decide_eq_false hgej; omega
    rw [List.drop_eq_nil_of_le (by omega), inT] at hj8
    rw [← hj8] at hi6
    simp only [Bool.false_eq_true, if_false] at hi6
    exact ⟨⟨i + 1, nx', seen', by omega, hi', ⟨P8, M8, u8, lg8, k8⟩, hi6⟩, meas hi'⟩
  have hj' : j < th.2.1 := by simpa using hltj
  rw [wrapS (x := (j : Int) + 1) (by omega) (by omega)]
  obtain ⟨a3, t, ha3, ht, hrt⟩ := (T w8 k8).re.ex hj'
  have ht16 := htin t (List.mem_of_getElem? ht)
  rw [drop_next ht, inT] at hj8
  refine onPtr_at ha3 ⟨by omega, by omega, t, reads_one' hrt, bc (fun htr => ?_) fun htr => ?_⟩
  · have htr : t = r := by simpa using htr
    rw [if_pos htr] at hj8
    rw [← hj8] at hi6
    simp only [if_true] at hi6
    rw [← hi6] at heq
    exact ⟨hd.1, hd.2.1, hd.2.2, rfl, hk5.up k8 fun b hb => by rw [hb]; exact m1ge, by omega, .inr ⟨hq3, p, heq.symm, (hMn w8 k8).re⟩⟩
  have htr : t ≠ r := by simpa using htr
  rw [if_neg htr] at hj8
  obtain ⟨kc, M8, hkc⟩ := M8
  have hlk := M8.look (t := 138) (e := 3) Try.underlying138 0 zero3 (ok16 ht16.1 ht16.2)
  refine ⟨_, w8, hlk, bc (fun hpos => ?_) fun hneg => ?_⟩
  · have hin : t ∈ seen' := by
      have := of_decide_eq_true hpos
      by_cases h : t ∈ seen'
      · exact h
      · simp [chi, h] at this
    rw [if_pos hin] at hj8
    exact ⟨⟨j + 1, nx', seen', by omega, hj', ⟨P8, ⟨kc, M8, hkc⟩, u8, lg8, k8⟩, hj8⟩, meas hj'⟩
  have hnin : t ∉ seen' := fun h => by
    have := of_decide_eq_false hneg
    simp [chi, h] at this
  rw [if_neg hnin] at hj8
  have hc0 : chi seen' t = none := by simp [chi, hnin]
  have hus := uns_snoc ht16.1 ht16.2 hnin
  rw [hc0] at hlk
  have hlk0 : (Instr.lookup 138 (.map (some m1)) (.int .i64 t) false).run Try.prog w8 = .ok (.int .i64 0) w8 := hlk
  refine ⟨0, w8, hlk0, ?_⟩
  rw [show IntKind.wrap .i64 (0 + 1) = 1 from wrapS (by omega) (by omega)]
  obtain ⟨w11, hup11, M11, k11⟩ := M8.update (t := 138) (e := 3) Try.underlying138 (by simp only [maxLen]; omega) (ok16 ht16.1 ht16.2) (1 : Int)
  rw [chi_upd] at M11
  have k511 := k8.trans k11
  refine ⟨w11, hup11, Calls.use (clone109 (hMn w11 k511).re hq3 (by omega)) ?_⟩
  rintro _ w12 ⟨q6, c6, rfl, S12, k12⟩
  refine ⟨_, _, _, rfl, pushG (t := 35) elemInt S12 k12 t (by omega) (by decide) rfl fun q7 c7 w14 S14 k14 _ => newBox fun w15 B15 k15 s15 => ?_⟩
  obtain ⟨nhs, N8, nhl, nhx⟩ := P8.ex
  have nne : ∀ {b : Nat} {t : TypeId} {cs : Array Value}, b = m1 → Blk w8 b t cs → False := fun hb B => M8.ne B hb.symm
  have N15 := ((N8.chg k11 (fun g hg hs' => by obtain ⟨cs, B⟩ := N8.blk hg; exact nne hs' B)).chgN k14).chgN k15
  have hnl := P8.len
  have N8l := N8.len
  obtain ⟨q8, c8, w16, hrun, S16, k16, _, _⟩ := N15.append1 (t := 30) (ty := 30) (x := (q7, hd.2.1 + 1, c7)) elemH35 B15 (by simp only [maxLen]; omega) (by show (l5 + 1) * 24 ≤ _; omega) (by have h1 := k511.size; have h2 := k14.size; have h3 := k15.size; omega)
  have k1115 := k14.trans k15
  have k516 : Chg (fun b => b = m1) w5 w16 := (k511.trans' k1115 (fun _ x => x.elim)).trans' k16 fun b hb => .inr (N15.lt hb.symm).2
  have cut : ∀ {h : Hd} {z : List Int}, Mn w15 h.1 h.2.1 z → Mn w16 h.1 h.2.1 z := fun M => M.chgB k16 fun b cs hb B => noS N15 (by decide) hb B
  refine ⟨_, _, _, w16, hrun, ⟨j + 1, nx' ++ [p ++ [t]], seen' ++ [t], by omega, hj', ⟨⟨nhs ++ [(q7, hd.2.1 + 1, c7)], S16, by simp [nhl], fun e h z h1 h2 => ?_⟩, ⟨kc + 1, ?_, by omega⟩, by simp only [List.length_append, List.length_singleton]; omega, fun z hz => ?_, k516⟩, hj8⟩, meas hj'⟩
  · by_cases he : e < nhs.length
    · rw [List.getElem?_append_left he] at h1
      rw [List.getElem?_append_left (by omega)] at h2
      have := nhx e h z h1 h2
      exact ⟨cut ((this.1.chgB k11 fun b cs hb B => nne hb B).chg k1115), this.2⟩
    · rw [List.getElem?_append_right (by omega)] at h1
      rw [List.getElem?_append_right (by omega)] at h2
      have e0 : e - nhs.length = 0 := by have := get_lt h1; simpa using this
      rw [e0] at h1
      rw [← nhl, e0] at h2
      cases h1; cases h2
      exact ⟨cut (h := (q7, hd.2.1 + 1, c7)) (.of (S14.chgN k15)), by simp⟩
  · exact M11.chgN k1115 |>.chg k16 fun hs' => by
      obtain ⟨cs, B⟩ := N15.blk hs'.symm
      exact (M11.chgN k1115).ne B rfl
  · rcases List.mem_append.1 hz with hz | hz
    · exact lg8 z hz
    · rw [List.mem_singleton.1 hz, lst_snoc]
      exact ⟨by simp only [List.length_append, List.length_singleton]; omega, ht16⟩
end Full
end Go.Proofs.Ytibpbbjlecohiaa
set_option maxRecDepth 20000
namespace Go.Proofs.Ytibpbbjlecohiaa
namespace Full
open Go Go.Vc Go.RowKit
/-! # the program's Cycle -/
theorem adjStep {w : World} {base m n b : Nat} {F : Int → Option Hd} {adj : Int → List Int} {x t : Int} (h : Adj w base m n F adj) (hx : 0 ≤ x ∧ x < 16) (B : Blk w b 3 #[.int .i64 t]) (hn : n ≤ 1000000) (hl : (adj x).length ≤ 1000000) (hbase : base ≤ w.heap.size) :
    ∃ (q3 : Option Addr) (l3 c3 : Nat), ∃ w8 : World, (Builtin.append_ #[35, 35] 35 #[.slice ((F x).getD (none, 0, 0)).1 ((F x).getD (none, 0, 0)).2.1 ((F x).getD (none, 0, 0)).2.2, .slice (some ⟨b, 0, none⟩) 1 1]).run Try.prog w = .ok (.slice q3 l3 c3) w8 ∧ Chg (fun k => some k = qB ((F x).getD (none, 0, 0)).1) w w8 ∧
      ∃ w9 : World, (Instr.mapUpdate 161 (.map (some m)) (.int .i64 x) (.slice q3 l3 c3)).run Try.prog w8 = .ok () w9 ∧ Adj w9 base m (n + 1) (upd F x (q3, l3, c3)) (fun y => if y = x then adj x ++ [t] else adj y) ∧ Chg (fun k => k = m ∨ some k = qB ((F x).getD (none, 0, 0)).1) w w9 := by
  have A := h.se' x
  have hlen := A.len
  obtain ⟨q3, c3, w8, hrun, A8, k8, hq, _⟩ := A.append1 (t := 35) (ty := 35) (x := t) elemInt B (by simp only [maxLen]; omega) (by show (_ + 1) * 8 ≤ _; omega) hbase
  have M8 : Mg eH w8 m n F := h.map.chg k8 fun hs => by
    obtain ⟨cs', B'⟩ := A.blk hs.symm
    exact h.map.ne B' rfl
  obtain ⟨w9, hup, M9, k9⟩ := M8.update (t := 161) (e := 35) Try.underlying161 (by simp only [maxLen]; omega) (ok16 hx.1 hx.2) ((q3, ((F x).getD (none, 0, 0)).2.1 + 1, c3) : Hd)
  exact ⟨q3, _, c3, w8, hrun, k8, w9, hup, h.put k8 A8 hq M9 k9, (k8.mono fun _ _ h => .inr h).trans' k9 fun b hb => .inl (.inl hb)⟩
theorem adjA_step (As : List Arc) (a : Arc) : (fun y => if y = a.1 then adjA As a.1 ++ [a.2] else adjA As y) = adjA (As ++ [a]) := by
  funext y
  rw [adjA_app, adjA_cons]
  by_cases h : y = a.1
  · subst h; simp [adjA]
  · rw [if_neg h, if_neg (Ne.symm h)]; simp [adjA]
theorem adjA_len (As : List Arc) (x : Int) : (adjA As x).length ≤ As.length := by
  rw [adjA, List.length_map]; exact List.length_filter_le _ _
theorem round_nil {As : List Arc} (hin : In16 As) {st : Int → Int} {r : Int} (h : adjA As r = []) : roundF As st r = none := by
  have hb := best_ok (st := st) (r := r) As hin [] (-1) (.inl ⟨rfl, by simp⟩)
  rw [List.nil_append, h] at hb
  rcases hb with ⟨hb, _⟩ | ⟨_, _, pre, post, he, _⟩
  · rw [roundF, if_pos (by omega)]
  · simp at he
section
variable {w : World} {base N Q o : Nat} {g : G8} {s : S8}
theorem cycle42 (h : InvG w base N Q o g s) (hS : Small8 s) (hf : ∀ t v, s.wt t = some v → 0 ≤ t ∧ t < 16) (hval : ∀ t v, s.wt t = some v → Valid s v) (hin : In16 (arcsP s)) (hrise : Rise (arcsP s)) :
    Calls Try.prog 42 #[.pointer (some (ad o))] w (Ret fun v w' => ∃ q l c ys, v = .slice q l c ∧ RE En.int w' q l ys ∧ Cyc (arcsP s) ys ∧ l ≤ 1000 ∧ Chg none_ w w') := by
  refine f42.calls _ ?_
  unfold f42.wp
  have hmk : (Instr.makeMap 161 none).run Try.prog w = .ok (.map (some w.heap.size)) (w.alloc (.map #[] 0)) := rfl
  have k1 : Chg none_ w (w.alloc (.map #[] 0)) := (Chg.refl none_ w).alloc _
  have M1 : Mg eH (w.alloc (.map #[] 0)) w.heap.size 0 (fun _ => none) := Mg.made eH w
  refine ⟨some w.heap.size, _, hmk, Calls.use (arcs35 (h.chgN k1) hS hf hval) ?_⟩
  rintro _ w2 ⟨q1, l1, c1, rfl, S2, hl1, k2⟩
  have hlen := S2.len
  have k02 := k1.trans k2
  have M2 := M1.chgN k2
  generalize arcsP s = As at *
  obtain ⟨m, hm⟩ : ∃ m, m = w.heap.size := ⟨_, rfl⟩
  rw [← hm] at M2 ⊢
  have A2 : Adj w2 w2.heap.size m 0 (fun _ => none) (adjA ([] : List Arc)) := ⟨M2, fun x y hx => (by cases hx), fun x y hx hy g hh => (by cases hh), fun x _ => rfl⟩
  refine ⟨_, _, _, rfl, fun x w' => ∃ (j n : Nat) (F : Int → Option Hd), x = (j : Int) ∧ j ≤ l1 ∧ n ≤ j ∧ Adj w' w2.heap.size m n F (adjA (As.take j)) ∧ (∀ t v, F t = some v → 0 ≤ t ∧ t < 16) ∧ Chg (fun b => b = m) w2 w', fun x _ => l1 - x.toNat,
    ⟨0, 0, fun _ => none, rfl, Nat.zero_le _, Nat.le_refl _, A2, fun t v ht => (by cases ht), Chg.refl _ _⟩, ?_⟩
  rintro _ w3 ⟨j, n, F, rfl, hj, hnj, A3, hF, k3⟩
  have cutB : ∀ {b : Nat} {t : TypeId} {cs : Array Value}, b = m → Blk w2 b t cs → False := fun hb B => M2.ne B hb.symm
  have S3 := S2.chg k3 (fun g hg hs => by obtain ⟨cs, B⟩ := S2.blk hg; exact cutB hs B)
  have k03 : Chg none_ w w3 := k02.up k3 fun b hb => by rw [hb, hm]; exact Nat.le_refl _
  refine bc (fun hlt => ?_) fun hge => ?_
  · have hj' : j < l1 := by simpa using hlt
    rw [wrapS (x := (j : Int) + 1) (by omega) (by omega)]
    obtain ⟨a, x, ha, hx, hrd⟩ := S3.re.ex hj'
    have hxi := hin x (List.mem_of_getElem? hx)
    refine onPtr_at ha ⟨by omega, by omega, _, _, hrd, boxed rfl rfl fun w5 B5 k5 s5 => ?_⟩
    have k35 : Chg none_ w3 w5.drew := k5.drew
    have A5 := A3.chgN k35
    have B5d := B5.drew
    have hlk : ∀ w', w5.drew = w' ∨ (∃ o, w' = w5.drew.alloc o) → (Instr.lookup 161 (.map (some m)) (.int .i64 x.1) false).run Try.prog w' = .ok (.slice ((F x.1).getD (none, 0, 0)).1 ((F x.1).getD (none, 0, 0)).2.1 ((F x.1).getD (none, 0, 0)).2.2) w' := fun w' hw => by
      have A' : Adj w' w2.heap.size m n F (adjA (As.take j)) := by
        rcases hw with rfl | ⟨o, rfl⟩
        · exact A5
        · exact A5.chgN ((Chg.refl none_ _).alloc _)
      exact A'.map.look (t := 161) (e := 35) Try.underlying161 (none, 0, 0) zero35 (ok16 hxi.1.1 hxi.1.2)
    have hal : (adjA (As.take j) x.1).length ≤ 1000000 := by
      have h1 := adjA_len (As.take j) x.1
      have h2 : (As.take j).length ≤ As.length := by rw [List.length_take]; omega
      omega
    have base2 : w2.heap.size ≤ w5.drew.heap.size := by have h1 := k3.size; have h2 := k35.size; omega
    have go : ∀ w7, w7 = w5.drew.alloc (.cells #[.int .i64 x.2] 3) → Keeps (fun p => p.block = w3.heap.size) w5.drew w7 ∧ ∃ (q3 : Option Addr) (l3 c3 : Nat), ∃ w8 : World, (Builtin.append_ #[35, 35] 35 #[.slice ((F x.1).getD (none, 0, 0)).1 ((F x.1).getD (none, 0, 0)).2.1 ((F x.1).getD (none, 0, 0)).2.2, .slice (some ⟨w5.drew.heap.size, 0, none⟩) 1 1]).run Try.prog w7 = .ok (.slice q3 l3 c3) w8 ∧ Keeps (fun p => p.block = w3.heap.size) w5.drew w8 ∧
        ∃ w9 : World, (Instr.mapUpdate 161 (.map (some m)) (.int .i64 x.1) (.slice q3 l3 c3)).run Try.prog w8 = .ok () w9 ∧ (∃ (j' n : Nat) (F : Int → Option Hd), ((j : Int) + 1) = (j' : Int) ∧ j' ≤ l1 ∧ n ≤ j' ∧ Adj w9 w2.heap.size m n F (adjA (As.take j')) ∧ (∀ t v, F t = some v → 0 ≤ t ∧ t < 16) ∧ Chg (fun b => b = m) w2 w9) ∧ l1 - ((j : Int) + 1).toNat < l1 - (j : Int).toNat := by
      refine newBox fun w7 B7 k7 s7 => ?_
      have A7 := A5.chgN k7
      have B57 := k7.blk B5d (fun x => x)
      obtain ⟨q3, l3, c3, w8, hrun, k8, w9, hup, A9, k9⟩ := adjStep A7 hxi.1 B7 (by omega) hal (by omega)
      refine ⟨fun p hp => k7.cell (by rw [hp]; exact B5d.lt) (fun x => x), q3, l3, c3, w8, hrun, fun p hp => ?_, w9, hup, ⟨j + 1, n + 1, _, by omega, hj', by omega, by rw [take_next hx, ← adjA_step]; exact A9, fun t v ht => ?_, ?_⟩, meas hj'⟩
      · refine (k8.cell (by rw [hp]; exact B57.lt) fun hs => ?_).trans (k7.cell (by rw [hp]; exact B5d.lt) fun x => x)
        rw [hp] at hs
        exact noS (A7.se' x.1) (by decide) hs B57
      · unfold upd at ht
        split at ht
        · rename_i he; rw [he]; exact hxi.1
        · exact hF t v ht
      · refine ((k3.trans' k35 fun _ x => x.elim).trans' k7 fun _ x => x.elim).trans' k9 fun b hb => ?_
        rcases hb with hb | hb
        · exact .inl hb
        · exact .inr ((A7.se' x.1).lt hb.symm).2
    refine ⟨fun p => p.block = w3.heap.size, x.1, rfl, (B5d.cell 0).trans rfl, x.1, rfl, (B5d.cell 0).trans rfl, x.2, add_block _ _, (B5d.cell0 1).trans rfl, ⟨_, _, _, w5.drew, hlk _ (.inl rfl), fun _ _ => rfl, go⟩, fun w10 e10 => ?_⟩
    obtain ⟨g1, q3, l3, c3, w8, g2, g3, g4⟩ := go w10 e10
    exact ⟨g1, _, _, _, w10, hlk _ (.inr ⟨_, e10⟩), g1, q3, l3, c3, w8, g2, g3, g4⟩
  have hjl : j = l1 := by have := of_decide_eq_false hge; omega
  subst hjl
  rw [List.take_of_length_le (by omega)] at A3
  obtain ⟨D, hown, hperm, hsz⟩ := A3.map.keys hF
  refine Calls.mono (keys82 (some m) w3) ?_
  rintro _ w4 ⟨rfl, rfl⟩
  refine ⟨_, rfl, Calls.mono (sorted75B hown (by simp only [maxLen]; omega) (by omega)) ?_⟩
  rintro _ w5 ⟨v, ss, rfl, hp, hrow, hnil, hb⟩
  rw [sort_keys (hp.trans hperm.symm)] at hrow
  have hslen : ss.length ≤ 16 := by rw [(hp.trans hperm.symm).length_eq]; exact keysF_len _
  obtain ⟨q6, c6, rfl, S5⟩ := SE.ofRowI hrow
  have k35 : Chg none_ w3 w5 := ((Chg.refl none_ w3).alloc _).trans (Chg.of_below (by simpa using hb) _)
  have hkl := S5.len
  have A5 := A3.chgN k35
  have hmem : ∀ x : Int, x ∈ keysF (un F) ↔ (F x).isSome = true := fun x => by
    rw [keysF_mem (fun t v ht => ?_) x, un_some]
    have h1 : (F t).isSome = true := by rw [← un_some F t, ht]; rfl
    obtain ⟨v', hv'⟩ := Option.isSome_iff_exists.1 h1
    exact hF t v' hv'
  have hlt' := keysF_lt (un F)
  generalize keysF (un F) = ks at *
  have k05 := k03.trans k35
  have hadj : ∀ x, ∀ t ∈ adjA As x, 0 ≤ t ∧ t < 16 := fun x t ht => (hin _ (adjA_mem.1 ht)).2
  refine ⟨_, _, _, rfl, fun q7 l7 c7 x w' => ∃ i : Nat, x = (i : Int) ∧ i ≤ ss.length ∧ q7 = none ∧ l7 = 0 ∧ (∀ (i' : Nat) (r : Int), i' < i → ks[i']? = some r → roundF As (stA As r) r = none) ∧ Chg none_ w5 w', fun _ _ _ x _ => ss.length - x.toNat,
    ⟨0, rfl, Nat.zero_le _, rfl, rfl, fun i' r h => absurd h (Nat.not_lt_zero _), Chg.refl _ _⟩, ?_⟩
  rintro q7 l7 c7 _ w6 ⟨i, rfl, hi, rfl, rfl, hno, k6⟩
  refine bc (fun hlt => ?_) fun hge => ?_
  rotate_left
  · have hil : i = ss.length := by have := of_decide_eq_false hge; omega
    refine ⟨none, 0, c7, [], rfl, RE.nil _ _ _, .inl ⟨fun r hr => ?_, rfl⟩, by omega, k05.trans k6⟩
    cases hFr : F (r : Int) with
    | none => exact round_nil hin (A5.no _ hFr)
    | some y =>
      obtain ⟨i', hi'⟩ := List.getElem?_of_mem ((hmem (r : Int)).2 (by rw [hFr]; rfl))
      exact hno i' _ (by have := get_lt hi'; omega) hi'
  have hi' : i < ss.length := by simpa using hlt
  rw [wrapS (x := (i : Int) + 1) (by omega) (by omega)]
  obtain ⟨a, r, ha, hr, hrd⟩ := (S5.chgN k6).re.ex hi'
  obtain ⟨yF, hyF⟩ := Option.isSome_iff_exists.1 ((hmem r).1 (List.mem_of_getElem? hr))
  have hr16 := hF r yF hyF
  have heq := bfs_round (stA_ok hr16 hin) hin hrise
  refine onPtr_at ha ⟨by omega, by omega, r, reads_one' hrd, Calls.use (short83 (A5.chgN k6) hadj hr16) ?_⟩
  rintro _ w7 ⟨q8, l8, c8, rfl, k7, hl8, hres⟩
  refine ⟨q8, l8, c8, rfl, _, w7, run_neqnil Try.underlying35 q8 l8 c8, ?_⟩
  rcases hres with ⟨rfl, rfl, hb0⟩ | ⟨hne, p, hb1, hR⟩
  · refine bcF rfl ⟨⟨i + 1, by omega, hi', rfl, rfl, fun i' r' hlt' hr' => ?_, k6.trans k7⟩, meas hi'⟩
    rcases Nat.lt_or_ge i' i with h1 | h1
    · exact hno i' r' h1 hr'
    · have : i' = i := by omega
      subst this
      rw [hr] at hr'; cases hr'
      rw [← heq]; exact hb0
  · refine bcT (by rw [isNone_ne hne]; rfl) ⟨q8, l8, c8, p, rfl, hR, .inr ⟨r.toNat, by omega, fun r' hr' => ?_, ?_⟩, hl8, k05.trans (k6.trans k7)⟩
    · cases hFr : F (r' : Int) with
      | none => exact round_nil hin (A5.no _ hFr)
      | some y =>
        obtain ⟨i', hi2⟩ := List.getElem?_of_mem ((hmem (r' : Int)).2 (by rw [hFr]; rfl))
        refine hno i' _ (Nat.lt_of_not_le fun hle => ?_) hi2
        rcases Nat.lt_or_ge i i' with h1 | h1
        · have h3 := List.pairwise_iff_getElem.1 hlt' i i' (get_lt hr) (get_lt hi2) h1
          rw [List.getElem?_eq_getElem (get_lt hr)] at hr
          rw [List.getElem?_eq_getElem (get_lt hi2)] at hi2
          have e1 := Option.some.inj hr
          have e2 := Option.some.inj hi2
          rw [e1, e2] at h3
          omega
        · have : i' = i := by omega
          subst this
          rw [hr] at hi2
          have := Option.some.inj hi2
          omega
    · rw [show ((r.toNat : Nat) : Int) = r by omega, ← heq]; exact hb1
end
end Full
end Go.Proofs.Ytibpbbjlecohiaa
set_option maxRecDepth 20000
namespace Go.Proofs.Ytibpbbjlecohiaa
namespace Full
open Go Go.Vc Go.RowKit
/-! # the laws LatchDoes and LatchLooks -/
def Lex (a b : Arc) : Prop := a.1 < b.1 ∨ (a.1 = b.1 ∧ a.2 ≤ b.2)
theorem rise_of {As : List Arc} (h : As.Pairwise Lex) : Rise As := fun x => by
  unfold adjA
  refine List.pairwise_map.2 ?_
  have h1 : (As.filter fun a => decide (a.1 = x)).Pairwise Lex := h.sublist List.filter_sublist
  refine h1.imp_of_mem fun {a b} ha hb hl => ?_
  have e1 : a.1 = x := by simpa using (List.mem_filter.1 ha).2
  have e2 : b.1 = x := by simpa using (List.mem_filter.1 hb).2
  rcases hl with hl | hl
  · omega
  · exact hl.2
theorem arcI_mem {to : List Int} {t : Int} {x : Nat} {a : Arc} (h : a ∈ arcI to t x) : a = (t, (x : Int)) := by
  unfold arcI at h
  split at h
  · simpa using h
  · simp at h
theorem arcsR_in (r : R8) : In16 (arcsR r 16) := fun a ha => by
  obtain ⟨t, ht, h1⟩ := List.mem_flatMap.1 ha
  obtain ⟨x, hx, h2⟩ := List.mem_flatMap.1 h1
  rw [arcI_mem h2]
  have := List.mem_range.1 ht
  have := List.mem_range.1 hx
  exact ⟨⟨by simp, by simp; omega⟩, by simp, by simp; omega⟩
theorem arcsR_rise (r : R8) : Rise (arcsR r 16) := by
  refine rise_of ?_
  rw [arcsR, List.pairwise_flatMap]
  refine ⟨fun t _ => ?_, (List.pairwise_lt_range (n := 16)).imp fun {t t'} hlt a ha b hb => ?_⟩
  · rw [List.pairwise_flatMap]
    refine ⟨fun x _ => ?_, (List.pairwise_lt_range (n := 16)).imp fun {x x'} hlt a ha b hb => ?_⟩
    · unfold arcI
      split
      · exact List.pairwise_singleton _ _
      · exact List.Pairwise.nil
    · rw [arcI_mem ha, arcI_mem hb]
      exact .inr ⟨rfl, by simp; omega⟩
  · obtain ⟨x, _, h2⟩ := List.mem_flatMap.1 ha
    obtain ⟨x', _, h3⟩ := List.mem_flatMap.1 hb
    rw [arcI_mem h2, arcI_mem h3]
    exact .inl (by simp; omega)
theorem rCycle81 {w : World} {br Q o2 : Nat} {gr : GR} {r : R8} (h : InvR w br Q o2 gr r) (hS : Small r) : Calls Try.prog 81 #[.pointer (some (ad o2))] w (Ret fun v w' => ∃ q l c ys, v = .slice q l c ∧ RE En.int w' q l ys ∧ Cyc (arcsR r 16) ys ∧ Chg none_ w w') := by
  refine f81.calls _ ?_
  unfold f81.wp
  refine Calls.use (rArcs39 h hS) ?_
  rintro _ w1 ⟨q1, l1, c1, rfl, S1, hl1, k1⟩
  refine ⟨_, _, _, rfl, Calls.use (round107 S1.re (by omega) (arcsR_in r) (arcsR_rise r)) ?_⟩
  rintro _ w2 ⟨q2, l2, c2, ys, rfl, S2, hc, _, k2⟩
  exact ⟨_, _, _, rfl, _, _, _, ys, rfl, S2.re, hc, k1.trans k2⟩
section
variable {W w : World} {bl br N Q o1 o2 : Nat} {g : G8} {s : S8} {gr : GR} {r : R8}
theorem asks41 (B : Bo W w bl br N Q o1 o2 g s gr r) (hQ : Q ≤ 4398046511104) (t k n m : Int) :
    Calls Try.prog 41 #[.pointer (some (ad o1)), .pointer (some (ad o2)), .agg #[.int .i64 t, .int .i64 k, .int .i64 n, .int .i64 m]] w (Ret fun v w' => v = .bool true ∧ Chg none_ w w') := by
  refine f41.calls _ _ _ _ _ _ ?_
  unfold f41.wp
  refine newBox fun w1 B1 k1 s1 => ⟨k, (B1.cell0 1).trans rfl, bc (fun _ => ?_) fun _ => bc (fun _ => ?_) fun _ => bc (fun _ => ?_) fun _ => bc (fun _ => ?_) fun _ => ⟨rfl, k1⟩⟩
  · refine Calls.use (waits34 (B.G.chgN k1) B.S.hf) ?_
    rintro _ w2 ⟨q2, l2, c2, rfl, S2, hl2, k2⟩
    refine ⟨_, _, _, rfl, Calls.use (rWaits37 (B.R.chgN (k1.trans k2)) B.small) ?_⟩
    rintro _ w3 ⟨q3, l3, c3, rfl, S3, _, k3⟩
    rw [waits_same B.S] at S3
    refine ⟨_, _, _, rfl, Calls.use (same36 (S2.chgN k3).re S3.re (by omega)) ?_⟩
    rintro _ w4 ⟨rfl, k4⟩
    exact ⟨_, rfl, rfl, k1.trans (k2.trans (k3.trans k4))⟩
  · have k1d : Chg none_ w w1.drew := k1.drew
    refine ⟨fun p => p.block < w1.drew.heap.size, t, B1.drew.lt, (B1.drew.cell 0).trans rfl, t, B1.drew.lt, (B1.drew.cell 0).trans rfl, Calls.use (holds21 (B.G.chgN k1d) hQ (by rw [← B.S.rel.eM]; exact B.m.1) (by rw [← B.S.rel.eL]; exact B.m.2.1) t) ?_⟩
    rintro _ w2 ⟨q2, l2, c2, rfl, S2, hl2, k2⟩
    refine ⟨_, _, _, rfl, k2.keeps, Calls.use (rHolds40 (B.R.chgN (k1d.trans k2)) B.small t) ?_⟩
    rintro _ w3 ⟨q3, l3, c3, rfl, S3, _, k3⟩
    rw [holds_same B.S] at S3
    refine ⟨_, _, _, rfl, Calls.use (same36 (S2.chgN k3).re S3.re (by omega)) ?_⟩
    rintro _ w4 ⟨rfl, k4⟩
    exact ⟨_, rfl, rfl, k1d.trans (k2.trans (k3.trans k4))⟩
  · refine Calls.use (arcs35 (B.G.chgN k1) B.S.small8 B.S.hf B.S.val) ?_
    rintro _ w2 ⟨q2, l2, c2, rfl, S2, hl2, k2⟩
    refine ⟨_, _, _, rfl, Calls.use (rArcs39 (B.R.chgN (k1.trans k2)) B.small) ?_⟩
    rintro _ w3 ⟨q3, l3, c3, rfl, S3, _, k3⟩
    rw [arcs_same B.S] at S3
    refine ⟨_, _, _, rfl, Calls.use (same38 (S2.chgN k3).re S3.re (by omega)) ?_⟩
    rintro _ w4 ⟨rfl, k4⟩
    exact ⟨_, rfl, rfl, k1.trans (k2.trans (k3.trans k4))⟩
  · have hin := arcsR_in r
    have hri := arcsR_rise r
    rw [arcs_same B.S] at hin hri
    refine Calls.use (cycle42 (B.G.chgN k1) B.S.small8 B.S.hf B.S.val hin hri) ?_
    rintro _ w2 ⟨q2, l2, c2, ys, rfl, S2, hc, hl2, k2⟩
    refine ⟨_, _, _, rfl, Calls.use (rCycle81 (B.R.chgN (k1.trans k2)) B.small) ?_⟩
    rintro _ w3 ⟨q3, l3, c3, zs, rfl, S3, hd, k3⟩
    rw [arcs_same B.S] at hd
    have := hc.uniq hd
    subst this
    refine ⟨_, _, _, rfl, Calls.use (same28 (S2.chg k3) S3 (by omega)) ?_⟩
    rintro _ w4 ⟨rfl, k4⟩
    exact ⟨_, rfl, rfl, k1.trans (k2.trans (k3.trans k4))⟩
/-- a call of both -/
theorem Bo.both (B : Bo W w bl br N Q o1 o2 g s gr r) {w6 w7 : World} {g5 : G8} {gr7 : GR} {s' : S8} {r' : R8} {N' Q' : Nat} (st5 : Stp o1 w g w6 g5) (G6 : InvG w6 bl N' Q' o1 g5 s') (stR : StpR o2 w6 gr w7 gr7) (R7 : InvR w7 br Q' o2 gr7 r') (hS : Sim s' r') (hkm : KM r r') (kW : Chg none_ W w) :
    Bo W w7 bl br N' Q' o1 o2 g5 s' gr7 r' ∧ Chg none_ W w7 := by
  have nB : ∀ b, w.heap.size ≤ b → ¬ OwnR gr o2 b := fun b hb ho => by have := (B.R.own_lt ho).1; omega
  have hz := st5.chg.size
  refine ⟨⟨G6.chg stR.chg fun b hb ho => ?_, R7, hS, fun b h1 h2 => ?_, ?_, B.bl, B.br⟩, ?_⟩
  · rcases st5.grow b ho with h1 | h1
    · exact B.A b h1 hb
    · exact nB b h1 hb
  · have h5 := (G6.own_lt h1).1
    rcases st5.grow b h1 with h1 | h1 <;> rcases stR.grow b h2 with h2 | h2
    · exact B.A b h1 h2
    · have := (B.G.own_lt h1).1; omega
    · exact nB b h1 h2
    · omega
  · obtain ⟨h1, h2, h3⟩ := hkm
    rw [h1, h2, h3]; exact B.m
  · have k7 : Chg (fun b => Own g o1 b ∨ OwnR gr o2 b) w w7 := (st5.chg.mono fun _ _ h => .inl h).trans' stR.chg fun b hb => .inl (.inr hb)
    refine kW.up k7 fun b hb => ?_
    rcases hb with hb | hb
    · exact Nat.le_trans B.bl (B.G.own_lt hb).2
    · exact Nat.le_trans B.br (B.R.own_lt hb).2
end
end Full
end Go.Proofs.Ytibpbbjlecohiaa
