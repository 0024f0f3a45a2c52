import Derived.Test.YtibpbbjlecohiaaLcU
set_option maxRecDepth 20000
namespace Go.Proofs.Ytibpbbjlecohiaa
namespace Full
open Go Go.Vc Go.RowKit
/-! # the shortest round: plain -/
abbrev Arc := Int × Int
def adjA (As : List Arc) (x : Int) : List Int := (As.filter fun a => decide (a.1 = x)).map Prod.snd
theorem adjA_cons (a : Arc) (As : List Arc) (x : Int) : adjA (a :: As) x = if a.1 = x then a.2 :: adjA As x else adjA As x := by
  unfold adjA
  by_cases h : a.1 = x
  · rw [List.filter_cons_of_pos (by simpa using h), if_pos h]; rfl
  · rw [List.filter_cons_of_neg (by simpa using h), if_neg h]
theorem adjA_app (As Bs : List Arc) (x : Int) : adjA (As ++ Bs) x = adjA As x ++ adjA Bs x := by simp [adjA]
theorem adjA_mem {As : List Arc} {x t : Int} : t ∈ adjA As x ↔ (x, t) ∈ As := by
  simp only [adjA, List.mem_map, List.mem_filter, decide_eq_true_eq]
  constructor
  · rintro ⟨⟨a, b⟩, ⟨h, rfl⟩, rfl⟩; exact h
  · intro h; exact ⟨(x, t), ⟨h, rfl⟩, rfl⟩
/-! ## the program's search -/
def lst (p : List Int) : Int := p.getLast?.getD 0
@[simp] theorem lst_snoc (p : List Int) (t : Int) : lst (p ++ [t]) = t := by simp [lst]
abbrev Sb := List Int × List (List Int)
def inT (r : Int) (p : List Int) : List Int → Sb → Sb × Bool
  | [], s => (s, false)
  | t :: ts, s => if t = r then (s, true) else if t ∈ s.1 then inT r p ts s else inT r p ts (s.1 ++ [t], s.2 ++ [p ++ [t]])
def inP (adj : Int → List Int) (r : Int) : List (List Int) → Sb → Sb × Option (List Int)
  | [], s => (s, none)
  | p :: ps, s => if (inT r p (adj (lst p)) s).2 then ((inT r p (adj (lst p)) s).1, some p) else inP adj r ps (inT r p (adj (lst p)) s).1
def bfs (adj : Int → List Int) (r : Int) : Nat → List (List Int) → List Int → Option (List Int)
  | 0, _, _ => none
  | n + 1, ps, seen => if ps = [] then none else
    match (inP adj r ps (seen, [])).2 with
    | some p => some p
    | none => bfs adj r n (inP adj r ps (seen, [])).1.2 (inP adj r ps (seen, [])).1.1
section
variable {adj : Int → List Int} {r : Int}
theorem inT_dead (p : List Int) : ∀ (ts : List Int) (s : Sb), r ∉ ts → ∃ nw, inT r p ts s = ((s.1 ++ nw, s.2 ++ nw.map fun t => p ++ [t]), false) ∧ ∀ x ∈ nw, x ∈ ts
  | [], s, _ => ⟨[], by simp [inT], by simp⟩
  | t :: ts, s, h => by
    have ht : t ≠ r := fun e => h (by simp [e])
    have hs : r ∉ ts := fun e => h (by simp [e])
    by_cases hm : t ∈ s.1
    · obtain ⟨nw, h1, h2⟩ := inT_dead p ts s hs
      exact ⟨nw, by rw [inT, if_neg ht, if_pos hm, h1], fun x hx => by simp [h2 x hx]⟩
    · obtain ⟨nw, h1, h2⟩ := inT_dead p ts (s.1 ++ [t], s.2 ++ [p ++ [t]]) hs
      refine ⟨t :: nw, by rw [inT, if_neg ht, if_neg hm, h1]; simp, fun x hx => ?_⟩
      rcases List.mem_cons.1 hx with rfl | hx
      · simp
      · simp [h2 x hx]
theorem inP_dead : ∀ (ps : List (List Int)) (s : Sb), (∀ p ∈ ps, r ∉ adj (lst p)) → ∃ nw : List (List Int × Int), inP adj r ps s = ((s.1 ++ nw.map Prod.snd, s.2 ++ nw.map fun x => x.1 ++ [x.2]), none) ∧ ∀ x ∈ nw, x.1 ∈ ps ∧ x.2 ∈ adj (lst x.1)
  | [], s, _ => ⟨[], by simp [inP], by simp⟩
  | p :: ps, s, h => by
    obtain ⟨nw, h1, h2⟩ := inT_dead p (adj (lst p)) s (h p (by simp))
    obtain ⟨nw', h3, h4⟩ := inP_dead ps (s.1 ++ nw, s.2 ++ nw.map fun t => p ++ [t]) (fun q hq => h q (by simp [hq]))
    refine ⟨nw.map (fun t => (p, t)) ++ nw', ?_, fun x hx => ?_⟩
    · rw [inP, h1]
      simp only [Bool.false_eq_true, if_false]
      rw [h3]
      simp [Function.comp_def]
    · rcases List.mem_append.1 hx with hx | hx
      · obtain ⟨t, ht, rfl⟩ := List.mem_map.1 hx
        exact ⟨by simp, h2 t ht⟩
      · exact ⟨by simp [(h4 x hx).1], (h4 x hx).2⟩
theorem inP_app : ∀ (a b : List (List Int)) (s : Sb), (inP adj r a s).2 = none → inP adj r (a ++ b) s = inP adj r b (inP adj r a s).1
  | [], b, s, _ => rfl
  | p :: a, b, s, h => by
    rw [List.cons_append, inP]
    rw [inP] at h ⊢
    by_cases hp : (inT r p (adj (lst p)) s).2 = true
    · rw [if_pos hp] at h; cases h
    · rw [if_neg hp] at h ⊢
      rw [if_neg hp]
      exact inP_app a b _ h
/-- a target is reached: what comes behind it does not count -/
theorem inT_hit (p : List Int) : ∀ (pre post : List Int) (s : Sb), (inT r p (pre ++ r :: post) s).2 = true
  | [], post, s => by simp [inT]
  | t :: pre, post, s => by
    rw [List.cons_append, inT]
    split
    · rfl
    · split
      · exact inT_hit p pre post _
      · exact inT_hit p pre post _
theorem inT_app (p : List Int) : ∀ (a b : List Int) (s : Sb), (inT r p a s).2 = false → inT r p (a ++ b) s = inT r p b (inT r p a s).1
  | [], b, s, _ => rfl
  | t :: a, b, s, h => by
    rw [List.cons_append]
    rw [inT] at h
    rw [inT, inT]
    by_cases ht : t = r
    · rw [if_pos ht] at h; cases h
    · rw [if_neg ht] at h ⊢
      rw [if_neg ht]
      by_cases hm : t ∈ s.1
      · rw [if_pos hm] at h ⊢
        rw [if_pos hm]
        exact inT_app p a b _ h
      · rw [if_neg hm] at h ⊢
        rw [if_neg hm]
        exact inT_app p a b _ h
end
/-! ## over how many arcs one comes to r -/
structure StOk (As : List Arc) (r : Int) (st : Int → Int) : Prop where
  self : st r = 0
  zero : ∀ v, st v = 0 → v = r
  back : ∀ u v, (u, v) ∈ As → 0 ≤ st v → st v ≤ 15 → 0 ≤ st u ∧ st u ≤ st v + 1
  next : ∀ u k, 0 ≤ k → st u = k + 1 → ∃ v, (u, v) ∈ As ∧ st v = k
  hi : ∀ u, st u ≤ 16
def bestG (st : Int → Int) (r : Int) : Int → List Arc → Int
  | b, [] => b
  | b, a :: xs => bestG st r (if a.1 = r ∧ 0 ≤ st a.2 ∧ (b < 0 ∨ st a.2 < st b) then a.2 else b) xs
def nextG (st : Int → Int) (at_ : Int) : Int → List Arc → Int
  | b, [] => b
  | b, a :: xs => nextG st at_ (if a.1 = at_ ∧ 0 ≤ st a.2 ∧ st a.2 = st at_ - 1 ∧ (b < 0 ∨ a.2 < b) then a.2 else b) xs
def wk (As : List Arc) (st : Int → Int) : Nat → Int → List Int
  | 0, _ => []
  | k + 1, v => v :: wk As st k (nextG st v (-1) As)
/-- of arcs: the first of those from one task come in rising order -/
def Rise (As : List Arc) : Prop := ∀ x, (adjA As x).Pairwise fun a b => a ≤ b
def In16 (As : List Arc) : Prop := ∀ a ∈ As, (0 ≤ a.1 ∧ a.1 < 16) ∧ 0 ≤ a.2 ∧ a.2 < 16
def BestOk (st : Int → Int) (l : List Int) (b : Int) : Prop := (b = -1 ∧ ∀ v ∈ l, st v < 0) ∨ (0 ≤ b ∧ 0 ≤ st b ∧ ∃ pre post, l = pre ++ b :: post ∧ (∀ v ∈ pre, ¬ (0 ≤ st v ∧ st v ≤ st b)) ∧ ∀ v ∈ post, ¬ (0 ≤ st v ∧ st v < st b))
theorem best_ok {st : Int → Int} {r : Int} : ∀ (As : List Arc), In16 As → ∀ (l : List Int) (b : Int), BestOk st l b → BestOk st (l ++ adjA As r) (bestG st r b As)
  | [], _, l, b, h => by simpa [adjA, bestG] using h
  | a :: As, hin, l, b, h => by
    have hin' : In16 As := fun x hx => hin x (by simp [hx])
    have ha := (hin a (by simp)).2
    rw [adjA_cons, bestG]
    by_cases hr : a.1 = r
    · rw [if_pos hr, show l ++ a.2 :: adjA As r = (l ++ [a.2]) ++ adjA As r by simp]
      refine best_ok As hin' _ _ ?_
      by_cases hc : a.1 = r ∧ 0 ≤ st a.2 ∧ (b < 0 ∨ st a.2 < st b)
      · rw [if_pos hc]
        obtain ⟨_, h0, h1⟩ := hc
        refine .inr ⟨ha.1, h0, l, [], rfl, fun v hv => ?_, by simp⟩
        rcases h with ⟨_, h⟩ | ⟨hb, hb', pre, post, rfl, h2, h3⟩
        · have := h v hv; omega
        · have h1 : st a.2 < st b := h1.resolve_left (by omega)
          rcases List.mem_append.1 hv with hv | hv
          · have := h2 v hv; omega
          · rcases List.mem_cons.1 hv with rfl | hv
            · omega
            · have := h3 v hv; omega
      · rw [if_neg hc]
        rcases h with ⟨hb, h⟩ | ⟨hb, hb', pre, post, rfl, h2, h3⟩
        · refine .inl ⟨hb, fun v hv => ?_⟩
          rcases List.mem_append.1 hv with hv | hv
          · exact h v hv
          · rw [List.mem_singleton.1 hv]
            by_cases h0 : 0 ≤ st a.2
            · exact absurd ⟨hr, h0, .inl (by omega)⟩ hc
            · omega
        · refine .inr ⟨hb, hb', pre, post ++ [a.2], by simp, h2, fun v hv => ?_⟩
          rcases List.mem_append.1 hv with hv | hv
          · exact h3 v hv
          · rw [List.mem_singleton.1 hv]
            exact fun h0 => hc ⟨hr, h0.1, .inr h0.2⟩
    · rw [if_neg hr, if_neg (fun h => hr h.1)]
      exact best_ok As hin' _ _ h
def NextOk (st : Int → Int) (at_ : Int) (l : List Int) (b : Int) : Prop := (b = -1 ∧ ∀ v ∈ l, ¬ (0 ≤ st v ∧ st v = st at_ - 1)) ∨ (0 ≤ b ∧ 0 ≤ st b ∧ st b = st at_ - 1 ∧ ∃ pre post, l = pre ++ b :: post ∧ ∀ v ∈ pre, ¬ (0 ≤ st v ∧ st v = st at_ - 1))
theorem next_ok {st : Int → Int} {at_ : Int} : ∀ (As : List Arc), In16 As → ∀ (l : List Int) (b : Int), (l ++ adjA As at_).Pairwise (fun a b => a ≤ b) → NextOk st at_ l b → NextOk st at_ (l ++ adjA As at_) (nextG st at_ b As)
  | [], _, l, b, _, h => by simpa [adjA, nextG] using h
  | a :: As, hin, l, b, hp, h => by
    have hin' : In16 As := fun x hx => hin x (by simp [hx])
    have ha := (hin a (by simp)).2
    rw [adjA_cons] at hp ⊢
    rw [nextG]
    by_cases hr : a.1 = at_
    · rw [if_pos hr, show l ++ a.2 :: adjA As at_ = (l ++ [a.2]) ++ adjA As at_ by simp] at hp ⊢
      refine next_ok As hin' _ _ hp ?_
      rcases h with ⟨hb, h⟩ | ⟨hb, hb0, hb1, pre, post, rfl, h2⟩
      · by_cases hc : a.1 = at_ ∧ 0 ≤ st a.2 ∧ st a.2 = st at_ - 1 ∧ (b < 0 ∨ a.2 < b)
        · rw [if_pos hc]
          exact .inr ⟨ha.1, hc.2.1, hc.2.2.1, l, [], rfl, h⟩
        · rw [if_neg hc]
          refine .inl ⟨hb, fun v hv => ?_⟩
          rcases List.mem_append.1 hv with hv | hv
          · exact h v hv
          · rw [List.mem_singleton.1 hv]
            exact fun h0 => hc ⟨hr, h0.1, h0.2, .inl (by omega)⟩
      · have hle : b ≤ a.2 := by
          have := (List.pairwise_append.1 (List.pairwise_append.1 hp).1).2.2 b (by simp) a.2 (by simp)
          exact this
        rw [if_neg (fun hc => by have := hc.2.2.2; omega)]
        exact .inr ⟨hb, hb0, hb1, pre, post ++ [a.2], by simp, h2⟩
    · rw [if_neg hr] at hp ⊢
      rw [if_neg (fun h => hr h.1)]
      exact next_ok As hin' _ _ hp h
end Full
end Go.Proofs.Ytibpbbjlecohiaa
set_option maxRecDepth 20000
namespace Go.Proofs.Ytibpbbjlecohiaa
namespace Full
open Go Go.Vc Go.RowKit
/-! # what the search finds -/
def Dead (As : List Arc) (st : Int → Int) (m : Int) (p : List Int) : Prop := ∀ t ∈ adjA As (lst p), ¬ (0 ≤ st t ∧ st t ≤ m)
section
variable {As : List Arc} {r : Int} {st : Int → Int}
theorem Dead.noR (S : StOk As r st) {m : Int} {p : List Int} (h : Dead As st m p) (hm : 0 ≤ m) : r ∉ adjA As (lst p) := fun hr => h r hr (by rw [S.self]; omega)
/-- no round goes through r -/
theorem bfs_none (S : StOk As r st) : ∀ (n : Nat) (ps : List (List Int)) (seen : List Int), n ≤ 17 → (∀ p ∈ ps, Dead As st ((n : Int) - 1) p) → bfs (adjA As) r n ps seen = none
  | 0, _, _, _, _ => rfl
  | n + 1, ps, seen, hn, h => by
    rw [bfs]
    by_cases hp : ps = []
    · rw [if_pos hp]
    · rw [if_neg hp]
      have hno : ∀ p ∈ ps, r ∉ adjA As (lst p) := fun p hp => (h p hp).noR S (by omega)
      obtain ⟨nw, h1, h2⟩ := inP_dead ps (seen, []) hno
      rw [h1]
      refine bfs_none S n _ _ (by omega) fun p hp => ?_
      simp only [List.nil_append, List.mem_map] at hp
      obtain ⟨x, hx, rfl⟩ := hp
      intro t ht hst
      rw [lst_snoc] at ht
      have := S.back _ _ (adjA_mem.1 ht) hst.1 (by omega)
      exact h x.1 (h2 x hx).1 x.2 (h2 x hx).2 ⟨this.1, by omega⟩
/-- the round that it finds: the shortest, the first by its numbers -/
theorem bfs_some (S : StOk As r st) (hin : In16 As) (hr : Rise As) : ∀ (e n : Nat) (A B : List (List Int)) (c : List Int) (seen : List Int) (pre post : List Int) (t : Int), e + 1 ≤ n → e ≤ 16 →
    (∀ p ∈ A, Dead As st e p) → (∀ p ∈ B, Dead As st ((e : Int) - 1) p) → (∀ x ∈ pre ++ post, ¬ (0 ≤ st x ∧ st x ≤ (e : Int) - 1)) →
    adjA As (lst c) = pre ++ t :: post → st t = e → (∀ u ∈ pre, st u ≠ e) → (∀ s ∈ seen, s ≠ r → ¬ (0 ≤ st s ∧ st s ≤ e)) →
    bfs (adjA As) r n (A ++ c :: B) seen = some (c ++ wk As st e t)
  | e, 0, _, _, _, _, _, _, _, hn, _, _, _, _, _, _, _, _ => by omega
  | e, n + 1, A, B, c, seen, pre, post, t, hn, he, hA, hB, hpp, hadj, hst, hpre, hseen => by
    rw [bfs, if_neg (by simp)]
    obtain ⟨nwA, a1, a2⟩ := inP_dead (r := r) (adj := adjA As) A (seen, []) fun p hp => (hA p hp).noR S (by omega)
    have hAn : (inP (adjA As) r A (seen, [])).2 = none := by rw [a1]
    rw [inP_app A _ _ hAn, a1]
    simp only [List.nil_append]
    rw [inP]
    have hpr : r ∉ pre := fun h => by
      by_cases h0 : e = 0
      · exact hpre r h (by rw [S.self, h0]; rfl)
      · exact hpp r (by simp [h]) (by rw [S.self]; omega)
    cases e with
    | zero =>
      have htr : t = r := S.zero t (by rw [hst]; rfl)
      subst htr
      rw [if_pos (by rw [hadj]; exact inT_hit c pre post _)]
      simp [wk]
    | succ e =>
      have htr : t ≠ r := fun h => by rw [h, S.self] at hst; omega
      obtain ⟨nwc, c1, c2⟩ := inT_dead (r := r) c pre (seen ++ nwA.map Prod.snd, nwA.map fun x => x.1 ++ [x.2]) hpr
      have hcn : (inT r c pre (seen ++ nwA.map Prod.snd, nwA.map fun x => x.1 ++ [x.2])).2 = false := by rw [c1]
      have hts : t ∉ (seen ++ nwA.map Prod.snd) ++ nwc := fun h => by
        rcases List.mem_append.1 h with h | h
        · rcases List.mem_append.1 h with h | h
          · exact hseen t h htr (by omega)
          · obtain ⟨x, hx, hxt⟩ := List.mem_map.1 h
            have := a2 x hx
            exact hA x.1 this.1 x.2 this.2 (by rw [hxt]; omega)
        · exact hpre t (c2 t h) hst
      have hpo : r ∉ post := fun h => hpp r (by simp [h]) (by rw [S.self]; omega)
      obtain ⟨nwp, p1, p2⟩ := inT_dead (r := r) c post ((seen ++ nwA.map Prod.snd ++ nwc) ++ [t], ((nwA.map fun x => x.1 ++ [x.2]) ++ nwc.map fun u => c ++ [u]) ++ [c ++ [t]]) hpo
      have hc : inT r c (adjA As (lst c)) (seen ++ nwA.map Prod.snd, nwA.map fun x => x.1 ++ [x.2]) = ((((seen ++ nwA.map Prod.snd ++ nwc) ++ [t]) ++ nwp, (((nwA.map fun x => x.1 ++ [x.2]) ++ nwc.map fun u => c ++ [u]) ++ [c ++ [t]]) ++ nwp.map fun u => c ++ [u]), false) := by
        rw [hadj, inT_app c pre _ _ hcn, c1, inT, if_neg htr, if_neg hts, p1]
      rw [hc]
      simp only [Bool.false_eq_true, if_false]
      obtain ⟨nwB, b1, b2⟩ := inP_dead (r := r) (adj := adjA As) B ((((seen ++ nwA.map Prod.snd ++ nwc) ++ [t]) ++ nwp), (((nwA.map fun x => x.1 ++ [x.2]) ++ nwc.map fun u => c ++ [u]) ++ [c ++ [t]]) ++ nwp.map fun u => c ++ [u]) fun p hp => (hB p hp).noR S (by omega)
      rw [b1]
      simp only
      -- the next level
      have hnx := next_ok (st := st) (at_ := t) As hin [] (-1) (by simpa using hr t) (.inl ⟨rfl, by simp⟩)
      rw [List.nil_append] at hnx
      rcases hnx with ⟨_, h⟩ | ⟨hb, hb0, hb1, pre', post', hadj', hpre'⟩
      · obtain ⟨v, hv, hvs⟩ := S.next t e (by omega) (by rw [hst]; omega)
        exact absurd ⟨by omega, by omega⟩ (h v (adjA_mem.2 hv))
      have key : ∀ u v : Int, v ∈ adjA As u → ∀ m : Int, m ≤ 15 → ¬ (0 ≤ st u ∧ st u ≤ m + 1) → ¬ (0 ≤ st v ∧ st v ≤ m) := fun u v hv m hm hu hst => by
        have := S.back u v (adjA_mem.1 hv) hst.1 (by omega)
        exact hu ⟨this.1, by omega⟩
      have ih := bfs_some S hin hr e n ((nwA.map fun x => x.1 ++ [x.2]) ++ nwc.map fun u => c ++ [u]) ((nwp.map fun u => c ++ [u]) ++ nwB.map fun x => x.1 ++ [x.2]) (c ++ [t]) (((seen ++ nwA.map Prod.snd ++ nwc) ++ [t]) ++ nwp ++ nwB.map Prod.snd) pre' post' (nextG st t (-1) As) (by omega) (by omega)
        (fun p hp => ?_) (fun p hp => ?_) (fun x hx => ?_) (by rw [lst_snoc]; exact hadj') (by rw [hb1, hst]; omega) (fun u hu h => hpre' u hu ⟨by omega, by omega⟩) (fun s hs hsr => ?_)
      · rw [show (((nwA.map fun x => x.1 ++ [x.2]) ++ nwc.map fun u => c ++ [u]) ++ [c ++ [t]]) ++ (nwp.map fun u => c ++ [u]) ++ (nwB.map fun x => x.1 ++ [x.2]) = ((nwA.map fun x => x.1 ++ [x.2]) ++ nwc.map fun u => c ++ [u]) ++ (c ++ [t]) :: ((nwp.map fun u => c ++ [u]) ++ nwB.map fun x => x.1 ++ [x.2]) by simp]
        rw [ih]
        simp [wk]
      · rcases List.mem_append.1 hp with hp | hp
        · obtain ⟨x, hx, rfl⟩ := List.mem_map.1 hp
          intro v hv
          rw [lst_snoc] at hv
          exact key x.2 v hv e (by omega) (fun h => hA x.1 (a2 x hx).1 x.2 (a2 x hx).2 ⟨h.1, by omega⟩)
        · obtain ⟨u, hu, rfl⟩ := List.mem_map.1 hp
          intro v hv
          rw [lst_snoc] at hv
          have hu' := c2 u hu
          exact key u v hv e (by omega) (fun h => by
            have h1 := hpre u hu'
            exact hpp u (by simp [hu']) ⟨h.1, by omega⟩)
      · have fin : ∀ u : Int, ¬ (0 ≤ st u ∧ st u ≤ (e : Int)) → ∀ q : List Int, Dead As st ((e : Int) - 1) (q ++ [u]) := fun u hu q v hv => by
          rw [lst_snoc] at hv
          exact key u v hv _ (by omega) (fun h => hu ⟨h.1, by omega⟩)
        rcases List.mem_append.1 hp with hp | hp
        · obtain ⟨u, hu, rfl⟩ := List.mem_map.1 hp
          exact fin u (fun h => hpp u (by simp [p2 u hu]) ⟨h.1, by omega⟩) c
        · obtain ⟨x, hx, rfl⟩ := List.mem_map.1 hp
          exact fin x.2 (fun h => hB x.1 (b2 x hx).1 x.2 (b2 x hx).2 ⟨h.1, by omega⟩) x.1
      · have : x ∈ adjA As t := by rw [hadj']; rcases List.mem_append.1 hx with h | h <;> simp [h]
        intro h
        have := S.back t x (adjA_mem.1 this) h.1 (by omega)
        omega
      · simp only [List.mem_append, List.mem_map, List.mem_singleton] at hs
        intro h
        rcases hs with ((((hs | ⟨x, hx, rfl⟩) | hs) | rfl) | hs) | ⟨x, hx, rfl⟩
        · exact hseen s hs hsr ⟨h.1, by omega⟩
        · exact hA x.1 (a2 x hx).1 x.2 (a2 x hx).2 ⟨h.1, by omega⟩
        · exact hpp s (by simp [c2 s hs]) ⟨h.1, by omega⟩
        · omega
        · exact hpp s (by simp [p2 s hs]) ⟨h.1, by omega⟩
        · exact hB x.1 (b2 x hx).1 x.2 (b2 x hx).2 ⟨h.1, by omega⟩
/-- the document's round from r -/
def roundF (As : List Arc) (st : Int → Int) (r : Int) : Option (List Int) := if bestG st r (-1) As < 0 then none else some (r :: wk As st (st (bestG st r (-1) As)).toNat (bestG st r (-1) As))
theorem bfs_round (S : StOk As r st) (hin : In16 As) (hr : Rise As) : bfs (adjA As) r 17 [[r]] [r] = roundF As st r := by
  have hb := best_ok (st := st) (r := r) As hin [] (-1) (.inl ⟨rfl, by simp⟩)
  rw [List.nil_append] at hb
  unfold roundF
  have hl : lst [r] = r := rfl
  rcases hb with ⟨hb, h⟩ | ⟨hb, hb0, pre, post, hadj, h1, h2⟩
  · rw [if_pos (by omega)]
    refine bfs_none S 17 _ _ (by omega) fun p hp t ht hst => ?_
    rw [List.mem_singleton.1 hp, hl] at ht
    have := h t ht
    omega
  · rw [if_neg (by omega)]
    have hhi := S.hi (bestG st r (-1) As)
    have := bfs_some S hin hr (st (bestG st r (-1) As)).toNat 17 [] [] [r] [r] pre post (bestG st r (-1) As) (by omega) (by omega) (by simp) (by simp) (fun x hx => ?_) (by rw [hl]; exact hadj) (by omega) (fun u hu h => h1 u hu ⟨by omega, by omega⟩) (fun s hs hsr => absurd (List.mem_singleton.1 hs) hsr)
    · simpa using this
    · intro hh
      rcases List.mem_append.1 hx with hx | hx
      · exact h1 x hx ⟨hh.1, by omega⟩
      · exact h2 x hx ⟨hh.1, by omega⟩
end
end Full
end Go.Proofs.Ytibpbbjlecohiaa
set_option maxRecDepth 20000
namespace Go.Proofs.Ytibpbbjlecohiaa
namespace Full
open Go Go.Vc Go.RowKit
/-! # over how many arcs: the reference's Steps -/
def stF (out : List Int) (v : Int) : Int := if 0 ≤ v then out[v.toNat]?.getD (-1) else -1
def relax (n : Nat) (out : List Int) (a : Arc) : List Int := if stF out a.2 = n ∧ stF out a.1 < 0 then out.set a.1.toNat (n + 1) else out
def stepsN (As : List Arc) (r : Int) : Nat → List Int
  | 0 => (List.replicate 16 (-1)).set r.toNat 0
  | n + 1 => As.foldl (relax n) (stepsN As r n)
theorem stF_set {out : List Int} {u v x : Int} (hu : 0 ≤ u) (hl : u.toNat < out.length) : stF (out.set u.toNat x) v = if v = u then x else stF out v := by
  unfold stF
  by_cases hv : 0 ≤ v
  · rw [if_pos hv, if_pos hv]
    by_cases h : v = u
    · subst h; rw [if_pos rfl, List.getElem?_set_self hl]; rfl
    · rw [if_neg h, List.getElem?_set_ne (by omega)]
  · rw [if_neg hv, if_neg hv, if_neg (by omega)]
theorem relax_len (n : Nat) (out : List Int) (a : Arc) : (relax n out a).length = out.length := by
  unfold relax; split <;> simp
theorem foldl_len (n : Nat) : ∀ (As : List Arc) (out : List Int), (As.foldl (relax n) out).length = out.length
  | [], _ => rfl
  | a :: As, out => by rw [List.foldl_cons, foldl_len n As, relax_len]
theorem stepsN_len (As : List Arc) (r : Int) : ∀ n, (stepsN As r n).length = 16
  | 0 => by simp [stepsN]
  | n + 1 => by rw [stepsN, foldl_len, stepsN_len As r n]
structure SInv (As : List Arc) (r : Int) (n m : Nat) (P : List Arc) (out : List Int) : Prop where
  len : out.length = 16
  self : stF out r = 0
  zero : ∀ v, stF out v = 0 → v = r
  hi : ∀ v, stF out v ≤ m
  next : ∀ u k, 0 ≤ k → stF out u = k + 1 → ∃ v, (u, v) ∈ As ∧ stF out v = k
  back : ∀ u v, (u, v) ∈ As → 0 ≤ stF out v → (stF out v < n ∨ (stF out v = n ∧ (u, v) ∈ P)) → 0 ≤ stF out u ∧ stF out u ≤ stF out v + 1
theorem SInv.step {As : List Arc} {r : Int} {n : Nat} {P : List Arc} {out : List Int} (h : SInv As r n (n + 1) P out) {a : Arc} (ha : a ∈ As) (hin : In16 As) : SInv As r n (n + 1) (P ++ [a]) (relax n out a) := by
  have hb := hin a ha
  unfold relax
  by_cases hc : stF out a.2 = n ∧ stF out a.1 < 0
  · rw [if_pos hc]
    have e : ∀ v, stF (out.set a.1.toNat ((n : Int) + 1)) v = if v = a.1 then (n : Int) + 1 else stF out v := fun v => stF_set hb.1.1 (by rw [h.len]; omega)
    refine ⟨by simp [h.len], ?_, fun v hv => ?_, fun v => ?_, fun u k hk hu => ?_, fun u v huv h0 hs => ?_⟩
    · rw [e, if_neg (fun hr => by have := h.self; rw [hr] at this; omega)]; exact h.self
    · rw [e] at hv
      split at hv
      · omega
      · exact h.zero v hv
    · rw [e]
      split
      · omega
      · exact h.hi v
    · rw [e] at hu
      split at hu
      · rename_i hua
        refine ⟨a.2, by rw [hua]; exact ha, ?_⟩
        rw [e, if_neg (fun hh => by rw [hh] at hc; omega)]
        omega
      · obtain ⟨v, hv, hvk⟩ := h.next u k hk hu
        exact ⟨v, hv, by rw [e, if_neg (fun hh => by rw [hh] at hvk; omega)]; exact hvk⟩
    · rw [e] at h0 hs
      rw [e, e]
      by_cases hv : v = a.1
      · rw [if_pos hv] at h0 hs
        omega
      · rw [if_neg hv] at h0 hs
        rw [if_neg hv]
        by_cases hu : u = a.1
        · rw [if_pos hu]
          refine ⟨by omega, ?_⟩
          rcases hs with hs | ⟨hs, _⟩
          · have := h.back u v huv h0 (.inl hs)
            rw [hu] at this; omega
          · omega
        · rw [if_neg hu]
          refine h.back u v huv h0 ?_
          rcases hs with hs | ⟨hs, hm⟩
          · exact .inl hs
          · rcases List.mem_append.1 hm with hm | hm
            · exact .inr ⟨hs, hm⟩
            · rw [List.mem_singleton] at hm
              exact absurd (by rw [← hm]) hu
  · rw [if_neg hc]
    refine { h with back := fun u v huv h0 hs => ?_ }
    rcases hs with hs | ⟨hs, hm⟩
    · exact h.back u v huv h0 (.inl hs)
    · rcases List.mem_append.1 hm with hm | hm
      · exact h.back u v huv h0 (.inr ⟨hs, hm⟩)
      · rw [List.mem_singleton] at hm
        have h1 : ¬ stF out u < 0 := fun hu => hc (by rw [← hm]; exact ⟨hs, hu⟩)
        have := h.hi u
        omega
theorem SInv.fold {As : List Arc} {r : Int} {n : Nat} (hin : In16 As) : ∀ (Q P : List Arc) (out : List Int), (∀ a ∈ Q, a ∈ As) → SInv As r n (n + 1) P out → SInv As r n (n + 1) (P ++ Q) (Q.foldl (relax n) out)
  | [], P, out, _, h => by simpa using h
  | a :: Q, P, out, hq, h => by
    rw [List.foldl_cons, show P ++ a :: Q = (P ++ [a]) ++ Q by simp]
    exact SInv.fold hin Q _ _ (fun x hx => hq x (by simp [hx])) (h.step (hq a (by simp)) hin)
theorem stepsN_ok {As : List Arc} {r : Int} (hr : 0 ≤ r ∧ r < 16) (hin : In16 As) : ∀ n, SInv As r n n [] (stepsN As r n)
  | 0 => by
    have e : ∀ v, stF (stepsN As r 0) v = if v = r then 0 else -1 := fun v => by
      rw [stepsN, stF_set hr.1 (by simp; omega)]
      split
      · rfl
      · unfold stF
        split
        · rw [List.getElem?_replicate]; split <;> rfl
        · rfl
    refine ⟨by simp [stepsN], by rw [e, if_pos rfl], fun v hv => ?_, fun v => ?_, fun u k hk hu => ?_, fun u v _ h0 hs => ?_⟩
    · rw [e] at hv; split at hv
      · assumption
      · omega
    · rw [e]; split <;> omega
    · rw [e] at hu; split at hu <;> omega
    · rcases hs with hs | ⟨_, hs⟩
      · omega
      · simp at hs
  | n + 1 => by
    have h := stepsN_ok hr hin n
    have h' : SInv As r n (n + 1) [] (stepsN As r n) := { h with hi := fun v => by have := h.hi v; omega }
    have h2 := SInv.fold hin As [] _ (fun _ h => h) h'
    rw [List.nil_append] at h2
    refine { h2 with back := fun u v huv h0 hs => h2.back u v huv h0 ?_ }
    rcases hs with hs | ⟨_, hs⟩
    · by_cases hlt : stF (As.foldl (relax n) (stepsN As r n)) v < n
      · exact .inl hlt
      · refine .inr ⟨?_, huv⟩
        have hs' : stF (As.foldl (relax n) (stepsN As r n)) v < ((n + 1 : Nat) : Int) := hs
        omega
    · simp at hs
def stA (As : List Arc) (r : Int) : Int → Int := stF (stepsN As r 16)
theorem stA_ok {As : List Arc} {r : Int} (hr : 0 ≤ r ∧ r < 16) (hin : In16 As) : StOk As r (stA As r) := by
  have h := stepsN_ok hr hin 16
  exact ⟨h.self, h.zero, fun u v huv h0 h15 => h.back u v huv h0 (.inl (by have : stF (stepsN As r 16) v ≤ 15 := h15; omega)), h.next, h.hi⟩
/-! ## the walk -/
abbrev IB (w : World) (b : Nat) (out : List Int) : Prop := Blk w b 3 (out.map fun x => Value.int .i64 x).toArray
theorem IB.at {w : World} {b : Nat} {out : List Int} (h : IB w b out) (hl : out.length = 16) {v : Int} (h0 : 0 ≤ v) (h1 : v < 16) : w.cell? ((⟨b, 0, none⟩ : Addr).add (v.toNat * 1)) = some (.int .i64 (stF out v)) := by
  rw [Nat.mul_one, h.cell0]
  obtain ⟨x, hx⟩ := get_ex (l := out) (i := v.toNat) (by omega)
  simp [stF, h0, hx]
theorem IB.put {w w1 : World} {b : Nat} {out : List Int} (h : IB w b out) {i : Nat} {x : Int} (e : w1 = setCells ((⟨b, 0, none⟩ : Addr).add (i * 1)) 0 [.int .i64 x] w) : IB w1 b (out.set i x) ∧ Chg (fun k => k = b) w w1 := by
  rw [Nat.mul_one] at e
  obtain ⟨h1, h2⟩ := Blk.put h e
  refine ⟨?_, h2⟩
  have : ((out.set i x).map fun x => Value.int .i64 x).toArray = (out.map fun x => Value.int .i64 x).toArray.setIfInBounds i (.int .i64 x) := by simp [List.map_set]
  rw [IB, this]; exact h1
theorem steps121 {w : World} {q : Option Addr} {l c : Nat} {As : List Arc} {r : Int} (H : RE En.i2 w q l As) (hl : l ≤ 1000000) (hin : In16 As) (hr : 0 ≤ r ∧ r < 16) :
    Calls Try.prog 121 #[.slice q l c, .int .i64 r] w (Ret fun v w' => v = .slice (some (ad w.heap.size)) 16 16 ∧ IB w' w.heap.size (stepsN As r 16) ∧ Chg none_ w w') := by
  have hlen := H.len
  refine f121.calls _ _ _ _ ?_
  unfold f121.wp
  refine ⟨by decide, by decide, by decide, by decide, newBox fun w1 B1 k1 s1 => ?_⟩
  have B1' : IB w1 w.heap.size (List.replicate 0 (-1) ++ List.replicate (16 - 0) 0)  := by
    rw [show madeCells #[Value.int IntKind.i64 0] (Int.toNat 16 * 1) = ((List.replicate 0 (-1) ++ List.replicate (16 - 0) (0 : Int)).map fun x => Value.int .i64 x).toArray by kernel_rfl] at B1
    exact B1
  refine ⟨fun x w' => ∃ n : Nat, x = (n : Int) ∧ n ≤ 16 ∧ IB w' w.heap.size (List.replicate n (-1) ++ List.replicate (16 - n) 0) ∧ Chg none_ w w', fun x _ => 16 - x.toNat, ⟨0, rfl, by omega, B1', k1⟩, ?_⟩
  rintro _ w2 ⟨n, rfl, hn, B2, k2⟩
  refine bc (fun hlt => ?_) fun hge => ?_
  · have hn' : n < 16 := by have := of_decide_eq_true hlt; omega
    rw [wrapS (x := (n : Int) + 1) (by omega) (by omega)]
    refine ⟨by omega, by omega, ?_, fun w3 e => ?_⟩
    · rw [Int.toNat_natCast, Nat.mul_one]
      exact B2.canStore0 (by simp; omega)
    · rw [Int.toNat_natCast] at e
      obtain ⟨B3, k3⟩ := B2.put e
      refine ⟨⟨n + 1, by omega, hn', ?_, k2.up k3 fun b hb => by rw [hb]; exact Nat.le_refl _⟩, meas hn'⟩
      rw [List.set_append_right _ _ (by simp), List.length_replicate, Nat.sub_self, show 16 - n = (16 - (n + 1)) + 1 by omega, List.replicate_succ, List.set_cons_zero] at B3
      rw [List.replicate_succ', List.append_assoc]
      exact B3
  have hn16 : n = 16 := by have := of_decide_eq_false hge; omega
  subst hn16
  refine ⟨hr.1, by omega, ?_, fun w4 e => ?_⟩
  · rw [Nat.mul_one]
    exact B2.canStore0 (by simp; omega)
  obtain ⟨B4, k4⟩ := B2.put e
  have k04 : Chg none_ w w4 := k2.up k4 fun b hb => by rw [hb]; exact Nat.le_refl _
  have B4' : IB w4 w.heap.size (stepsN As r 0) := B4
  refine ⟨fun x w' => ∃ n : Nat, x = (n : Int) ∧ n ≤ 16 ∧ IB w' w.heap.size (stepsN As r n) ∧ Chg none_ w w', fun x _ => 16 - x.toNat, ⟨0, rfl, by omega, B4', k04⟩, ?_⟩
  rintro _ w5 ⟨n, rfl, hn5, B5, k5⟩
  refine bc (fun hlt => ?_) fun hge => ?_
  rotate_left
  · have hn16 : n = 16 := by have := of_decide_eq_false hge; omega
    subst hn16
    exact ⟨rfl, B5, k5⟩
  have hn' : n < 16 := by have := of_decide_eq_true hlt; omega
  rw [wrapS (x := (n : Int) + 1) (by omega) (by omega)]
  refine ⟨fun x w' => ∃ j : Nat, x = (j : Int) ∧ j ≤ l ∧ IB w' w.heap.size ((As.take j).foldl (relax n) (stepsN As r n)) ∧ Chg none_ w w', fun x _ => l - x.toNat, ⟨0, rfl, by omega, B5, k5⟩, ?_⟩
  rintro _ w6 ⟨j, rfl, hj, B6, k6⟩
  refine bc (fun hlt3 => ?_) fun hge3 => ?_
  rotate_left
  · have hjl : j = l := by have := of_decide_eq_false hge3; omega
    subst hjl
    rw [List.take_of_length_le (by omega)] at B6
    exact ⟨⟨n + 1, by omega, hn', B6, k6⟩, meas hn'⟩
  have hj' : j < l := by simpa using hlt3
  rw [wrapS (x := (j : Int) + 1) (by omega) (by omega)]
  obtain ⟨a, x, ha, hx, hrd⟩ := (H.chg k6).ex (i := j) hj'
  have hxi := hin x (List.mem_of_getElem? hx)
  have hlen6 : ((As.take j).foldl (relax n) (stepsN As r n)).length = 16 := by rw [foldl_len, stepsN_len]
  refine onPtr_at ha ⟨by omega, by omega, _, _, hrd, boxed rfl rfl fun w8 B8 k8 s8 => ?_⟩
  have B68 := k8.blk B6 (fun x => x)
  have k08 := k6.trans k8
  have hz6 : w.heap.size < w6.heap.size := B6.lt
  have B8' := B8
  have e1 : (As.take (j + 1)).foldl (relax n) (stepsN As r n) = relax n ((As.take j).foldl (relax n) (stepsN As r n)) x := by
    rw [take_next hx, List.foldl_append]; rfl
  generalize (As.take j).foldl (relax n) (stepsN As r n) = out at *
  have hst : ∀ w9, w8 = w9 → ((¬ (stF out x.2 = n ∧ stF out x.1 < 0)) → (∃ j' : Nat, ((j : Int) + 1) = (j' : Int) ∧ j' ≤ l ∧ IB w9 w.heap.size ((As.take j').foldl (relax n) (stepsN As r n)) ∧ Chg none_ w w9) ∧ l - ((j : Int) + 1).toNat < l - (j : Int).toNat) := by
    rintro _ rfl hc
    refine ⟨⟨j + 1, by omega, hj', ?_, k08⟩, by omega⟩
    rw [e1, relax, if_neg hc]; exact B68
  refine ⟨fun x4 w9 => w8 = w9 ∧ (x4 = true ↔ (stF out x.2 = n ∧ stF out x.1 < 0)), ?_, x.2, (B8.cell0 1).trans rfl, hxi.2.1, hxi.2.2, _, IB.at B68 hlen6 hxi.2.1 hxi.2.2, bc (fun h4 => ⟨x.1, (B8.cell 0).trans rfl, hxi.1.1, hxi.1.2, _, IB.at B68 hlen6 hxi.1.1 hxi.1.2, rfl, ?_⟩) fun h4 => ⟨rfl, ?_⟩⟩
  · rintro x4 _ ⟨rfl, h4⟩
    refine bc (fun h5 => ?_) fun h5 => ?_
    · have hc := h4.1 h5
      refine ⟨x.1, (B8.cell 0).trans rfl, hxi.1.1, hxi.1.2, ?_, fun w10 e => ?_⟩
      · rw [Nat.mul_one]
        exact Blk.canStore0 B68 (by simp; omega)
      · obtain ⟨B10, k10⟩ := IB.put B68 e
        refine ⟨⟨j + 1, by omega, hj', ?_, k08.up k10 fun b hb => by rw [hb]; exact Nat.le_refl _⟩, meas hj'⟩
        rw [e1, relax, if_pos hc]; exact B10
    · exact hst _ rfl (fun hc => by rw [h4.2 hc] at h5; cases h5)
  · have h4' : stF out x.2 = n := by simpa using h4
    simp [h4']
  · have h4' : ¬ stF out x.2 = n := by simpa using h4
    simp [h4']
end Full
end Go.Proofs.Ytibpbbjlecohiaa
set_option maxRecDepth 20000
namespace Go.Proofs.Ytibpbbjlecohiaa
namespace Full
open Go Go.Vc Go.RowKit
/-! # the reference's Round -/
theorem bestG_app {st : Int → Int} {r : Int} (a : Arc) : ∀ (xs : List Arc) (b : Int), bestG st r b (xs ++ [a]) = if a.1 = r ∧ 0 ≤ st a.2 ∧ (bestG st r b xs < 0 ∨ st a.2 < st (bestG st r b xs)) then a.2 else bestG st r b xs
  | [], b => rfl
  | x :: xs, b => by rw [List.cons_append, bestG, bestG_app a xs, bestG]
theorem nextG_app {st : Int → Int} {r : Int} (a : Arc) : ∀ (xs : List Arc) (b : Int), nextG st r b (xs ++ [a]) = if a.1 = r ∧ 0 ≤ st a.2 ∧ st a.2 = st r - 1 ∧ (nextG st r b xs < 0 ∨ a.2 < nextG st r b xs) then a.2 else nextG st r b xs
  | [], b => rfl
  | x :: xs, b => by rw [List.cons_append, nextG, nextG_app a xs, nextG]
theorem bestG_in {st : Int → Int} {r : Int} : ∀ (xs : List Arc) (b : Int), In16 xs → b < 16 → bestG st r b xs < 16
  | [], b, _, h => h
  | x :: xs, b, hin, h => by
    rw [bestG]
    refine bestG_in xs _ (fun a ha => hin a (by simp [ha])) ?_
    split
    · exact (hin x (by simp)).2.2
    · exact h
theorem In16.take {As : List Arc} (h : In16 As) (n : Nat) : In16 (As.take n) := fun a ha => h a (List.mem_of_mem_take ha)
/-- what is told of the rounds -/
def Cyc (As : List Arc) (ys : List Int) : Prop := ((∀ r : Nat, r < 16 → roundF As (stA As r) r = none) ∧ ys = []) ∨ ∃ r : Nat, r < 16 ∧ (∀ r' : Nat, r' < r → roundF As (stA As r') r' = none) ∧ roundF As (stA As r) r = some ys
theorem Cyc.uniq {As : List Arc} {ys zs : List Int} (h : Cyc As ys) (k : Cyc As zs) : ys = zs := by
  rcases h with ⟨h, rfl⟩ | ⟨r, hr, h1, h2⟩ <;> rcases k with ⟨k, rfl⟩ | ⟨r', hr', k1, k2⟩
  · rfl
  · rw [h r' hr'] at k2; cases k2
  · rw [k r hr] at h2; cases h2
  · rcases Nat.lt_trichotomy r r' with hlt | rfl | hlt
    · rw [k1 r hlt] at h2; cases h2
    · rw [h2] at k2; cases k2; rfl
    · rw [h1 r' hlt] at k2; cases k2
theorem round107 {w : World} {q : Option Addr} {l c : Nat} {As : List Arc} (H : RE En.i2 w q l As) (hl : l ≤ 1000000) (hin : In16 As) (hr : Rise As) :
    Calls Try.prog 107 #[.slice q l c] w (Ret fun v w' => ∃ q' l' c' ys, v = .slice q' l' c' ∧ SE En.int w' w.heap.size 3 q' l' c' ys ∧ Cyc As ys ∧ l' ≤ 17 ∧ Chg none_ w w') := by
  have hlen := H.len
  refine f107.calls _ _ _ ?_
  unfold f107.wp
  refine ⟨fun x w' => ∃ n : Nat, x = (n : Int) ∧ n ≤ 16 ∧ (∀ r : Nat, r < n → roundF As (stA As r) r = none) ∧ Chg none_ w w', fun x _ => 16 - x.toNat, ⟨0, rfl, by omega, fun r h => absurd h (Nat.not_lt_zero _), Chg.refl _ _⟩, ?_⟩
  rintro _ w1 ⟨n, rfl, hn, hno, k1⟩
  refine bc (fun hlt => ?_) fun hge => ?_
  rotate_left
  · have hn16 : n = 16 := by have := of_decide_eq_false hge; omega
    subst hn16
    exact ⟨none, 0, 0, [], rfl, SE.nil _ _ _ _, .inl ⟨hno, rfl⟩, by omega, k1⟩
  have hn' : n < 16 := by have := of_decide_eq_true hlt; omega
  rw [wrapS (x := (n : Int) + 1) (by omega) (by omega)]
  have hr0 : 0 ≤ (n : Int) ∧ (n : Int) < 16 := ⟨by omega, by omega⟩
  have S := stA_ok hr0 hin
  refine Calls.use (steps121 (H.chg k1) hl hin hr0) ?_
  rintro _ w2 ⟨rfl, B2, k2⟩
  have hl16 : (stepsN As (n : Int) 16).length = 16 := stepsN_len _ _ _
  have k12 := k1.trans k2
  have est : stF (stepsN As (n : Int) 16) = stA As (n : Int) := rfl
  have hB2 := B2
  refine ⟨_, _, _, rfl, fun x2 x3 w' => ∃ j : Nat, x3 = (j : Int) ∧ j ≤ l ∧ x2 = bestG (stA As n) n (-1) (As.take j) ∧ Chg none_ w2 w', fun _ x3 _ => l - x3.toNat, ⟨0, rfl, by omega, rfl, Chg.refl _ _⟩, ?_⟩
  rintro _ _ w3 ⟨j, rfl, hj, rfl, k3⟩
  have B3 := k3.blk hB2 (fun x => x)
  refine bc (fun hlt3 => ?_) fun hge3 => ?_
  · have hj' : j < l := by simpa using hlt3
    rw [wrapS (x := (j : Int) + 1) (by omega) (by omega)]
    obtain ⟨a, x, ha, hx, hrd⟩ := (H.chg (k12.trans k3)).ex (i := j) hj'
    have hxi := hin x (List.mem_of_getElem? hx)
    refine onPtr_at ha ⟨by omega, by omega, _, _, hrd, boxed rfl rfl fun w5 B5 k5 s5 => ?_⟩
    have B35 := (k5.blk B3 (fun x => x)).drew
    have k35 : Chg none_ w2 w5.drew := k3.trans k5.drew
    have at' := fun {v : Int} (h0 : 0 ≤ v) (h1 : v < 16) => IB.at B35 hl16 h0 h1
    rw [est] at at'
    have hbi : bestG (stA As n) n (-1) (As.take j) < 16 := bestG_in _ _ (hin.take j) (by decide)
    have e1 := bestG_app (st := stA As n) (r := n) x (As.take j) (-1)
    rw [← take_next hx] at e1
    generalize bestG (stA As n) n (-1) (As.take j) = b at *
    have yes : (x.1 = (n : Int) ∧ 0 ≤ stA As n x.2 ∧ (b < 0 ∨ stA As n x.2 < stA As n b)) → (∃ j' : Nat, ((j : Int) + 1) = (j' : Int) ∧ j' ≤ l ∧ x.2 = bestG (stA As n) n (-1) (As.take j') ∧ Chg none_ w2 w5.drew) ∧ l - ((j : Int) + 1).toNat < l - (j : Int).toNat := fun hc => ⟨⟨j + 1, by omega, hj', by rw [e1, if_pos hc], k35⟩, meas hj'⟩
    have no : ¬ (x.1 = (n : Int) ∧ 0 ≤ stA As n x.2 ∧ (b < 0 ∨ stA As n x.2 < stA As n b)) → (∃ j' : Nat, ((j : Int) + 1) = (j' : Int) ∧ j' ≤ l ∧ b = bestG (stA As n) n (-1) (As.take j') ∧ Chg none_ w2 w5.drew) ∧ l - ((j : Int) + 1).toNat < l - (j : Int).toNat := fun hc => ⟨⟨j + 1, by omega, hj', by rw [e1, if_neg hc], k35⟩, meas hj'⟩
    refine ⟨x.1, (B5.drew.cell 0).trans rfl, bc (fun h1 => ?_) fun h1 => no fun hc => by simp [hc.1] at h1⟩
    have h1 : x.1 = (n : Int) := by simpa using h1
    refine ⟨x.2, (B5.drew.cell0 1).trans rfl, onPtr_mk ⟨hxi.2.1, by have := hxi.2.2; omega, _, at' hxi.2.1 hxi.2.2, bc (fun h2 => ?_) fun h2 => no fun hc => by have := of_decide_eq_false h2; omega⟩⟩
    have h2 : 0 ≤ stA As n x.2 := of_decide_eq_true h2
    refine bc (fun h3 => ⟨x.2, (B5.drew.cell0 1).trans rfl, yes ⟨h1, h2, .inl (of_decide_eq_true h3)⟩⟩) fun h3 => ?_
    have h3 : ¬ b < 0 := of_decide_eq_false h3
    refine ⟨x.2, (B5.drew.cell0 1).trans rfl, onPtr_mk ⟨hxi.2.1, by have := hxi.2.2; omega, _, at' hxi.2.1 hxi.2.2, onPtr_mk ⟨by omega, by omega, _, at' (by omega) hbi, bc (fun h4 => ⟨x.2, (B5.drew.cell0 1).trans rfl, yes ⟨h1, h2, .inr (of_decide_eq_true h4)⟩⟩) fun h4 => no fun hc => ?_⟩⟩⟩
    have := of_decide_eq_false h4
    rcases hc.2.2 with h | h <;> omega
  have hjl : j = l := by have := of_decide_eq_false hge3; omega
  subst hjl
  rw [List.take_of_length_le (by omega)]
  refine bc (fun hneg => ?_) fun hpos => ?_
  · have hneg := of_decide_eq_true hneg
    refine ⟨⟨n + 1, by omega, hn', fun r hlt => ?_, k12.trans k3⟩, meas hn'⟩
    rcases Nat.lt_or_ge r n with h | h
    · exact hno r h
    · have : r = n := by omega
      subst this
      rw [roundF, if_pos hneg]
  have hpos := of_decide_eq_false hpos
  have hb := best_ok (st := stA As n) (r := n) As hin [] (-1) (.inl ⟨rfl, by simp⟩)
  rw [List.nil_append] at hb
  have hrd : roundF As (stA As n) n = some ((n : Int) :: wk As (stA As n) (stA As n (bestG (stA As n) n (-1) As)).toNat (bestG (stA As n) n (-1) As)) := by rw [roundF, if_neg hpos]
  have hbi : bestG (stA As n) n (-1) As < 16 := bestG_in _ _ hin (by decide)
  have hb0 : 0 ≤ stA As n (bestG (stA As n) n (-1) As) := by
    rcases hb with ⟨hb, _⟩ | ⟨_, h, _⟩
    · omega
    · exact h
  generalize bestG (stA As n) n (-1) As = b at *
  have hhi := S.hi b
  have k13 := k12.trans k3
  refine newBox fun w6 B6 k6 s6 => ?_
  have S6 : SE En.int w6 w3.heap.size 3 (some ⟨w3.heap.size, 0, none⟩) 1 1 [(n : Int)] := SE.lit B6 (Nat.le_refl _) (fun m v hv => by rcases m with _ | m; exact hv; simp [En.flat, En.int] at hv) rfl (Nat.le_refl _) (by decide) (by show 1 * 1 ≤ 1; decide)
  refine ⟨fun q2 l2 c2 x4 w' => ∃ (k : Nat) (ys : List Int), SE En.int w' w3.heap.size 3 q2 l2 c2 ys ∧ stA As n x4 = k ∧ (0 ≤ x4 ∧ x4 < 16) ∧ ys ++ wk As (stA As n) k x4 = (n : Int) :: wk As (stA As n) (stA As n b).toNat b ∧ l2 + k ≤ 17 ∧ Chg none_ w3 w', fun _ _ _ x4 _ => (stA As n x4).toNat, ⟨(stA As n b).toNat, [(n : Int)], S6, by omega, ⟨by omega, hbi⟩, rfl, by omega, k6⟩, ?_⟩
  rintro q2 l2 c2 x4 w7 ⟨k, ys, S7, hk, hx4, hys, hlk, k7⟩
  refine bc (fun hne => ?_) fun heq => ?_
  rotate_left
  · have heq : x4 = (n : Int) := by simpa using heq
    subst heq
    rw [S.self] at hk
    have hk0 : k = 0 := by omega
    subst hk0
    have hys' : ys = (n : Int) :: wk As (stA As n) (stA As n b).toNat b := by simpa [wk] using hys
    exact ⟨q2, l2, c2, ys, rfl, S7.lower k13.size, .inr ⟨n, hn', hno, by rw [hrd, hys']⟩, by omega, k13.trans k7⟩
  have hne : x4 ≠ (n : Int) := by simpa using hne
  obtain ⟨e, rfl⟩ : ∃ e, k = e + 1 := by
    cases k with
    | zero => exact absurd (S.zero x4 (by rw [hk]; rfl)) hne
    | succ e => exact ⟨e, rfl⟩
  refine pushG (t := 35) elemInt S7 k7 x4 (by omega) (by decide) rfl fun q3 c3 w9 S9 k9 _ => ?_
  refine ⟨fun x5 x6 w' => ∃ j' : Nat, x6 = (j' : Int) ∧ j' ≤ j ∧ x5 = nextG (stA As n) x4 (-1) (As.take j') ∧ Chg none_ w9 w', fun _ x6 _ => j - x6.toNat, ⟨0, rfl, by omega, rfl, Chg.refl _ _⟩, ?_⟩
  rintro _ _ w10 ⟨m, rfl, hm, rfl, k10⟩
  have k310 := k9.trans k10
  have B10 := k310.blk B3 (fun x => x)
  refine bc (fun hlt6 => ?_) fun hge6 => ?_
  · have hm' : m < j := by simpa using hlt6
    rw [wrapS (x := (m : Int) + 1) (by omega) (by omega)]
    obtain ⟨a, x, ha, hx, hrd'⟩ := (H.chg (k13.trans k310)).ex (i := m) hm'
    have hxi := hin x (List.mem_of_getElem? hx)
    refine onPtr_at ha ⟨by omega, by omega, _, _, hrd', boxed rfl rfl fun w12 B12 k12' s12 => ?_⟩
    have B1012 := (k12'.blk B10 (fun x => x)).drew
    have k1012 : Chg none_ w9 w12.drew := k10.trans k12'.drew
    have at' := fun {v : Int} (h0 : 0 ≤ v) (h1 : v < 16) => IB.at B1012 hl16 h0 h1
    rw [est] at at'
    have e1 := nextG_app (st := stA As n) (r := x4) x (As.take m) (-1)
    rw [← take_next hx] at e1
    generalize nextG (stA As n) x4 (-1) (As.take m) = g at *
    have yes : (x.1 = x4 ∧ 0 ≤ stA As n x.2 ∧ stA As n x.2 = stA As n x4 - 1 ∧ (g < 0 ∨ x.2 < g)) → (∃ j' : Nat, ((m : Int) + 1) = (j' : Int) ∧ j' ≤ j ∧ x.2 = nextG (stA As n) x4 (-1) (As.take j') ∧ Chg none_ w9 w12.drew) ∧ j - ((m : Int) + 1).toNat < j - (m : Int).toNat := fun hc => ⟨⟨m + 1, by omega, hm', by rw [e1, if_pos hc], k1012⟩, meas hm'⟩
    have no : ¬ (x.1 = x4 ∧ 0 ≤ stA As n x.2 ∧ stA As n x.2 = stA As n x4 - 1 ∧ (g < 0 ∨ x.2 < g)) → (∃ j' : Nat, ((m : Int) + 1) = (j' : Int) ∧ j' ≤ j ∧ g = nextG (stA As n) x4 (-1) (As.take j') ∧ Chg none_ w9 w12.drew) ∧ j - ((m : Int) + 1).toNat < j - (m : Int).toNat := fun hc => ⟨⟨m + 1, by omega, hm', by rw [e1, if_neg hc], k1012⟩, meas hm'⟩
    rw [hk] at yes no
    refine ⟨x.1, (B12.drew.cell 0).trans rfl, bc (fun h1 => ?_) fun h1 => no fun hc => by simp [hc.1] at h1⟩
    have h1 : x.1 = x4 := by simpa using h1
    refine ⟨x.2, (B12.drew.cell0 1).trans rfl, onPtr_mk ⟨hxi.2.1, by have := hxi.2.2; omega, _, at' hxi.2.1 hxi.2.2, bc (fun h2 => ?_) fun h2 => no fun hc => by have := of_decide_eq_false h2; omega⟩⟩
    have h2 : 0 ≤ stA As n x.2 := of_decide_eq_true h2
    refine ⟨x.2, (B12.drew.cell0 1).trans rfl, onPtr_mk ⟨hxi.2.1, by have := hxi.2.2; omega, _, at' hxi.2.1 hxi.2.2, onPtr_mk ⟨hx4.1, by omega, _, (at' hx4.1 hx4.2).trans (by rw [hk]), ?_⟩⟩⟩
    rw [wrapS (x := ((e + 1 : Nat) : Int) - 1) (by omega) (by omega)]
    refine bc (fun h3 => ?_) fun h3 => no fun hc => by simp [hc.2.2.1] at h3
    have h3 : stA As n x.2 = ((e + 1 : Nat) : Int) - 1 := by simpa using h3
    refine bc (fun h4 => ⟨x.2, (B12.drew.cell0 1).trans rfl, yes ⟨h1, h2, h3, .inl (of_decide_eq_true h4)⟩⟩) fun h4 => ?_
    refine ⟨x.2, (B12.drew.cell0 1).trans rfl, bc (fun h5 => ⟨x.2, (B12.drew.cell0 1).trans rfl, yes ⟨h1, h2, h3, .inr (of_decide_eq_true h5)⟩⟩) fun h5 => no fun hc => ?_⟩
    have h4 := of_decide_eq_false h4
    have h5 := of_decide_eq_false h5
    rcases hc.2.2.2 with h | h <;> omega
  have hmj : m = j := by have := of_decide_eq_false hge6; omega
  subst hmj
  rw [List.take_of_length_le (by omega)]
  have hnx := next_ok (st := stA As n) (at_ := x4) As hin [] (-1) (by simpa using hr x4) (.inl ⟨rfl, by simp⟩)
  rw [List.nil_append] at hnx
  rcases hnx with ⟨_, h⟩ | ⟨hb', hb0', hb1, pre', post', hadj', _⟩
  · obtain ⟨v, hv, hvs⟩ := S.next x4 e (by omega) (by rw [hk]; omega)
    exact absurd ⟨by omega, by omega⟩ (h v (adjA_mem.2 hv))
  have hmem : nextG (stA As n) x4 (-1) As ∈ adjA As x4 := by rw [hadj']; simp
  have hi16 := (hin _ (adjA_mem.1 hmem)).2
  refine ⟨⟨e, ys ++ [x4], S9.chgN k10, by omega, hi16, ?_, by omega, k310⟩, by show (stA As n _).toNat < (stA As n x4).toNat; rw [hb1, hk]; omega⟩
  rw [← hys]
  simp [wk]
end Full
end Go.Proofs.Ytibpbbjlecohiaa
