import Derived.Test.YtibpbbjlecohiaaLfA
import Derived.Test.YtibpbbjlecohiaaLeQ
set_option maxRecDepth 20000
namespace Go.Proofs.Ytibpbbjlecohiaa
namespace Full
open Go Go.Vc Go.RowKit
/-! # whoever keeps an order is never stuck (plain) -/
def hstF (f : Int → Bool) (x : Act) : Int → Bool := if x.1 = 1 ∨ x.1 = 2 then setF f x.2.1 (decide (x.1 = 1)) else f
def heldF (ys : List Act) : Int → Bool := ys.foldl hstF fun _ => false
theorem heldF_next {ys : List Act} {a : Nat} {x : Act} (hx : ys[a]? = some x) : heldF (ys.take (a + 1)) = hstF (heldF (ys.take a)) x := fold_next hx
theorem held_step (p : PrS) (x : Act) : (prStep p x).held = hstF p.held x := by
  unfold prStep hstF
  by_cases h1 : x.1 = 1
  · have e : mutF x = (x.2.1, true) := by rw [mutF, if_pos (.inl h1)]
    rw [e, if_neg (by simp), if_neg (by omega)]
    simp [h1]
  · by_cases h2 : x.1 = 2
    · have e : mutF x = (x.2.1, true) := by rw [mutF, if_pos (.inr h2)]
      rw [e, if_neg (by simp), if_pos h2, if_pos (.inr h2)]
      simp [h1]
    · have hn : ¬ (x.1 = 1 ∨ x.1 = 2) := by omega
      rw [if_neg hn]
      split
      · rfl
      · simp
theorem held_fold (ys : List Act) : ∀ p : PrS, (ys.foldl prStep p).held = ys.foldl hstF p.held := by
  induction ys with
  | nil => intro p; rfl
  | cons x ys ih => intro p; rw [List.foldl_cons, ih, held_step]; rfl
theorem must_keep (p : PrS) (x : Act) {h m : Int} (hm : p.must h m = true) : (prStep p x).must h m = true := by
  unfold prStep
  split
  · exact hm
  · split
    · exact hm
    · simp [hm]
theorem must_fold (ys : List Act) : ∀ (p : PrS) {h m : Int}, p.must h m = true → (ys.foldl prStep p).must h m = true := by
  induction ys with
  | nil => intro p h m hm; exact hm
  | cons x ys ih => intro p h m hm; exact ih _ (must_keep p x hm)
theorem must_progs (acts : List (List Act)) : ∀ (t : TM) {h m : Int}, t.2 h m = true → (acts.foldl prProg t).2 h m = true := by
  induction acts with
  | nil => intro t h m hm; exact hm
  | cons ys acts ih => intro t h m hm; exact ih (prProg t ys) (must_fold ys _ hm)
theorem must_in {acts : List (List Act)} {t a : Nat} {ys : List Act} {m z h : Int} (hy : acts[t]? = some ys) (hx : ys[a]? = some (1, m, z)) (hh : heldF (ys.take a) h = true) (hne : h ≠ m) : (prAll acts).2 h m = true := by
  have h1 : ∀ t0 : TM, (prProg t0 ys).2 h m = true := fun t0 => by
    unfold prProg
    simp only
    have e : ys = ys.take (a + 1) ++ ys.drop (a + 1) := (List.take_append_drop _ _).symm
    rw [e, List.foldl_append]
    refine must_fold _ _ ?_
    rw [fold_next hx]
    have hq : ((ys.take a).foldl prStep ⟨fun _ => false, t0.1, t0.2⟩).held h = true := by rw [held_fold]; exact hh
    generalize (ys.take a).foldl prStep ⟨fun _ => false, t0.1, t0.2⟩ = p at hq
    unfold prStep mutF
    simp [hq, hne]
  have e : acts = acts.take (t + 1) ++ acts.drop (t + 1) := (List.take_append_drop _ _).symm
  rw [prAll, e, List.foldl_append]
  refine must_progs _ _ ?_
  rw [fold_next hy]
  exact h1 _
/-! ## an order ranks -/
theorem countP_lt {p q : Nat → Bool} (hpq : ∀ i, q i = true → p i = true) {x : Nat} (hp : p x = true) (hq : q x = false) : ∀ {l : List Nat}, x ∈ l → l.countP q < l.countP p
  | [], h => by cases h
  | y :: l, h => by
    have hle : l.countP q ≤ l.countP p := List.countP_mono_left fun i _ => hpq i
    rw [List.countP_cons, List.countP_cons]
    by_cases e : y = x
    · subst e
      rw [hp, hq]; simp; omega
    · have hm : x ∈ l := by
        rcases List.mem_cons.1 h with h | h
        · exact absurd h.symm e
        · exact h
      have ih := countP_lt hpq hp hq hm
      cases hqy : q y with
      | true => rw [hpq y hqy]; simp; omega
      | false => simp; split <;> omega
def leftN (there : Int → Bool) : Nat := (List.range 64).countP fun i : Nat => there (i : Int)
theorem orderN_rank (must : Int → Int → Bool) : ∀ (f : Nat) (there : Int → Bool) (out : List Int), InR there → leftN there < f → (orderN must f there out).2 = 0 → ∃ rank : Int → Nat, (∀ x, rank x ≤ f) ∧ ∀ h m, there h = true → there m = true → must h m = true → rank h < rank m
  | 0, there, out, hr, hf, h0 => by omega
  | f + 1, there, out, hr, hf, h0 => by
    rw [orderN] at h0
    by_cases ha : anyT there = false
    · refine ⟨fun _ => 0, fun _ => Nat.zero_le _, fun h m hh _ _ => ?_⟩
      have := (anyT_iff hr).2 ⟨h, hh⟩
      rw [ha] at this; cases this
    · rw [if_neg ha] at h0
      cases hl : leastF (there, must) with
      | none => rw [hl] at h0; cases h0
      | some x =>
        rw [hl] at h0
        have hfree : freeM (there, must) x = true := by
          unfold leastF at hl
          rw [Option.map_eq_some_iff] at hl
          obtain ⟨i, hi, rfl⟩ := hl
          exact List.find?_some (p := fun i : Nat => freeM (there, must) (i : Int)) hi
        obtain ⟨hx, hx2⟩ := (freeM_iff (t := (there, must)) hr x).1 hfree
        have hx : there x = true := hx
        obtain ⟨x0, x1⟩ := hr x hx
        have hr' : InR (setF there x false) := fun m hm => by
          unfold setF at hm
          split at hm
          · cases hm
          · exact hr m hm
        have hlt : leftN (setF there x false) < leftN there := by
          unfold leftN
          refine countP_lt (x := x.toNat) (fun i hi => ?_) (by rw [show ((x.toNat : Nat) : Int) = x by omega]; exact hx) (by rw [show ((x.toNat : Nat) : Int) = x by omega]; simp [setF]) (by rw [List.mem_range]; omega)
          unfold setF at hi
          split at hi
          · cases hi
          · exact hi
        obtain ⟨rank, hb, hk⟩ := orderN_rank must f (setF there x false) (out ++ [x]) hr' (by omega) h0
        refine ⟨fun y => if y = x then 0 else rank y + 1, fun y => ?_, fun h m hh hm hmu => ?_⟩
        · have := hb y
          simp only
          split <;> omega
        · have hmx : m ≠ x := fun e => by
            have : (must h x && there h) = false := hx2 h
            rw [e] at hmu
            rw [hmu, hh] at this
            cases this
          simp only
          rw [if_neg hmx]
          by_cases e : h = x
          · rw [if_pos e]; omega
          · rw [if_neg e]
            have := hk h m (by unfold setF; rw [if_neg e]; exact hh) (by unfold setF; rw [if_neg hmx]; exact hm) hmu
            omega
theorem leftN_le (there : Int → Bool) : leftN there ≤ 64 := by
  have := List.countP_le_length (p := fun i : Nat => there (i : Int)) (l := List.range 64)
  simpa [leftN] using this
/-- an order: whatever is held when one takes a mutex ranks lower -/
theorem orderF_rank {acts : List (List Act)} (h0 : (orderF acts).2 = 0) : ∃ rank : Int → Nat, (∀ x, rank x ≤ 65) ∧ ∀ (t a : Nat) (ys : List Act) (m z h : Int), acts[t]? = some ys → ys[a]? = some (1, m, z) → heldF (ys.take a) h = true → h ≠ m → rank h < rank m := by
  unfold orderF at h0
  by_cases h1 : pmayF acts [] ≠ 0
  · rw [if_pos h1] at h0; exact absurd h0 h1
  rw [if_neg h1] at h0
  by_cases h2 : (acts.any fun ys => ys.any mutBad) = true
  · rw [if_pos h2] at h0; cases h0
  rw [if_neg h2] at h0
  have hmb : ∀ ys ∈ acts, ∀ a ∈ ys, (mutF a).2 = true → 0 ≤ (mutF a).1 ∧ (mutF a).1 < 64 := fun ys hy a ha hm => by
    have : mutBad a = false := by
      cases hb : mutBad a with
      | false => rfl
      | true => exact absurd (List.any_eq_true.2 ⟨ys, hy, List.any_eq_true.2 ⟨a, ha, hb⟩⟩) h2
    rw [mutBad, hm, Bool.true_and, Bool.or_eq_false_iff, decide_eq_false_iff_not, decide_eq_false_iff_not] at this
    omega
  obtain ⟨hr, hth⟩ := prAll_ok hmb
  have := leftN_le (prAll acts).1
  obtain ⟨rank, hb, hk⟩ := orderN_rank (prAll acts).2 65 (prAll acts).1 [] hr (by omega) h0
  exact ⟨rank, hb, fun t a ys m z h hy hx hh hne => by
    have hm := must_in hy hx hh hne
    exact hk h m (hth h m hm) (must_there h m hm) hm⟩
end Full
end Go.Proofs.Ytibpbbjlecohiaa
set_option maxRecDepth 20000
namespace Go.Proofs.Ytibpbbjlecohiaa
namespace Full
open Go Go.Vc Go.RowKit
/-! # who holds what, in a play of mutexes (plain) -/
structure HJ (acts : List (List Act)) (M : Nat) (s : S8) (ats : List Nat) : Prop where
  len : s.ms.length = M
  own : ∀ (t i a : Nat) (ys : List Act) (mx : Mx), acts[t]? = some ys → ats[t]? = some a → s.wt (t : Int) = none → s.ms[i]? = some mx → (mx.owner = (t : Int) ↔ heldF (ys.take a) (i : Int) = true)
  ownW : ∀ (t i a : Nat) (ys : List Act) (mx : Mx), acts[t]? = some ys → ats[t]? = some (a + 1) → (s.wt (t : Int)).isSome = true → s.ms[i]? = some mx → (mx.owner = (t : Int) ↔ heldF (ys.take a) (i : Int) = true)
  wtk : ∀ (t : Nat) (v : W3), s.wt (t : Int) = some v → ∃ (ys : List Act) (a : Nat) (m z : Int), acts[t]? = some ys ∧ ats[t]? = some (a + 1) ∧ ys[a]? = some (1, m, z) ∧ v = ((t : Int), 1, m)
  no4 : ∀ (t i : Nat) (mx : Mx), s.wt (t : Int) = some ((t : Int), 1, (i : Int)) → s.ms[i]? = some mx → mx.owner ≠ (t : Int)
  rng : ∀ mx ∈ s.ms, mx.owner = -1 ∨ ∃ t : Nat, mx.owner = (t : Int) ∧ t < acts.length
section
variable {acts : List (List Act)} {M : Nat} {s s' : S8} {ats : List Nat} {t a : Nat} {ys : List Act}
theorem set_ats (hat : ats[t]? = some a) (k : Nat) : (ats.set t (a + 1))[k]? = if k = t then some (a + 1) else ats[k]? := by
  by_cases e : k = t
  · rw [if_pos e, e, List.getElem?_set_self (get_lt hat)]
  · rw [if_neg e, List.getElem?_set_ne (Ne.symm e)]
theorem HJ.idle (h : HJ acts M s ats) (hy : acts[t]? = some ys) (hat : ats[t]? = some a) (hwt : s.wt (t : Int) = none) (e1 : s'.ms = s.ms) (e2 : s'.wt = s.wt) (hh : ∀ i : Nat, i < M → heldF (ys.take (a + 1)) (i : Int) = heldF (ys.take a) (i : Int)) : HJ acts M s' (ats.set t (a + 1)) := by
  refine ⟨by rw [e1]; exact h.len, fun t' i b zs mx hz hb hw hm => ?_, fun t' i b zs mx hz hb hw hm => ?_, fun t' v hv => ?_, fun t' i mx hv hm => ?_, fun mx hm => ?_⟩
  · rw [e1] at hm; rw [e2] at hw
    rw [set_ats hat] at hb
    split at hb
    · rename_i e; subst e; cases hb
      rw [hy] at hz; cases hz
      rw [hh i (by rw [← h.len]; exact get_lt hm)]
      exact h.own _ i a ys mx hy hat hwt hm
    · exact h.own t' i b zs mx hz hb hw hm
  · rw [e1] at hm; rw [e2] at hw
    rw [set_ats hat] at hb
    split at hb
    · rename_i e; subst e; rw [hwt] at hw; cases hw
    · exact h.ownW t' i b zs mx hz hb hw hm
  · rw [e2] at hv
    obtain ⟨zs, b, m, z, h1, h2, h3, h4⟩ := h.wtk t' v hv
    refine ⟨zs, b, m, z, h1, ?_, h3, h4⟩
    rw [set_ats hat]
    split
    · rename_i e; subst e; rw [hwt] at hv; cases hv
    · exact h2
  · rw [e1] at hm; rw [e2] at hv; exact h.no4 t' i mx hv hm
  · rw [e1] at hm; exact h.rng mx hm
theorem ms_cases {l : List Mx} {i0 i : Nat} {x mx : Mx} (h : (l.set i0 x)[i]? = some mx) : (i = i0 ∧ mx = x) ∨ (i ≠ i0 ∧ l[i]? = some mx) := by
  by_cases e : i = i0
  · subst e
    rw [List.getElem?_set] at h
    simp only [if_true] at h
    split at h
    · cases h; exact .inl ⟨rfl, rfl⟩
    · cases h
  · rw [List.getElem?_set_ne (Ne.symm e)] at h
    exact .inr ⟨e, h⟩
/-- a free mutex is taken -/
theorem HJ.take (h : HJ acts M s ats) (hy : acts[t]? = some ys) (hat : ats[t]? = some a) (hwt : s.wt (t : Int) = none) {i0 : Nat} {mx0 : Mx} (hm0 : s.ms[i0]? = some mx0) (ho : mx0.owner = -1) {q : List Wt} (e1 : s'.ms = s.ms.set i0 ⟨(t : Int), q⟩) (e2 : s'.wt = s.wt) (hh : heldF (ys.take (a + 1)) = setF (heldF (ys.take a)) (i0 : Int) true) : HJ acts M s' (ats.set t (a + 1)) := by
  refine ⟨by rw [e1, List.length_set]; exact h.len, fun t' i b zs mx hz hb hw hm => ?_, fun t' i b zs mx hz hb hw hm => ?_, fun t' v hv => ?_, fun t' i mx hv hm => ?_, fun mx hm => ?_⟩
  · rw [e1] at hm; rw [e2] at hw
    rw [set_ats hat] at hb
    split at hb
    · rename_i e; subst e; cases hb
      rw [hy] at hz; cases hz
      rw [hh]
      rcases ms_cases hm with ⟨rfl, rfl⟩ | ⟨hne, hm⟩
      · simp [setF]
      · rw [setF, if_neg (by omega)]
        exact h.own _ i a ys mx hy hat hwt hm
    · rename_i e
      rcases ms_cases hm with ⟨rfl, rfl⟩ | ⟨hne, hm⟩
      · have := h.own t' i b zs mx0 hz hb hw hm0
        rw [ho] at this
        rw [← this]
        show (t : Int) = t' ↔ (-1 : Int) = t'
        omega
      · exact h.own t' i b zs mx hz hb hw hm
  · rw [e1] at hm; rw [e2] at hw
    rw [set_ats hat] at hb
    split at hb
    · rename_i e; subst e; rw [hwt] at hw; cases hw
    · rename_i e
      rcases ms_cases hm with ⟨rfl, rfl⟩ | ⟨hne, hm⟩
      · have := h.ownW t' i b zs mx0 hz hb hw hm0
        rw [ho] at this
        rw [← this]
        show (t : Int) = t' ↔ (-1 : Int) = t'
        omega
      · exact h.ownW t' i b zs mx hz hb hw hm
  · rw [e2] at hv
    obtain ⟨zs, b, m, z, h1, h2, h3, h4⟩ := h.wtk t' v hv
    refine ⟨zs, b, m, z, h1, ?_, h3, h4⟩
    rw [set_ats hat]
    split
    · rename_i e; subst e; rw [hwt] at hv; cases hv
    · exact h2
  · rw [e1] at hm; rw [e2] at hv
    rcases ms_cases hm with ⟨rfl, rfl⟩ | ⟨hne, hm⟩
    · intro e
      have e : (t : Int) = t' := e
      rw [← e, hwt] at hv; cases hv
    · exact h.no4 t' i mx hv hm
  · rw [e1] at hm
    rcases List.mem_or_eq_of_mem_set hm with hm | rfl
    · exact h.rng mx hm
    · exact .inr ⟨t, rfl, get_lt hy⟩
/-- one waits for a mutex -/
theorem HJ.wait (h : HJ acts M s ats) (hy : acts[t]? = some ys) (hat : ats[t]? = some a) (hwt : s.wt (t : Int) = none) {i0 : Nat} {z : Int} (hx : ys[a]? = some (1, (i0 : Int), z)) {mx0 : Mx} (hm0 : s.ms[i0]? = some mx0) (ho : mx0.owner ≠ (t : Int)) {q : List Wt} (e1 : s'.ms = s.ms.set i0 ⟨mx0.owner, q⟩) (e2 : s'.wt = updF s.wt (t : Int) (some ((t : Int), 1, (i0 : Int)))) : HJ acts M s' (ats.set t (a + 1)) := by
  have ex : ∀ {i : Nat} {mx : Mx}, s'.ms[i]? = some mx → ∃ mx', s.ms[i]? = some mx' ∧ mx'.owner = mx.owner := fun hm => by
    rw [e1] at hm
    rcases ms_cases hm with ⟨rfl, rfl⟩ | ⟨hne, hm⟩
    · exact ⟨_, hm0, rfl⟩
    · exact ⟨_, hm, rfl⟩
  have wne : ∀ {t' : Nat}, t' ≠ t → s'.wt (t' : Int) = s.wt (t' : Int) := fun hne => by rw [e2, updF, if_neg (by omega)]
  have wt0 : s'.wt (t : Int) = some ((t : Int), 1, (i0 : Int)) := by rw [e2, updF, if_pos rfl]
  refine ⟨by rw [e1, List.length_set]; exact h.len, fun t' i b zs mx hz hb hw hm => ?_, fun t' i b zs mx hz hb hw hm => ?_, fun t' v hv => ?_, fun t' i mx hv hm => ?_, fun mx hm => ?_⟩
  · obtain ⟨mx', hm', eo⟩ := ex hm
    rw [set_ats hat] at hb
    split at hb
    · rename_i e; subst e; rw [wt0] at hw; cases hw
    · rename_i e
      rw [wne e] at hw
      rw [← eo]
      exact h.own t' i b zs mx' hz hb hw hm'
  · obtain ⟨mx', hm', eo⟩ := ex hm
    rw [← eo]
    rw [set_ats hat] at hb
    split at hb
    · rename_i e; subst e
      have hb : a = b := by have := Option.some.inj hb; omega
      subst hb
      rw [hy] at hz; cases hz
      exact h.own _ i a ys mx' hy hat hwt hm'
    · rename_i e
      rw [wne e] at hw
      exact h.ownW t' i b zs mx' hz hb hw hm'
  · by_cases e : t' = t
    · subst e
      rw [wt0] at hv; cases hv
      exact ⟨ys, a, _, z, hy, by rw [set_ats hat, if_pos rfl], hx, rfl⟩
    · rw [wne e] at hv
      obtain ⟨zs, b, m, z, h1, h2, h3, h4⟩ := h.wtk t' v hv
      exact ⟨zs, b, m, z, h1, by rw [set_ats hat, if_neg e]; exact h2, h3, h4⟩
  · obtain ⟨mx', hm', eo⟩ := ex hm
    rw [← eo]
    by_cases e : t' = t
    · subst e
      rw [wt0] at hv
      have hi : i0 = i := by
        simp only [Option.some.injEq, Prod.mk.injEq] at hv
        omega
      subst hi
      rw [hm0] at hm'; cases hm'
      exact ho
    · rw [wne e] at hv
      exact h.no4 t' i mx' hv hm'
  · rw [e1] at hm
    rcases List.mem_or_eq_of_mem_set hm with hm | rfl
    · exact h.rng mx hm
    · exact h.rng mx0 (List.mem_of_getElem? hm0)
/-- a mutex is given back, and nobody waits for it -/
theorem HJ.free (h : HJ acts M s ats) (hy : acts[t]? = some ys) (hat : ats[t]? = some a) (hwt : s.wt (t : Int) = none) {i0 : Nat} {mx0 : Mx} (hm0 : s.ms[i0]? = some mx0) (ho : mx0.owner = (t : Int)) {q : List Wt} (e1 : s'.ms = s.ms.set i0 ⟨-1, q⟩) (e2 : s'.wt = s.wt) (hh : heldF (ys.take (a + 1)) = setF (heldF (ys.take a)) (i0 : Int) false) : HJ acts M s' (ats.set t (a + 1)) := by
  refine ⟨by rw [e1, List.length_set]; exact h.len, fun t' i b zs mx hz hb hw hm => ?_, fun t' i b zs mx hz hb hw hm => ?_, fun t' v hv => ?_, fun t' i mx hv hm => ?_, fun mx hm => ?_⟩
  · rw [e1] at hm; rw [e2] at hw
    rw [set_ats hat] at hb
    split at hb
    · rename_i e; subst e; cases hb
      rw [hy] at hz; cases hz
      rw [hh]
      rcases ms_cases hm with ⟨rfl, rfl⟩ | ⟨hne, hm⟩
      · simp [setF]
      · rw [setF, if_neg (by omega)]
        exact h.own _ i a ys mx hy hat hwt hm
    · rename_i e
      rcases ms_cases hm with ⟨rfl, rfl⟩ | ⟨hne, hm⟩
      · have := h.own t' i b zs mx0 hz hb hw hm0
        rw [ho] at this
        rw [← this]
        show (-1 : Int) = t' ↔ (t : Int) = t'
        omega
      · exact h.own t' i b zs mx hz hb hw hm
  · rw [e1] at hm; rw [e2] at hw
    rw [set_ats hat] at hb
    split at hb
    · rename_i e; subst e; rw [hwt] at hw; cases hw
    · rename_i e
      rcases ms_cases hm with ⟨rfl, rfl⟩ | ⟨hne, hm⟩
      · have := h.ownW t' i b zs mx0 hz hb hw hm0
        rw [ho] at this
        rw [← this]
        show (-1 : Int) = t' ↔ (t : Int) = t'
        omega
      · exact h.ownW t' i b zs mx hz hb hw hm
  · rw [e2] at hv
    obtain ⟨zs, b, m, z, h1, h2, h3, h4⟩ := h.wtk t' v hv
    refine ⟨zs, b, m, z, h1, ?_, h3, h4⟩
    rw [set_ats hat]
    split
    · rename_i e; subst e; rw [hwt] at hv; cases hv
    · exact h2
  · rw [e1] at hm; rw [e2] at hv
    rcases ms_cases hm with ⟨rfl, rfl⟩ | ⟨hne, hm⟩
    · show (-1 : Int) ≠ t'
      omega
    · exact h.no4 t' i mx hv hm
  · rw [e1] at hm
    rcases List.mem_or_eq_of_mem_set hm with hm | rfl
    · exact h.rng mx hm
    · exact .inl rfl
/-- a mutex is handed on -/
theorem HJ.hand (h : HJ acts M s ats) (hy : acts[t]? = some ys) (hat : ats[t]? = some a) (hwt : s.wt (t : Int) = none) {i0 : Nat} {mx0 : Mx} (hm0 : s.ms[i0]? = some mx0) (ho : mx0.owner = (t : Int)) {u : Nat} (hu : s.wt (u : Int) = some ((u : Int), 1, (i0 : Int))) {q : List Wt} (e1 : s'.ms = s.ms.set i0 ⟨(u : Int), q⟩) (e2 : s'.wt = updF s.wt (u : Int) none) (hh : heldF (ys.take (a + 1)) = setF (heldF (ys.take a)) (i0 : Int) false) : HJ acts M s' (ats.set t (a + 1)) := by
  have hut : u ≠ t := fun e => by rw [e, hwt] at hu; cases hu
  obtain ⟨yu, au, mu, zu, hyu, hau, hxu, hvu⟩ := h.wtk u _ hu
  have hmu : mu = (i0 : Int) := by simp only [Prod.mk.injEq] at hvu; exact hvu.2.2.symm
  subst hmu
  have wu : s'.wt (u : Int) = none := by rw [e2, updF, if_pos rfl]
  have wne : ∀ {t' : Nat}, t' ≠ u → s'.wt (t' : Int) = s.wt (t' : Int) := fun hne => by rw [e2, updF, if_neg (by omega)]
  refine ⟨by rw [e1, List.length_set]; exact h.len, fun t' i b zs mx hz hb hw hm => ?_, fun t' i b zs mx hz hb hw hm => ?_, fun t' v hv => ?_, fun t' i mx hv hm => ?_, fun mx hm => ?_⟩
  · rw [e1] at hm
    rw [set_ats hat] at hb
    split at hb
    · rename_i e; subst e; cases hb
      rw [hy] at hz; cases hz
      rw [hh]
      rcases ms_cases hm with ⟨rfl, rfl⟩ | ⟨hne, hm⟩
      · simp [setF]; omega
      · rw [setF, if_neg (by omega)]
        exact h.own _ i a ys mx hy hat hwt hm
    · rename_i e
      by_cases eu : t' = u
      · subst eu
        rw [hau] at hb; cases hb
        rw [hyu] at hz; cases hz
        rw [heldF_next hxu, hstF, if_pos (.inl rfl)]
        rcases ms_cases hm with ⟨rfl, rfl⟩ | ⟨hne, hm⟩
        · simp [setF]
        · rw [setF, if_neg (by show ¬ (i : Int) = (i0 : Int); omega)]
          exact h.ownW t' i au yu mx hyu hau (by rw [hu]; rfl) hm
      · rw [wne eu] at hw
        rcases ms_cases hm with ⟨rfl, rfl⟩ | ⟨hne, hm⟩
        · have := h.own t' i b zs mx0 hz hb hw hm0
          rw [ho] at this
          rw [← this]
          show (u : Int) = t' ↔ (t : Int) = t'
          omega
        · exact h.own t' i b zs mx hz hb hw hm
  · have hnu : t' ≠ u := fun e => by rw [e, wu] at hw; cases hw
    rw [e1] at hm; rw [wne hnu] at hw
    rw [set_ats hat] at hb
    split at hb
    · rename_i e; subst e; rw [hwt] at hw; cases hw
    · rename_i e
      rcases ms_cases hm with ⟨rfl, rfl⟩ | ⟨hne, hm⟩
      · have := h.ownW t' i b zs mx0 hz hb hw hm0
        rw [ho] at this
        rw [← this]
        show (u : Int) = t' ↔ (t : Int) = t'
        omega
      · exact h.ownW t' i b zs mx hz hb hw hm
  · have hnu : t' ≠ u := fun e => by rw [e, wu] at hv; cases hv
    rw [wne hnu] at hv
    obtain ⟨zs, b, m, z, h1, h2, h3, h4⟩ := h.wtk t' v hv
    refine ⟨zs, b, m, z, h1, ?_, h3, h4⟩
    rw [set_ats hat]
    split
    · rename_i e; subst e; rw [hwt] at hv; cases hv
    · exact h2
  · have hnu : t' ≠ u := fun e => by rw [e, wu] at hv; cases hv
    rw [wne hnu] at hv
    rw [e1] at hm
    rcases ms_cases hm with ⟨rfl, rfl⟩ | ⟨hne, hm⟩
    · show (u : Int) ≠ t'
      omega
    · exact h.no4 t' i mx hv hm
  · rw [e1] at hm
    rcases List.mem_or_eq_of_mem_set hm with hm | rfl
    · exact h.rng mx hm
    · exact .inr ⟨u, rfl, get_lt hyu⟩
end
end Full
end Go.Proofs.Ytibpbbjlecohiaa
set_option maxRecDepth 20000
namespace Go.Proofs.Ytibpbbjlecohiaa
namespace Full
open Go Go.Vc Go.RowKit
/-! # nobody is stuck who keeps an order (plain) -/
def new8Q (a b c d : Nat) : R8 := ⟨a, b, c, List.replicate (2 * (a + b) + c) [], List.replicate d 0⟩
theorem simN8 (a b c d : Nat) : Sim (new8 a b c d) (new8Q a b c d) := by
  have hq : ∀ q ∈ (new8 a b c d).qs, q = [] := fun q hq => by
    have hq : q ∈ (free a).map Mx.queue ++ ((List.replicate b (⟨[], -1, []⟩ : Lk)).map Lk.queue ++ List.replicate c []) := hq
    rcases List.mem_append.1 hq with h | h
    · obtain ⟨y, hy, rfl⟩ := List.mem_map.1 h
      rw [free] at hy
      rw [List.eq_of_mem_replicate hy]
    · rcases List.mem_append.1 h with h | h
      · obtain ⟨y, hy, rfl⟩ := List.mem_map.1 h
        rw [List.eq_of_mem_replicate hy]
      · exact List.eq_of_mem_replicate h
  have l1 : (new8 a b c d).ms.length = a := by simp [new8, free]
  have l2 : (new8 a b c d).ls.length = b := by simp [new8]
  have l3 : (new8 a b c d).cs.length = c := by simp [new8]
  have rows : ∀ j, j < 2 * (a + b) + c → (new8Q a b c d).rows[j]? = some [] := fun j hj => by
    show (List.replicate _ _)[j]? = _
    rw [List.getElem?_replicate, if_pos hj]
  have em : ∀ m ∈ (new8 a b c d).ms, m = ⟨-1, []⟩ := fun m hm => List.eq_of_mem_replicate hm
  have el : ∀ l ∈ (new8 a b c d).ls, l = ⟨[], -1, []⟩ := fun l hl => List.eq_of_mem_replicate hl
  refine ⟨⟨l1.symm, l2.symm, l3.symm, rfl, by rw [l1, l2, l3]; simp [new8Q], fun i m hm => ?_, fun i l hl => ?_, fun j q hj => ?_⟩, ⟨fun m hm => ?_, fun l hl => ?_, fun l hl => ?_, fun q hq x hx => ?_, fun m hm => ?_, fun l hl => ?_, ⟨fun q hq' x hx => ?_, fun t v hv => ?_, fun v => ⟨?_, fun hv => ?_⟩, fun q hq' => ?_⟩⟩⟩
  · have := get_lt hm
    rw [em m (List.mem_of_getElem? hm), rows _ (by omega)]; rfl
  · have := get_lt hl
    rw [el l (List.mem_of_getElem? hl), l1, rows _ (by omega)]; rfl
  · have := get_lt hj
    rw [qs_len] at this
    rw [hq q (List.mem_of_getElem? hj), l1, l2, rows _ (by unfold qrow; split <;> omega)]; rfl
  · rw [em m hm]; exact .inr ⟨rfl, rfl⟩
  · rw [el l hl]; exact .inl rfl
  · rw [el l hl]; exact ⟨List.nodup_nil, fun x hx => by simp at hx, fun t ht => by simp at ht⟩
  · have : q = [] := List.eq_of_mem_replicate hq
    rw [this] at hx; simp at hx
  · rw [em m hm]; show (-1 : Int) < 16; decide
  · rw [el l hl]; show (-1 : Int) < 16; decide
  · rw [hq q hq'] at hx; simp at hx
  · cases hv
  · rintro ⟨j, q, x, hj, hx, _⟩
    rw [hq q (List.mem_of_getElem? hj)] at hx; simp at hx
  · cases hv
  · rw [hq q hq']; exact List.nodup_nil
def OkA (M D : Nat) (x : Act) : Prop := ((x.1 = 1 ∨ x.1 = 2) ∧ 0 ≤ x.2.1 ∧ x.2.1 < (M : Int)) ∨ (x.1 = 10 ∧ 0 ≤ x.2.1 ∧ x.2.1 < (D : Int)) ∨ x.1 = 11
structure HI (acts : List (List Act)) (M : Nat) (p : PS) : Prop where
  ok : p.Ok acts
  sim : ∃ r, Sim p.s r
  lt : ∀ x, (p.s.wt x).isSome = true → 0 ≤ x ∧ x < acts.length
  hj : HJ acts M p.s p.ats
section
variable {acts : List (List Act)} {M D : Nat} {p : PS}
theorem ask_free {s : S8} {t : Nat} {n : Int} {k : Nat} (ht : t < 16) (hw : s.wt (t : Int) = none) (h0 : 0 ≤ n) (h1 : n < (k : Int)) : askL (t : Int) [(n, (k : Int))] s.wt = 0 := by
  have hb : badN [(n, (k : Int))] = false := by simp [badN]; omega
  unfold askL
  rw [if_neg (by omega), hb, hw]
  rfl
theorem HJ.does (h : HJ acts M p.s p.ats) (hW : WS p.s) (hlt : ∀ x, (p.s.wt x).isSome = true → 0 ≤ x ∧ x < acts.length) (h16 : acts.length ≤ 16) {t a : Nat} {ys : List Act} {x : Act} (hy : acts[t]? = some ys) (hat : p.ats[t]? = some a) (hx : ys[a]? = some x) (hwt : p.s.wt (t : Int) = none) (hA : OkA M D x) :
    HJ acts M (doesF p.s (t : Int) x.1 x.2.1 x.2.2).2 (p.ats.set t (a + 1)) := by
  have hn := heldF_next hx
  have ht16 : t < 16 := by have := get_lt hy; omega
  obtain ⟨k, n, z⟩ := x
  have stay : ∀ {s' : S8}, k ≠ 1 → k ≠ 2 → s'.ms = p.s.ms → s'.wt = p.s.wt → HJ acts M s' (p.ats.set t (a + 1)) := fun h1 h2 e1 e2 => h.idle hy hat hwt e1 e2 fun i _ => by
    rw [hn, hstF, if_neg (by show ¬ (k = 1 ∨ k = 2); omega)]
  have same : ∀ {s' : S8} {b : Bool} (i0 : Nat), n = (i0 : Int) → (k = 1 ∨ k = 2) → decide (k = 1) = b → heldF (ys.take a) n = b → s'.ms = p.s.ms → s'.wt = p.s.wt → HJ acts M s' (p.ats.set t (a + 1)) := fun i0 hi hk hb hh e1 e2 => h.idle hy hat hwt e1 e2 fun i _ => by
    rw [hn, hstF, if_pos hk]
    simp only [setF, hb]
    split
    · rename_i e
      rw [e, hh]
    · rfl
  rcases hA with ⟨hk, hn0, hn1⟩ | ⟨hk, hn0, hn1⟩ | hk
  · have hn0 : 0 ≤ n := hn0
    have hn1 : n < (M : Int) := hn1
    obtain ⟨i0, rfl⟩ : ∃ i0 : Nat, n = i0 := ⟨n.toNat, by omega⟩
    have e0 : ((i0 : Nat) : Int).toNat = i0 := by omega
    obtain ⟨mx, hm⟩ := get_ex (l := p.s.ms) (i := i0) (by rw [h.len]; omega)
    have hask := ask_free (s := p.s) (k := p.s.ms.length) ht16 hwt hn0 (by rw [h.len]; exact hn1)
    have hown := h.own t i0 a ys mx hy hat hwt hm
    rcases hk with hk | hk
    · have hk : k = 1 := hk
      subst hk
      rw [show doesF p.s (t : Int) 1 (i0 : Int) z = (⟨(lockF p.s t i0).1, [], 0, (lockF p.s t i0).2.1⟩, (lockF p.s t i0).2.2) from rfl]
      unfold lockF
      rw [if_neg (by simp [hask]), e0, hm]
      simp only
      by_cases h1 : mx.owner = (t : Int)
      · rw [if_pos h1]
        exact same i0 rfl (.inl rfl) rfl (hown.1 h1) rfl rfl
      · rw [if_neg h1]
        have hh : heldF (ys.take (a + 1)) = setF (heldF (ys.take a)) (i0 : Int) true := by rw [hn, hstF, if_pos (.inl rfl)]; rfl
        by_cases h2 : mx.owner = -1
        · rw [if_pos h2]
          exact h.take hy hat hwt hm h2 rfl rfl hh
        · rw [if_neg h2]
          exact h.wait hy hat hwt hx hm h1 rfl rfl
    · have hk : k = 2 := hk
      subst hk
      rw [show doesF p.s (t : Int) 2 (i0 : Int) z = (⟨false, (unlockF p.s t i0).1, 0, (unlockF p.s t i0).2.1⟩, (unlockF p.s t i0).2.2) from rfl]
      unfold unlockF
      rw [if_neg (by simp [hask]), e0, hm]
      simp only
      by_cases h1 : mx.owner = (t : Int)
      · rw [if_neg (by simp [h1])]
        have hh : heldF (ys.take (a + 1)) = setF (heldF (ys.take a)) (i0 : Int) false := by rw [hn, hstF, if_pos (.inr rfl)]; rfl
        unfold handF
        cases hq : mx.queue with
        | nil => exact h.free hy hat hwt hm h1 rfl rfl hh
        | cons y q =>
          have hin := (hW.qw.iq (ent p.s.ms.length p.s.ls.length i0 y)).1 ⟨i0, mx.queue, y, qs_m hm, by rw [hq]; exact .head _, rfl⟩
          have he : ent p.s.ms.length p.s.ls.length i0 y = (y.task, 1, (i0 : Int)) := by rw [ent, if_pos (get_lt hm)]
          rw [he] at hin
          have hin : p.s.wt y.task = some (y.task, 1, (i0 : Int)) := hin
          obtain ⟨y0, y1⟩ := hlt y.task (by rw [hin]; rfl)
          obtain ⟨u, hu⟩ : ∃ u : Nat, y.task = u := ⟨y.task.toNat, by omega⟩
          rw [hu] at hin
          exact h.hand hy hat hwt hm h1 hin (q := q) (by rw [← hu]) (by rw [← hu]) hh
      · rw [if_pos h1]
        refine same i0 rfl (.inr rfl) rfl ?_ rfl rfl
        cases hb : heldF (ys.take a) (i0 : Int) with
        | false => rfl
        | true => exact absurd (hown.2 hb) h1
  · have hk : k = 10 := hk
    subst hk
    refine stay (by decide) (by decide) ?_ ?_
    · show (addF p.s t n z).2.2.ms = _
      unfold addF; split
      · rfl
      · split <;> rfl
    · show (addF p.s t n z).2.2.wt = _
      unfold addF; split
      · rfl
      · split <;> rfl
  · have hk : k = 11 := hk
    subst hk
    exact stay (by decide) (by decide) rfl rfl
theorem HI.step (h : HI acts M p) (h16 : acts.length ≤ 16) (hA : ∀ ys ∈ acts, ∀ x ∈ ys, OkA M D x) {t : Nat} (ht : t ∈ p.ready acts) : HI acts M (p.step acts t) := by
  obtain ⟨a, ys, x, hat, hy, hlt, hx, hwt, ea, ex⟩ := h.ok.mem ht
  obtain ⟨r, sim⟩ := h.sim
  have hst : (p.step acts t).s = (doesF p.s (t : Int) x.1 x.2.1 x.2.2).2 := by simp only [PS.step, ea, ex]
  have hts : (p.step acts t).ats = p.ats.set t (a + 1) := by simp only [PS.step, ea]
  have E := does_eff sim (t : Int) x.1 x.2.1 x.2.2
  refine ⟨h.ok.step ht, ⟨_, by rw [hst]; exact (must_sim sim _ _ _ _).2⟩, fun y hy' => ?_, ?_⟩
  · rw [hst, E.eq] at hy'
    rcases hy' with ⟨h1, _⟩ | ⟨h1, _⟩
    · exact h.lt y h1
    · have := get_lt hy
      omega
  · rw [hst, hts]
    exact h.hj.does sim.ws h.lt h16 hy hat hx hwt (hA ys (List.mem_of_getElem? hy) x (List.mem_of_getElem? hx))
theorem playN_hi {picks : List Int} (hpk : ∀ i, 0 ≤ pickF picks i) (h16 : acts.length ≤ 16) (hA : ∀ ys ∈ acts, ∀ x ∈ ys, OkA M D x) : ∀ (f i : Nat) (p : PS), HI acts M p → sumL acts ≤ p.ats.sum + f → HI acts M (playN acts picks f i p) ∧ (playN acts picks f i p).ready acts = []
  | 0, i, p, h, hf => by
    refine ⟨h, ?_⟩
    cases hr : p.ready acts with
    | nil => exact hr
    | cons t r =>
      have := (h.ok.sum (t := t) (by rw [hr]; simp)).1
      omega
  | f + 1, i, p, h, hf => by
    rw [playN]
    by_cases hr : p.ready acts = []
    · rw [if_pos hr]; exact ⟨h, hr⟩
    · rw [if_neg hr]
      have hm := (runs_mem (pick := pickF picks i) hr (hpk i)).1
      have hs := h.ok.sum hm
      exact playN_hi hpk h16 hA f (i + 1) _ (h.step h16 hA hm) (by omega)
theorem start_hi (a b c d : Nat) (acts : List (List Act)) : HI acts a (startP (new8 a b c d) acts.length) := by
  refine ⟨start_ok _ _, ⟨_, simN8 a b c d⟩, fun x hx => (by cases hx), ⟨by simp [startP, new8, free], fun t i k ys mx _ hk _ hm => ?_, fun t i k ys mx _ _ hw _ => (by cases hw), fun t v hv => (by cases hv), fun t i mx hv _ => (by cases hv), fun mx hm => ?_⟩⟩
  · have hk0 : k = 0 := by
      simp only [startP, List.getElem?_replicate] at hk
      split at hk
      · cases hk; rfl
      · cases hk
    have hm0 : mx = ⟨-1, []⟩ := List.eq_of_mem_replicate (List.mem_of_getElem? hm)
    subst hk0; subst hm0
    rw [List.take_zero]
    show (-1 : Int) = t ↔ false = true
    constructor
    · intro h; omega
    · intro h; cases h
  · exact .inl (by rw [List.eq_of_mem_replicate hm])
/-- at its end nobody waits -/
theorem HI.none (h : HI acts M p) (hr : p.ready acts = []) (hE : ∀ ys ∈ acts, ∀ i : Nat, i < M → heldF ys (i : Int) = false) (hO : (orderF acts).2 = 0) (t : Nat) : p.s.wt (t : Int) = none := by
  obtain ⟨rank, hb, hk⟩ := orderF_rank hO
  obtain ⟨r, sim⟩ := h.sim
  -- whoever waits, waits for one who waits for a mutex of a higher rank
  have next : ∀ (t : Nat) (m : Int), p.s.wt (t : Int) = some ((t : Int), 1, m) → ∃ (u : Nat) (m' : Int), p.s.wt (u : Int) = some ((u : Int), 1, m') ∧ rank m < rank m' := fun t m hw => by
    obtain ⟨j, q, x, hq, hx, he⟩ := (sim.ws.qw.iq ((t : Int), 1, m)).2 hw
    have hjm : j < p.s.ms.length ∧ m = (j : Int) := by
      unfold ent at he
      split at he
      · rename_i hj
        simp only [Prod.mk.injEq] at he
        exact ⟨hj, he.2.2.symm⟩
      · split at he
        · simp only [Prod.mk.injEq] at he
          have := he.2.1
          split at this <;> omega
        · simp only [Prod.mk.injEq] at he
          omega
    obtain ⟨hj, rfl⟩ := hjm
    obtain ⟨mx, hm⟩ := get_ex hj
    have hq' := qs_m hm
    rw [hq] at hq'
    cases hq'
    have hown : mx.owner ≠ -1 := fun e => by
      rcases sim.ws.own mx (List.mem_of_getElem? hm) with h1 | ⟨_, h1⟩
      · omega
      · rw [h1] at hx; cases hx
    obtain ⟨u, hu, hun⟩ : ∃ u : Nat, mx.owner = (u : Int) ∧ u < acts.length := by
      rcases h.hj.rng mx (List.mem_of_getElem? hm) with h1 | h1
      · exact absurd h1 hown
      · exact h1
    obtain ⟨yu, hyu⟩ := get_ex hun
    obtain ⟨au, hau⟩ := get_ex (l := p.ats) (i := u) (by rw [h.ok.len]; exact hun)
    cases hwu : p.s.wt (u : Int) with
    | none =>
      exfalso
      have hh := (h.hj.own u j au yu mx hyu hau hwu hm).1 hu
      have hle := h.ok.le u au yu hau hyu
      have hfull : au = yu.length := by
        have hn : ¬ u ∈ p.ready acts := by rw [hr]; simp
        unfold PS.ready readyN at hn
        have ea : p.ats.getD u 0 = au := by rw [List.getD_eq_getElem?_getD, hau]; rfl
        have ey : acts.getD u [] = yu := by rw [List.getD_eq_getElem?_getD, hyu]; rfl
        rw [List.mem_filter, List.mem_range, canR, ea, ey, hwu] at hn
        by_cases e : au = yu.length
        · exact e
        · exact absurd ⟨hun, by rw [decide_eq_false e]; rfl⟩ hn
      rw [hfull, List.take_length, hE yu (List.mem_of_getElem? hyu) j (by rw [← h.hj.len]; exact hj)] at hh
      cases hh
    | some v =>
      obtain ⟨yu', bu, m', z, hy', hb', hx', rfl⟩ := h.hj.wtk u v hwu
      rw [hyu] at hy'; cases hy'
      have hh := (h.hj.ownW u j bu yu mx hyu hb' (by rw [hwu]; rfl) hm).1 hu
      have hne : (j : Int) ≠ m' := fun e => by
        rw [← e] at hwu
        exact h.hj.no4 u j mx hwu hm hu
      exact ⟨u, m', hwu, hk u bu yu m' z (j : Int) hyu hx' hh hne⟩
  cases hw : p.s.wt (t : Int) with
  | none => rfl
  | some v =>
    exfalso
    obtain ⟨_, _, m0, _, _, _, _, rfl⟩ := h.hj.wtk t v hw
    have up : ∀ k : Nat, ∃ (u : Nat) (m : Int), p.s.wt (u : Int) = some ((u : Int), 1, m) ∧ k ≤ rank m := fun k => by
      induction k with
      | zero => exact ⟨t, m0, hw, Nat.zero_le _⟩
      | succ k ih =>
        obtain ⟨u, m, hu, hk'⟩ := ih
        obtain ⟨u', m', hu', hlt⟩ := next u m hu
        exact ⟨u', m', hu', by omega⟩
    obtain ⟨u, m, _, hm⟩ := up 66
    have := hb m
    omega
end
/-- programs that end without a mutex, and have an order -/
theorem play_ordered {a b c d : Int} {acts : List (List Act)} {picks : List Int} (hok : okN a ∧ okN b ∧ okN c ∧ okN d) (hm : pmayF acts picks = 0) (hA : ∀ ys ∈ acts, ∀ x ∈ ys, OkA a.toNat d.toNat x) (hE : ∀ ys ∈ acts, ∀ i : Nat, i < a.toNat → heldF ys (i : Int) = false) (hO : (orderF acts).2 = 0) :
    (playT a b c d acts picks).err = 0 ∧ (playT a b c d acts picks).dead = [] ∧ (playT a b c d acts picks).done = acts.map fun ys => (ys.length : Int) := by
  unfold playT
  rw [if_neg (fun h => h hok), if_neg (fun h => h hm)]
  obtain ⟨h16, _, _, hpk, _⟩ := pmay_kind hm
  have hpick : ∀ i, 0 ≤ pickF picks i := fun i => by
    unfold pickF
    rw [List.getD_eq_getElem?_getD]
    cases hx : picks[i]? with
    | none => exact Int.le_refl _
    | some x => exact (hpk x (List.mem_of_getElem? hx)).1
  obtain ⟨h, hr⟩ := playN_hi (acts := acts) hpick h16 hA (sumL acts) 0 _ (start_hi a.toNat b.toNat c.toNat d.toNat acts) (by omega)
  have hp : playR (new8 a.toNat b.toNat c.toNat d.toNat) acts picks = playN acts picks (sumL acts) 0 (startP (new8 a.toNat b.toNat c.toNat d.toNat) acts.length) := rfl
  rw [hp]
  generalize playN acts picks (sumL acts) 0 (startP (new8 a.toNat b.toNat c.toNat d.toNat) acts.length) = p at h hr
  have hw := h.none hr hE hO
  refine ⟨rfl, ?_, ?_⟩
  · show deadL p.s.wt acts.length = []
    unfold deadL
    rw [List.filter_eq_nil_iff.2 fun i _ => by rw [hw i]; decide]
    rfl
  · show doneL p.s.wt p.ats acts.length = _
    apply List.ext_getElem?
    intro i
    unfold doneL
    rw [List.getElem?_map, List.getElem?_map]
    rcases Nat.lt_or_ge i acts.length with hi | hi
    · obtain ⟨ys, hy⟩ := get_ex hi
      obtain ⟨k, hk⟩ := get_ex (l := p.ats) (i := i) (by rw [h.ok.len]; exact hi)
      have ea : p.ats.getD i 0 = k := by rw [List.getD_eq_getElem?_getD, hk]; rfl
      have ey : acts.getD i [] = ys := by rw [List.getD_eq_getElem?_getD, hy]; rfl
      rw [List.getElem?_range hi, hy]
      have hn : ¬ i ∈ p.ready acts := by rw [hr]; simp
      unfold PS.ready readyN at hn
      rw [List.mem_filter, List.mem_range, canR, ea, ey, hw i] at hn
      have hfull : k = ys.length := by
        by_cases e : k = ys.length
        · exact e
        · exact absurd ⟨hi, by rw [decide_eq_false e]; rfl⟩ hn
      simp only [Option.map_some, doneN, hw i, ea, hfull]
      rfl
    · rw [List.getElem?_eq_none (by simpa using hi), List.getElem?_eq_none hi]; rfl
end Full
end Go.Proofs.Ytibpbbjlecohiaa
