import Derived.Test.YtdlbmmodlkmofaaDoorPlG
set_option maxRecDepth 20000
namespace Go.Proofs.YtdlbmmodlkmofaaDoor
open Go Go.Vc Go.RowKit
/-! # outcomes -/
/-- what becomes of a page, by its digit -/
def fateOf (p : Int) (ts : List Int) (d : Nat) : T3 := if d = 0 then (p, 1, 0) else if d = 1 then (p, 2, 0) else (p, 3, (ts[d - 2]?).getD 0)
theorem fate83 {w : World} {q : Option Addr} {m c : Nat} {ts : List Int} (p : Int) (h : RE En.int w q m ts) {d : Nat} (hd : d < 2 + m) (hm : m ≤ 17592186044416) :
    Calls Tryd.prog 83 #[.int .i64 p, .slice q m c, .int .i64 (d : Int)] w (Ret fun v w' => v = .agg (En.t3.enc (fateOf p ts d)).toArray ∧ Chg none_ w w') := by
  refine f83.calls _ _ _ _ _ ?_
  unfold f83.wp
  refine newBox fun w1 B1 k1 _ => ?_
  refine bc (fun h0 => ⟨B1.canStore (by show 0 + 3 ≤ 3; decide), fun w2 e2 => ?_⟩) (fun h0 => bc (fun h1 => ⟨B1.canStore (by show 0 + 3 ≤ 3; decide), fun w2 e2 => ?_⟩) (fun h1 => ?_))
  · have B2 := B1.over e2 rfl
    have h0 : d = 0 := by have := eq_of_beq h0; omega
    exact ⟨_, _, _, B2.reads0, by simp [fateOf, h0, En.t3], k1.sets' e2 (.inr (Nat.le_refl _))⟩
  · have B2 := B1.over e2 rfl
    have h1 : d = 1 := by have := eq_of_beq h1; omega
    exact ⟨_, _, _, B2.reads0, by simp [fateOf, h1, En.t3], k1.sets' e2 (.inr (Nat.le_refl _))⟩
  · have h0 : d ≠ 0 := by have := ne_of_beq_false h0; omega
    have h1 : d ≠ 1 := by have := ne_of_beq_false h1; omega
    obtain ⟨a, t, rfl, ht, hr⟩ := (h.chg k1).ex (i := d - 2) (by omega)
    rw [wrapS (x := (d : Int) - 2) (by omega) (by omega)]
    refine onPtr_mk ⟨by omega, by omega, t, ?_, B1.canStore (by show 0 + 3 ≤ 3; decide), fun w2 e2 => ?_⟩
    · rw [show ((d : Int) - 2).toNat = d - 2 by omega]
      exact reads_one' hr
    · have B2 := B1.over e2 rfl
      exact ⟨_, _, _, B2.reads0, by simp [fateOf, h0, h1, ht, En.t3], k1.sets' e2 (.inr (Nat.le_refl _))⟩
/-- the outcome with the number k: the last page has the lowest digit -/
def outI (ps ts : List Int) (m : Nat) : Nat → Nat → List T3 → List T3
  | _, 0, out => out
  | k, i + 1, out => outI ps ts m (k / (2 + m)) i (out.set i (fateOf ((ps[i]?).getD 0) ts (k % (2 + m))))
theorem outI_len (ps ts : List Int) (m : Nat) : ∀ (i k : Nat) (out : List T3), (outI ps ts m k i out).length = out.length
  | 0, _, _ => rfl
  | i + 1, k, out => by rw [outI, outI_len ps ts m i]; simp
def outc (ps ts : List Int) (m k : Nat) : List T3 := outI ps ts m k ps.length (List.replicate ps.length (0, 0, 0))
theorem outcome51S {w : World} {q1 q2 : Option Addr} {l c1 m c2 k : Nat} {ps ts : List Int} (h1 : RE En.int w q1 l ps) (h2 : RE En.int w q2 m ts) (hl : l ≤ 64) (hm : m ≤ 17592186044416) (hk : k ≤ 9223372036854775807) :
    Calls Tryd.prog 51 #[.slice q1 l c1, .slice q2 m c2, .int .i64 (k : Int)] w (Ret fun v w' => ∃ q, v = .slice q l l ∧ SE En.t3 w' w.heap.size 44 q l l (outc ps ts m k) ∧ Chg none_ w w') := by
  refine f51.calls _ _ _ _ _ _ _ ?_
  unfold f51.wp
  have e1 := h1.len
  refine ⟨by omega, by omega, by omega, by omega, newBox fun w1 B1 k1 s1 => ?_⟩
  simp only [Int.toNat_natCast] at B1 ⊢
  have S1 : SE En.t3 w1 w.heap.size 44 (some ⟨w.heap.size, 0, none⟩) l l (List.replicate l (0, 0, 0)) := SE.made (n := l) (x := (0, 0, 0)) B1 rfl (Nat.le_refl _) (by simp only [maxLen]; omega)
  rw [wrapS (x := (l : Int) - 1) (by omega) (by omega), wrapS (x := 2 + (m : Int)) (by omega) (by omega)]
  refine ⟨fun x1 x2 w' => ∃ (i n : Nat) (out : List T3), x2 = (i : Int) - 1 ∧ i ≤ l ∧ x1 = n ∧ n ≤ 9223372036854775807 ∧ SE En.t3 w' w.heap.size 44 (some ⟨w.heap.size, 0, none⟩) l l out ∧ outI ps ts m n i out = outc ps ts m k ∧ Chg none_ w w', fun _ x2 _ => (x2 + 1).toNat, ⟨l, k, _, rfl, Nat.le_refl _, rfl, hk, S1, by rw [outc, e1], k1⟩, ?_⟩
  rintro x1 x2 w2 ⟨i, n, out, rfl, hi, rfl, hn, S2, ho, k2⟩
  refine bc (fun hlt => ?_) (fun hge => ?_)
  · obtain ⟨i, rfl⟩ : ∃ j, i = j + 1 := ⟨i - 1, by have := of_decide_eq_true hlt; omega⟩
    have ex : (((i + 1 : Nat) : Int) - 1) = (i : Int) := by omega
    rw [ex]
    have k2' := k2.drew
    have S2' := S2.drew
    generalize w2.drew = w2' at *
    obtain ⟨a, p, rfl, hp, hr⟩ := (h1.chg k2').ex (i := i) (by omega)
    have hmod : Int.tmod (n : Int) (2 + (m : Int)) = ((n % (2 + m) : Nat) : Int) := by
      rw [show (2 + (m : Int)) = ((2 + m : Nat) : Int) by omega]; rfl
    have hdiv : Int.tdiv (n : Int) (2 + (m : Int)) = ((n / (2 + m) : Nat) : Int) := by
      rw [show (2 + (m : Int)) = ((2 + m : Nat) : Int) by omega]; rfl
    have hdl : n / (2 + m) ≤ n := Nat.div_le_self _ _
    rw [hmod, hdiv, wrapN (n := n / (2 + m)) (by omega), wrapS (x := (i : Int) - 1) (by omega) (by omega)]
    refine ⟨fun p => p.block < w2'.heap.size, onPtr_mk ⟨by omega, by omega, p, ?_, reads_one' hr, by omega, Calls.use (fate83 p (h2.chg k2') (Nat.mod_lt _ (by omega)) hm) ?_⟩⟩
    · show (Addr.add _ _).block < _
      rw [add_block]
      have := cell_some (reads_one' hr)
      rwa [add_block] at this
    rintro _ w3 ⟨rfl, k3⟩
    have S3 := S2'.chgN k3
    have k03 := k2'.trans k3
    obtain ⟨a', ha', hcan⟩ := S3.can (i := i) (by omega)
    cases ha'
    have hc0 := hcan 0 3 (by decide)
    rw [add_mk, add_mk, Nat.add_zero] at hc0
    refine ⟨_, _, _, rfl, k3.keeps, by omega, by omega, ?_, fun w4 e4 => ?_⟩
    · rw [add_mk]; exact hc0
    · obtain ⟨S4, k4⟩ := S3.set rfl (i := i) (x' := fateOf p ts (n % (2 + m))) (by omega) e4
      have k04 : Chg none_ w w4 := k03.up k4 fun j hj => by simp [qB] at hj; omega
      refine ⟨by omega, ⟨i, n / (2 + m), _, rfl, by omega, rfl, by omega, S4, ?_, k04⟩, ?_⟩
      · rw [← ho, outI, hp]; rfl
      · show ((i : Int) - 1 + 1).toNat < ((i : Int) + 1).toNat
        omega
  · obtain rfl : i = 0 := by have := of_decide_eq_false hge; omega
    exact ⟨_, rfl, by rw [← ho]; exact S2, k2⟩
theorem outcome51 {w : World} {q1 q2 : Option Addr} {l c1 m c2 k : Nat} {ps ts : List Int} (h1 : RE En.int w q1 l ps) (h2 : RE En.int w q2 m ts) (hl : l ≤ 64) (hm : m ≤ 17592186044416) (hk : k ≤ 9223372036854775807) :
    Calls Tryd.prog 51 #[.slice q1 l c1, .slice q2 m c2, .int .i64 (k : Int)] w (Ret fun v w' => ∃ q, v = .slice q l l ∧ RE En.t3 w' q l (outc ps ts m k) ∧ Chg none_ w w') :=
  Calls.use (outcome51S h1 h2 hl hm hk) fun _ _ ⟨q, e, h, c⟩ => ⟨_, rfl, q, e, h.re, c⟩
end Go.Proofs.YtdlbmmodlkmofaaDoor
