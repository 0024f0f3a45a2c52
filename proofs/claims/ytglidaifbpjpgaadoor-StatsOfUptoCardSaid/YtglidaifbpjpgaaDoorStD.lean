import Derived.Test.YtglidaifbpjpgaaDoorStC
set_option maxRecDepth 20000
namespace Go.Proofs.YtglidaifbpjpgaaDoor
open Go Go.Vc Go.RowKit
def qL : List Int → List Int → Int → Int → Int → Int → Int × Int
  | b :: bs, c :: cs, acc, k, o, tot => if (acc + c) * o ≥ k * tot then (b, 0) else qL bs cs (acc + c) k o tot
  | _, _, _, _, _, _ => (0, 4)
def badQ (k o : Int) : Bool := decide (o < 1) || decide (o > 2147483647) || decide (k < 0) || decide (k > o)
def quant (bs cs : List Int) (tot k o : Int) : Int × Int := if badQ k o then (0, 1) else if tot = 0 then (0, 4) else qL bs cs 0 k o tot
theorem mulb {a b : Int} (h0 : 0 ≤ a) (h1 : a ≤ 2147483647) (h2 : 0 ≤ b) (h3 : b ≤ 2147483647) : 0 ≤ a * b ∧ a * b ≤ 4611686014132420609 := by
  refine ⟨Int.mul_nonneg h0 h2, ?_⟩
  calc a * b ≤ 2147483647 * 2147483647 := Int.mul_le_mul h1 h3 h2 (by omega)
    _ = 4611686014132420609 := by decide
theorem sum_take_le : ∀ {l : List Int} (i : Nat), (∀ x ∈ l, 0 ≤ x) → 0 ≤ (l.take i).sum ∧ (l.take i).sum ≤ l.sum
  | [], i, _ => by simp
  | a :: l, 0, h => by
    have := (sum_mem h).1
    simp at this ⊢; exact this
  | a :: l, i + 1, h => by
    have := sum_take_le (l := l) i fun x hx => h x (by simp [hx])
    have h0 := h a (by simp)
    simp; omega
theorem sum_take_succ {l : List Int} {i : Nat} {x : Int} (h : l[i]? = some x) : (l.take (i + 1)).sum = (l.take i).sum + x := by
  rw [List.take_add_one, h]; simp
theorem qL_step {bs cs : List Int} {i : Nat} {b c acc k o tot : Int} (hb : bs[i]? = some b) (hc : cs[i]? = some c) : qL (bs.drop i) (cs.drop i) acc k o tot = if (acc + c) * o ≥ k * tot then (b, 0) else qL (bs.drop (i + 1)) (cs.drop (i + 1)) (acc + c) k o tot := by
  have h1 := get_lt hb
  have h2 := get_lt hc
  rw [List.drop_eq_getElem_cons h1, List.drop_eq_getElem_cons h2]
  rw [List.getElem?_eq_getElem h1] at hb
  rw [List.getElem?_eq_getElem h2] at hc
  cases hb; cases hc
  rfl
theorem quantile25 {w : World} {base : Nat} {h : Hs} (H : HI w base h) (k o : Int) (hk : -9223372036854775808 ≤ k ∧ k ≤ 9223372036854775807) :
    Calls Tryd.prog 25 #[.pointer (some (ad h.b)), .int .i64 k, .int .i64 o] w (Ret fun v w' => v = .tuple #[.int .i64 (quant h.bs h.cs h.tot k o).1, .int .i64 (quant h.bs h.cs h.tot k o).2] ∧ w = w') := by
  refine f25.calls _ _ _ ?_
  unfold f25.wp
  refine Calls.use (made38 H) ?_
  rintro _ _ ⟨rfl, rfl⟩
  refine ⟨_, rfl, bcF rfl ⟨fun b w' => b = badQ k o ∧ w = w', ?_, ?_⟩⟩
  · rintro _ _ ⟨rfl, rfl⟩
    refine bc (fun hb => ⟨by simp [quant, hb], rfl⟩) (fun hb => onPtr_mk ⟨_, (H.blk.cell0 2).trans rfl, bc (fun h0 => ⟨?_, rfl⟩) (fun h0 => onPtr_mk ⟨_, _, _, (H.blk.cell 0).trans rfl, ?_⟩)⟩)
    · have : h.tot = 0 := by simpa using h0
      simp [quant, hb, this]
    have h0 : h.tot ≠ 0 := by simpa using h0
    have g := H.good
    have hq : quant h.bs h.cs h.tot k o = qL h.bs h.cs 0 k o h.tot := by simp [quant, hb, h0]
    rw [hq]
    have hl := g.ok.2.1
    simp [badQ] at hb
    refine ⟨fun x y w' => ∃ i : Nat, y = i ∧ i ≤ h.bs.length ∧ x = (h.cs.take i).sum ∧ qL h.bs h.cs 0 k o h.tot = qL (h.bs.drop i) (h.cs.drop i) x k o h.tot ∧ w = w', fun _ y _ => h.bs.length - y.toNat, ⟨0, rfl, Nat.zero_le _, by simp, by simp, rfl⟩, ?_⟩
    rintro x y _ ⟨i, rfl, hi, rfl, he, rfl⟩
    refine bc (fun hlt => ?_) (fun hge => ⟨?_, rfl⟩)
    · have hi' : i < h.bs.length := by simpa using hlt
      obtain ⟨a1, b, ha1, hb1, hr1⟩ := H.sb.re.ex hi'
      obtain ⟨a2, c, ha2, hc2, hr2⟩ := H.sc.re.ex (i := i) (by omega)
      have h1 := sum_take_le i g.pos
      have h2 := sum_take_le (i + 1) g.pos
      have h3 := sum_take_succ hc2
      have h4 := g.t1
      have h5 := g.all
      have h6 := g.t0
      have m1 := mulb (a := (h.cs.take i).sum + c) (b := o) (by omega) (by omega) (by omega) (by omega)
      have m2 := mulb (a := k) (b := h.tot) (by omega) (by omega) (by omega) (by omega)
      rw [ha1]
      rw [qL_step hb1 hc2] at he
      refine onPtr_mk ⟨by omega, by omega, b, reads_one' hr1, onPtr_mk ⟨some a2, _, _, (H.blk.cell0 1).trans (by rw [ha2]; rfl), onPtr_mk ⟨by omega, by omega, c, reads_one' hr2, onPtr_mk ⟨_, (H.blk.cell0 2).trans rfl, ?_⟩⟩⟩⟩
      rw [wrapS (x := (h.cs.take i).sum + c) (by omega) (by omega), wrapS (x := ((h.cs.take i).sum + c) * o) (by omega) (by omega), wrapS (x := k * h.tot) (by omega) (by omega), wrapS (x := (i : Int) + 1) (by omega) (by omega)]
      refine bc (fun hge => ⟨?_, rfl⟩) (fun hlt => ⟨⟨i + 1, by omega, hi', h3.symm, ?_, rfl⟩, meas hi'⟩)
      · have hge : ((h.cs.take i).sum + c) * o ≥ k * h.tot := by simpa using hge
        rw [he, if_pos hge]
      · have hlt : ¬ ((h.cs.take i).sum + c) * o ≥ k * h.tot := by simpa using hlt
        rw [he, if_neg hlt]
    · have : h.bs.length ≤ i := by simpa using hge
      rw [he, List.drop_eq_nil_of_le this]; rfl
  · refine bc (fun h1 => ⟨by simp at h1; simp [badQ, h1], rfl⟩) (fun h1 => bc (fun h2 => ⟨by simp at h2; simp [badQ, h2], rfl⟩) (fun h2 => bc (fun h3 => ⟨by simp at h3; simp [badQ, h3], rfl⟩) (fun h3 => ⟨by simp only [badQ, h1, h2, h3, Bool.false_or], rfl⟩)))
end Go.Proofs.YtglidaifbpjpgaaDoor
