import Derived.Test.YtibpbbjlecohiaaLbF
set_option maxRecDepth 20000
namespace Go.Proofs.Ytibpbbjlecohiaa
namespace Full
open Go Go.Vc Go.RowKit
theorem elemInt : ElemOk Try.prog 35 3 1 8 := ⟨Try.underlying35, .int .i64 0, by kernel_rfl, rfl⟩
theorem zeroInt (w : World) : (zeroValue 3).run Try.prog w = .ok (.int .i64 0) w := by kernel_rfl
def idxI (xs : List Int) (x : Int) : Int := match xs.findIdx? (· == x) with | some i => (i : Int) | none => -1
theorem idxI_at {xs : List Int} {i : Nat} {x : Int} (h : xs[i]? = some x) (hn : ∀ (j : Nat) (y : Int), j < i → xs[j]? = some y → y ≠ x) : idxI xs x = i := by
  have : xs.findIdx? (· == x) = some i := by
    rw [List.findIdx?_eq_some_iff_getElem]
    have hi := get_lt h
    refine ⟨hi, ?_, fun j hj => ?_⟩
    · rw [List.getElem?_eq_getElem hi] at h; cases h; simp
    · have := hn j xs[j] hj (List.getElem?_eq_getElem (by omega))
      simpa using this
  rw [idxI, this]
theorem idxI_no {xs : List Int} {x : Int} (hn : ∀ (j : Nat) (y : Int), xs[j]? = some y → y ≠ x) : idxI xs x = -1 := by
  have : xs.findIdx? (· == x) = none := by
    rw [List.findIdx?_eq_none_iff]
    intro y hy
    obtain ⟨j, hj⟩ := List.getElem?_of_mem hy
    simpa using hn j y hj
  rw [idxI, this]
theorem index86 {w : World} {q : Option Addr} {l c : Nat} {xs : List Int} (h : RE En.int w q l xs) (x : Int) (hl : l ≤ 9223372036854775807) :
    Calls Try.prog 86 #[.slice q l c, .int .i64 x] w (Ret fun v w' => v = .int .i64 (idxI xs x) ∧ w = w') := by
  refine f86.calls _ _ _ _ ?_
  unfold f86.wp
  have hlen := h.len
  refine ⟨fun x1 w' => ∃ i : Nat, x1 = i ∧ i ≤ l ∧ w = w' ∧ ∀ (j : Nat) y, j < i → xs[j]? = some y → y ≠ x, fun x1 _ => l - x1.toNat, ⟨0, rfl, Nat.zero_le _, rfl, fun j y hj => by omega⟩, ?_⟩
  rintro x1 _ ⟨i, rfl, hi, rfl, hin⟩
  refine bc (fun hlt => ?_) (fun hge => ?_)
  · have hi' : i < l := by simpa using hlt
    obtain ⟨a, y, rfl, hy, hr⟩ := h.ex hi'
    rw [wrapS (x := (i : Int) + 1) (by omega) (by omega)]
    refine onPtr_mk ⟨by omega, by omega, y, reads_one' hr, bc (fun he => ⟨?_, rfl⟩) (fun he => ⟨⟨i + 1, by omega, hi', rfl, fun j z hj hz => ?_⟩, meas hi'⟩)⟩
    · have he : x = y := by simpa using he
      subst he
      rw [idxI_at hy hin]
    · have he : x ≠ y := by simpa using he
      rcases Nat.lt_or_ge j i with h1 | h1
      · exact hin j z h1 hz
      · have : j = i := by omega
        subst this
        rw [hy] at hz; cases hz
        exact fun e => he e.symm
  · have hge : ¬ i < l := by simpa using hge
    rw [idxI_no fun j y hj => hin j y (by have := get_lt hj; omega) hj]
    exact ⟨rfl, rfl⟩
/-- slices.Delete(s, i, i + 1), of ints -/
theorem delete87 {w : World} {base : Nat} {q : Option Addr} {l c i : Nat} {xs : List Int} (h : SE En.int w base 3 q l c xs) (hi : i < l) (hl : l ≤ 9223372036854775806) :
    Calls Try.prog 87 #[.slice q l c, .int .i64 (i : Int), .int .i64 ((i : Int) + 1)] w (Ret fun v w' => v = .slice q (l - 1) c ∧ SE En.int w' base 3 q (l - 1) c (xs.take i ++ xs.drop (i + 1)) ∧ Chg (fun k => some k = qB q) w w') := by
  refine f87.calls _ _ _ _ _ ?_
  unfold f87.wp
  have hle := h.le
  have hlen := h.len
  have hq : q ≠ none := fun hq => by
    obtain ⟨a, ha, _⟩ := h.can (i := 0) (by omega)
    rw [hq] at ha; cases ha
  obtain ⟨q', l', c', hr⟩ := run_sliceAt_ijn (P := Try.prog) elemInt q l c i (i + 1) l (by omega) (by omega) (by omega) w
  refine ⟨q', l', c', w, hr, bcF (by simp; omega) ⟨by omega, by omega, by omega, by omega, ?_⟩⟩
  have h0 := (h.take (n := i) (by omega)).drew
  have h1 := (h.re.cut (n := i + 1) (c := c) (by omega) hle).drew
  obtain ⟨w2, hrun, S2, k2⟩ := SE.appendIn (P := Try.prog) (t := 35) (ty := 35) (c2 := c - (i + 1)) h0 elemInt h1 (by omega)
  have el : i + (l - (i + 1)) = l - 1 := by omega
  rw [el] at hrun S2
  have et : Int.toNat (i : Int) = i := by omega
  have et1 : Int.toNat ((i : Int) + 1) = i + 1 := by omega
  rw [et, et1]
  refine ⟨_, _, _, w2, hrun, by omega, by omega, by omega, by omega, ?_⟩
  obtain ⟨w3, hrun3, S3, k3⟩ := SE.clear1 (P := Try.prog) (t := 35) (ty := 0) S2 hq Try.underlying35 zeroInt (by decide) rfl (by omega)
  have e1 : Int.toNat (l : Int) - Int.toNat ((l - 1 : Nat) : Int) = 1 := by omega
  refine ⟨w3, ?_, rfl, S3, k2.of_drew.trans k3⟩
  rw [e1]
  exact hrun3
end Full
end Go.Proofs.Ytibpbbjlecohiaa
