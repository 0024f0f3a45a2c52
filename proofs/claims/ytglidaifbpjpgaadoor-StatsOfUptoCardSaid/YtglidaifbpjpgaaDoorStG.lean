import Derived.Test.YtglidaifbpjpgaaDoorStF
set_option maxRecDepth 20000
namespace Go.Proofs.YtglidaifbpjpgaaDoor
open Go Go.Vc Go.RowKit
theorem ratio11 (w : World) (z0 z1 z2 : Int) :
    Calls Tryd.prog 11 #[.int .i64 z0, .int .i64 z1, .int .i64 z2] w (Ret fun v w' => v = .tuple #[.string (rS z0 z1 z2), .int .i64 (rE z0 z1 z2)] ∧ Chg none_ w w') := by
  refine f11.calls _ _ _ ?_
  unfold f11.wp
  have bad : badR z0 z1 z2 = true → (.tuple #[.string (⟨#[]⟩ : ByteArray), .int .i64 1] : Value) = .tuple #[.string (rS z0 z1 z2), .int .i64 (rE z0 z1 z2)] := fun h => by simp [rS, rE, h]
  refine bc (fun h => ⟨bad (by simp only [badR, h, Bool.true_or]), Chg.refl _ _⟩) fun h1 => bc (fun h => ⟨bad (by simp only [badR, h, Bool.true_or, Bool.or_true]), Chg.refl _ _⟩) fun h2 =>
    bc (fun h => ⟨bad (by simp only [badR, h, Bool.true_or, Bool.or_true]), Chg.refl _ _⟩) fun h3 => bc (fun h => ⟨bad (by simp only [badR, h, Bool.true_or, Bool.or_true]), Chg.refl _ _⟩) fun h4 =>
    bc (fun h => ⟨bad (by simp only [badR, h, Bool.true_or, Bool.or_true]), Chg.refl _ _⟩) fun h5 => bc (fun h => ⟨bad (by simp only [badR, h, Bool.or_true]), Chg.refl _ _⟩) fun h6 => ?_
  have hb : badR z0 z1 z2 = false := by simp only [badR, h1, h2, h3, h4, h5, h6, Bool.or_false]
  simp only [decide_eq_false_iff_not, Int.not_lt, gt_iff_lt] at h1 h2 h3 h4 h5 h6
  obtain ⟨a, rfl⟩ := toNat_ex h1
  obtain ⟨b, rfl⟩ := toNat_ex (x := z1) (by omega)
  obtain ⟨p, rfl⟩ := toNat_ex h5
  have e1 : rS a b p = bt (ratioL a b p) := by simp [rS, hb]
  have e2 : rE a b p = 0 := by simp [rE, hb]
  rw [e1, e2]
  have hdiv : a / b ≤ a := Nat.div_le_self _ _
  have hdl := dd_len (a / b)
  rw [tdivN, tmodN, wrapS (x := ((a / b : Nat) : Int)) (by omega) (by omega)]
  refine ⟨by omega, Calls.use (number36 w (a / b) (by omega)) ?_⟩
  rintro _ w1 ⟨rfl, k1⟩
  refine ⟨_, rfl, fun s w' => s = bt (Lib.decDigits (a / b) ++ if 0 < p then [46] else []) ∧ Chg none_ w w', ?_, ?_⟩
  · rintro _ w2 ⟨rfl, k2⟩
    refine ⟨by omega, fun s r x w' => ∃ (j pl : Nat) (acc : List UInt8) (rest : Nat), x = j ∧ j + pl = p ∧ s = bt acc ∧ r = rest ∧ rest < b ∧ acc ++ digs pl rest b = ratioL a b p ∧ acc.length + pl ≤ 9007199254741100 ∧ Chg none_ w w', fun _ _ x _ => p - x.toNat,
      ⟨0, p, _, a % b, rfl, by omega, rfl, rfl, Nat.mod_lt _ (by omega), rfl, by simp only [List.length_append]; split <;> simp <;> omega, k2⟩, ?_⟩
    rintro _ _ _ w3 ⟨j, pl, acc, rest, rfl, hj, rfl, rfl, hr, he, hl, k3⟩
    refine bc (fun hgt => ?_) (fun hle => ⟨?_, k3⟩)
    · have hp : j < p := by simp at hgt; omega
      obtain ⟨pl', rfl⟩ : ∃ m, pl = m + 1 := ⟨pl - 1, by omega⟩
      have hd : rest * 10 / b < 10 := (Nat.div_lt_iff_lt_mul (by omega)).2 (by omega)
      rw [wrapS (x := (rest : Int) * 10) (by omega) (by omega), show (rest : Int) * 10 = ((rest * 10 : Nat) : Int) by omega, tdivN, tmodN, wrapS (x := ((rest * 10 / b : Nat) : Int)) (by have := Int.natCast_nonneg (rest * 10 / b); omega) (by omega), wrapS (x := (j : Int) + 1) (by omega) (by omega)]
      refine ⟨by omega, Calls.use (number36 w3 _ (by omega)) ?_⟩
      rintro _ w4 ⟨rfl, k4⟩
      have hdl1 : (Lib.decDigits (rest * 10 / b)).length = 1 := by rw [dd_small hd]; rfl
      refine ⟨_, rfl, _, w4, bt_cat (by omega), by omega, ⟨j + 1, pl', _, _, by omega, by omega, rfl, rfl, Nat.mod_lt _ (by omega), ?_, by rw [List.length_append]; omega, k3.trans k4⟩, meas hp⟩
      rw [← he]; simp [digs]
    · have hp : pl = 0 := by simp at hle; omega
      subst hp
      have : acc = ratioL a b p := by rw [← he]; simp [digs]
      rw [this]
  · refine bc (fun h => ?_) (fun h => ?_)
    · have hp : 0 < p := by simp at h; omega
      exact ⟨_, w1, bt_cat (b := [46]) (by simp; omega), by rw [if_pos hp], k1⟩
    · have hp : ¬ 0 < p := by simp at h; omega
      exact ⟨by rw [if_neg hp, List.append_nil], k1⟩
/-! # how far numbers are apart -/
def far (a b : Int) : Int := if a > b then a - b else b - a
def rowS (a : Int) (l : List Int) : Int := (l.map (far a)).sum
def sprS (xs : List Int) (i : Nat) : Int := ((List.range i).map fun k => rowS (xs[k]?.getD 0) (xs.take k)).sum
def inR (x : Int) : Bool := decide (0 ≤ x) && decide (x ≤ 2147483647)
def spread (xs : List Int) : Int × Int := if xs.length > 256 then (0, 3) else if xs.all inR then (sprS xs xs.length, 0) else (0, 1)
theorem rowS_succ {a b : Int} {l : List Int} {j : Nat} (h : l[j]? = some b) : rowS a (l.take (j + 1)) = rowS a (l.take j) + far a b := by
  rw [List.take_add_one, h]; simp [rowS]
theorem sprS_succ {xs : List Int} {i : Nat} {a : Int} (h : xs[i]? = some a) : sprS xs (i + 1) = sprS xs i + rowS a (xs.take i) := by
  simp [sprS, List.range_succ, h]
theorem spread14 {w : World} {q : Option Addr} {l c : Nat} {xs : List Int} (h : RE En.int w q l xs) (hlc : l ≤ c) (hl : l ≤ 9223372036854775807) :
    Calls Tryd.prog 14 #[.slice q l c] w (Ret fun v w' => v = .tuple #[.int .i64 (spread xs).1, .int .i64 (spread xs).2] ∧ w = w') := by
  refine f14.calls _ _ _ ?_
  unfold f14.wp
  have hlen := h.len
  refine bc (fun hgt => ⟨?_, rfl⟩) (fun hle => ?_)
  · have : xs.length > 256 := by simp at hgt; omega
    simp [spread, this]
  have hle : l ≤ 256 := by simp at hle; omega
  have h256 : ¬ xs.length > 256 := by omega
  refine ⟨fun x w' => ∃ i : Nat, x = i ∧ i ≤ l ∧ w = w' ∧ ∀ j y, j < i → xs[j]? = some y → inR y = true, fun x _ => l - x.toNat, ⟨0, rfl, Nat.zero_le _, rfl, fun j y hj => by omega⟩, ?_⟩
  rintro x _ ⟨i, rfl, hi, rfl, hin⟩
  refine bc (fun hlt => ?_) (fun hge => ?_)
  · have hi' : i < l := by simpa using hlt
    obtain ⟨a, u, rfl, hu, hr⟩ := h.ex hi'
    have out : inR u = false → spread xs = (0, 1) := fun ho => by
      have : xs.all inR = false := by
        rw [List.all_eq_false]
        exact ⟨u, List.mem_of_getElem? hu, by simp [ho]⟩
      simp [spread, h256, this]
    rw [wrapS (x := (i : Int) + 1) (by omega) (by omega)]
    refine onPtr_mk ⟨by omega, by omega, u, reads_one' hr, bc (fun hlt => ⟨?_, rfl⟩) (fun h0 => bc (fun hgt => ⟨?_, rfl⟩) (fun h1 => ⟨⟨i + 1, by omega, hi', rfl, fun j y hj hy => ?_⟩, meas hi'⟩))⟩
    · rw [out (by simp at hlt; simp [inR]; omega)]
    · rw [out (by simp at hgt; simp [inR]; omega)]
    · rcases Nat.lt_or_ge j i with hji | hji
      · exact hin j y hji hy
      · have : j = i := by omega
        subst this
        rw [hu] at hy
        cases hy
        simp at h0 h1
        simp [inR]; omega
  · have hil : l ≤ i := by simpa using hge
    have hall : xs.all inR = true := List.all_eq_true.2 fun y hy => by
      obtain ⟨j, hj⟩ := List.getElem?_of_mem hy
      exact hin j y (by have := get_lt hj; omega) hj
    have hsp : spread xs = (sprS xs xs.length, 0) := by simp [spread, h256, hall]
    have hmem : ∀ {j : Nat} {y : Int}, xs[j]? = some y → 0 ≤ y ∧ y ≤ 2147483647 := fun {j y} hy => by
      have := List.all_eq_true.1 hall y (List.mem_of_getElem? hy)
      simpa [inR] using this
    rw [hsp]
    refine ⟨fun s x w' => ∃ i : Nat, x = i ∧ i ≤ l ∧ s = sprS xs i ∧ 0 ≤ s ∧ s ≤ i * 549755813632 ∧ w = w', fun _ x _ => l - x.toNat, ⟨0, rfl, Nat.zero_le _, rfl, Int.le_refl _, by omega, rfl⟩, ?_⟩
    rintro _ _ _ ⟨i, rfl, hi, rfl, s0, s1, rfl⟩
    refine bc (fun hlt => ?_) (fun hge => ?_)
    · have hi' : i < l := by simpa using hlt
      obtain ⟨a, u, rfl, hu, hr⟩ := h.ex hi'
      have hu1 := hmem hu
      refine onPtr_mk ⟨by omega, by omega, u, reads_one' hr, by omega, by omega, fun s x w' => ∃ j : Nat, x = j ∧ j ≤ i ∧ s = sprS xs i + rowS u (xs.take j) ∧ 0 ≤ s ∧ s ≤ i * 549755813632 + j * 2147483647 ∧ w = w', fun _ x _ => i - x.toNat, ⟨0, rfl, Nat.zero_le _, by simp [rowS], s0, by omega, rfl⟩, ?_⟩
      rintro _ _ _ ⟨j, rfl, hj, rfl, t0, t1, rfl⟩
      refine bc (fun hlt => ?_) (fun hge => ?_)
      · have hj' : j < i := by simp at hlt; omega
        obtain ⟨a', v, ha', hv, hr'⟩ := h.ex (i := j) (by omega)
        cases ha'
        have hv1 := hmem hv
        have hf : 0 ≤ far u v ∧ far u v ≤ 2147483647 := by unfold far; split <;> omega
        have hs := rowS_succ (a := u) (l := xs) hv
        rw [wrapS (x := (j : Int) + 1) (by omega) (by omega)]
        refine onPtr_mk ⟨by omega, by simp; omega, v, reads_one' hr', ?_⟩
        rw [wrapS (x := v - u) (by omega) (by omega), wrapS (x := u - v) (by omega) (by omega)]
        have hif : (if v - u > u - v then v - u else u - v) = far u v := by unfold far; split <;> split <;> omega
        rw [hif, wrapS (x := sprS xs i + rowS u (xs.take j) + far u v) (by omega) (by omega)]
        exact ⟨⟨j + 1, by omega, hj', by rw [hs]; omega, by omega, by omega, rfl⟩, meas hj'⟩
      · have hji : j = i := by simp at hge; omega
        subst hji
        rw [wrapS (x := (j : Int) + 1) (by omega) (by omega)]
        exact ⟨⟨j + 1, by omega, hi', (sprS_succ hu).symm, t0, by omega, rfl⟩, meas hi'⟩
    · have : i = xs.length := by simp at hge; omega
      subst this
      exact ⟨rfl, rfl⟩
theorem spread15 {w : World} {q : Option Addr} {l c : Nat} {xs : List Int} (h : RE En.int w q l xs) (hlc : l ≤ c) (hl : l ≤ 9223372036854775807) :
    Calls Tryd.prog 15 #[.slice q l c] w (Ret fun v w' => v = .tuple #[.int .i64 (spread xs).1, .int .i64 (spread xs).2] ∧ w = w') := by
  refine f15.calls _ _ _ ?_
  unfold f15.wp
  have hlen := h.len
  refine bc (fun hgt => ⟨?_, rfl⟩) (fun hle => ?_)
  · have : xs.length > 256 := by simp at hgt; omega
    simp [spread, this]
  have hle : l ≤ 256 := by simp at hle; omega
  have h256 : ¬ xs.length > 256 := by omega
  refine ⟨fun x w' => ∃ i : Nat, x = i ∧ i ≤ l ∧ w = w' ∧ ∀ j y, j < i → xs[j]? = some y → inR y = true, fun x _ => l - x.toNat, ⟨0, rfl, Nat.zero_le _, rfl, fun j y hj => by omega⟩, ?_⟩
  rintro x _ ⟨i, rfl, hi, rfl, hin⟩
  refine bc (fun hlt => ?_) (fun hge => ?_)
  · have hi' : i < l := by simpa using hlt
    obtain ⟨a, u, rfl, hu, hr⟩ := h.ex hi'
    have out : inR u = false → spread xs = (0, 1) := fun ho => by
      have : xs.all inR = false := by
        rw [List.all_eq_false]
        exact ⟨u, List.mem_of_getElem? hu, by simp [ho]⟩
      simp [spread, h256, this]
    rw [wrapS (x := (i : Int) + 1) (by omega) (by omega)]
    refine onPtr_mk ⟨by omega, by omega, u, reads_one' hr, bc (fun hlt => ⟨?_, rfl⟩) (fun h0 => bc (fun hgt => ⟨?_, rfl⟩) (fun h1 => ⟨⟨i + 1, by omega, hi', rfl, fun j y hj hy => ?_⟩, meas hi'⟩))⟩
    · rw [out (by simp at hlt; simp [inR]; omega)]
    · rw [out (by simp at hgt; simp [inR]; omega)]
    · rcases Nat.lt_or_ge j i with hji | hji
      · exact hin j y hji hy
      · have : j = i := by omega
        subst this
        rw [hu] at hy
        cases hy
        simp at h0 h1
        simp [inR]; omega
  · have hil : l ≤ i := by simpa using hge
    have hall : xs.all inR = true := List.all_eq_true.2 fun y hy => by
      obtain ⟨j, hj⟩ := List.getElem?_of_mem hy
      exact hin j y (by have := get_lt hj; omega) hj
    have hsp : spread xs = (sprS xs xs.length, 0) := by simp [spread, h256, hall]
    have hmem : ∀ {j : Nat} {y : Int}, xs[j]? = some y → 0 ≤ y ∧ y ≤ 2147483647 := fun {j y} hy => by
      have := List.all_eq_true.1 hall y (List.mem_of_getElem? hy)
      simpa [inR] using this
    rw [hsp]
    refine ⟨fun s x w' => ∃ i : Nat, x = i ∧ i ≤ l ∧ s = sprS xs i ∧ 0 ≤ s ∧ s ≤ i * 549755813632 ∧ w = w', fun _ x _ => l - x.toNat, ⟨0, rfl, Nat.zero_le _, rfl, Int.le_refl _, by omega, rfl⟩, ?_⟩
    rintro _ _ _ ⟨i, rfl, hi, rfl, s0, s1, rfl⟩
    refine bc (fun hlt => ?_) (fun hge => ?_)
    · have hi' : i < l := by simpa using hlt
      obtain ⟨a, u, rfl, hu, hr⟩ := h.ex hi'
      have hu1 := hmem hu
      refine onPtr_mk ⟨by omega, by omega, u, reads_one' hr, by omega, by omega, fun s x w' => ∃ j : Nat, x = j ∧ j ≤ i ∧ s = sprS xs i + rowS u (xs.take j) ∧ 0 ≤ s ∧ s ≤ i * 549755813632 + j * 2147483647 ∧ w = w', fun _ x _ => i - x.toNat, ⟨0, rfl, Nat.zero_le _, by simp [rowS], s0, by omega, rfl⟩, ?_⟩
      rintro _ _ _ ⟨j, rfl, hj, rfl, t0, t1, rfl⟩
      refine bc (fun hlt => ?_) (fun hge => ?_)
      · have hj' : j < i := by simp at hlt; omega
        obtain ⟨a', v, ha', hv, hr'⟩ := h.ex (i := j) (by omega)
        cases ha'
        have hv1 := hmem hv
        have hf : 0 ≤ far u v ∧ far u v ≤ 2147483647 := by unfold far; split <;> omega
        have hs := rowS_succ (a := u) (l := xs) hv
        rw [wrapS (x := (j : Int) + 1) (by omega) (by omega)]
        refine onPtr_mk ⟨by omega, by simp; omega, v, reads_one' hr', ?_⟩
        rw [wrapS (x := v - u) (by omega) (by omega), wrapS (x := u - v) (by omega) (by omega)]
        refine bc (fun hc => ?_) (fun hc => ?_)
        · have hif : u - v = far u v := by simp at hc; simp [far, hc]
          rw [hif, wrapS (x := sprS xs i + rowS u (xs.take j) + far u v) (by omega) (by omega)]
          exact ⟨⟨j + 1, by omega, hj', by rw [hs]; omega, by omega, by omega, rfl⟩, meas hj'⟩
        · have hif : v - u = far u v := by simp at hc; unfold far; rw [if_neg (by omega)]
          rw [hif, wrapS (x := sprS xs i + rowS u (xs.take j) + far u v) (by omega) (by omega)]
          exact ⟨⟨j + 1, by omega, hj', by rw [hs]; omega, by omega, by omega, rfl⟩, meas hj'⟩
      · have hji : j = i := by simp at hge; omega
        subst hji
        rw [wrapS (x := (j : Int) + 1) (by omega) (by omega)]
        exact ⟨⟨j + 1, by omega, hi', (sprS_succ hu).symm, t0, by omega, rfl⟩, meas hi'⟩
    · have : i = xs.length := by simp at hge; omega
      subst this
      exact ⟨rfl, rfl⟩
end Go.Proofs.YtglidaifbpjpgaaDoor
