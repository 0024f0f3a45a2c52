import Derived.Test.YtglidaifbpjpgaaDoorStE
import Derived.Laws.IdiomStrings
set_option maxRecDepth 20000
namespace Go.Proofs.YtglidaifbpjpgaaDoor
open Go Go.Vc Go.RowKit
abbrev bt (l : List UInt8) : ByteArray := ⟨l.toArray⟩
theorem bt_app (a b : List UInt8) : bt a ++ bt b = bt (a ++ b) := by
  apply ByteArray.ext
  simp
theorem bt_size (a : List UInt8) : (bt a).size = a.length := by simp [ByteArray.size]
theorem bt_cat {P : Program} {w : World} {t : TypeId} {X Y : Operand} {a b : List UInt8} (h : a.length + b.length ≤ 9223372036854775807) : (eqSem .add t X Y (.string (bt a)) (.string (bt b))).run P w = .ok (.string (bt (a ++ b))) w := by
  rw [run_cat (by rw [bt_size, bt_size]; exact h), bt_app]
theorem dd_len : ∀ n : Nat, (Lib.decDigits n).length ≤ n + 1 := fun n => by
  induction n using Nat.strongRecOn with
  | _ n ih =>
    rw [Lib.decDigits]
    split
    · simp
    · have := ih (n / 10) (by omega)
      simp; omega
theorem dd_pos (n : Nat) : 1 ≤ (Lib.decDigits n).length := by
  rw [Lib.decDigits]
  split <;> simp
def ItoaAt (w : World) (n : Nat) : Prop := Calls Tryd.prog 35 #[.int .i64 n] w (Ret fun v w' => v = .string (bt (Lib.decDigits n)) ∧ Chg none_ w w')
theorem itoa_small (w : World) (n : Nat) (h : n < 100) : ItoaAt w n :=
  Calls.mono (Tryd.strconv_Itoa_small n h w) fun _ _ ⟨h1, h2⟩ => ⟨_, h1, rfl, by rw [h2]; exact Chg.refl _ _⟩
/-- the digits behind the point -/
def digs : Nat → Nat → Nat → List UInt8
  | 0, _, _ => []
  | p + 1, r, b => Lib.decDigits (r * 10 / b) ++ digs p (r * 10 % b) b
def ratioL (a b p : Nat) : List UInt8 := Lib.decDigits (a / b) ++ (if 0 < p then [46] else []) ++ digs p (a % b) b
theorem dd_small {n : Nat} (h : n < 10) : Lib.decDigits n = [UInt8.ofNat (48 + n)] := by rw [Lib.decDigits, dif_pos h]
theorem dd_big {n : Nat} (h : ¬ n < 10) : Lib.decDigits n = Lib.decDigits (n / 10) ++ [UInt8.ofNat (48 + n % 10)] := by rw [Lib.decDigits, dif_neg h]
def badR (a b p : Int) : Bool := decide (a < 0) || decide (a > 9007199254740992) || decide (b < 1) || decide (b > 9007199254740992) || decide (p < 0) || decide (p > 9)
def rS (a b p : Int) : ByteArray := if badR a b p then bt [] else bt (ratioL a.toNat b.toNat p.toNat)
def rE (a b p : Int) : Int := if badR a b p then 1 else 0
theorem toNat_ex {x : Int} (h : 0 ≤ x) : ∃ n : Nat, x = n := ⟨x.toNat, by omega⟩
theorem tdivN (a b : Nat) : Int.tdiv (a : Int) (b : Int) = ((a / b : Nat) : Int) := (Int.ofNat_tdiv a b).symm
theorem tmodN (a b : Nat) : Int.tmod (a : Int) (b : Int) = ((a % b : Nat) : Int) := (Int.ofNat_tmod a b).symm
theorem ratio10 (w : World) (z0 z1 z2 : Int) (hI : badR z0 z1 z2 = false → ItoaAt w (z0.toNat / z1.toNat)) :
    Calls Tryd.prog 10 #[.int .i64 z0, .int .i64 z1, .int .i64 z2] w (Ret fun v w' => v = .tuple #[.string (rS z0 z1 z2), .int .i64 (rE z0 z1 z2)] ∧ Chg none_ w w') := by
  refine f10.calls _ _ _ ?_
  unfold f10.wp
  have bad : badR z0 z1 z2 = true → (.tuple #[.string (⟨#[]⟩ : ByteArray), .int .i64 1] : Value) = .tuple #[.string (rS z0 z1 z2), .int .i64 (rE z0 z1 z2)] := fun h => by simp [rS, rE, h]
  refine bc (fun h => ⟨bad (by simp only [badR, h, Bool.true_or]), Chg.refl _ _⟩) fun h1 => bc (fun h => ⟨bad (by simp only [badR, h, Bool.true_or, Bool.or_true]), Chg.refl _ _⟩) fun h2 =>
    bc (fun h => ⟨bad (by simp only [badR, h, Bool.true_or, Bool.or_true]), Chg.refl _ _⟩) fun h3 => bc (fun h => ⟨bad (by simp only [badR, h, Bool.true_or, Bool.or_true]), Chg.refl _ _⟩) fun h4 =>
    bc (fun h => ⟨bad (by simp only [badR, h, Bool.true_or, Bool.or_true]), Chg.refl _ _⟩) fun h5 => bc (fun h => ⟨bad (by simp only [badR, h, Bool.or_true]), Chg.refl _ _⟩) fun h6 => ?_
  have hb : badR z0 z1 z2 = false := by simp only [badR, h1, h2, h3, h4, h5, h6, Bool.or_false]
  have hI2 := hI hb
  clear hI
  simp only [decide_eq_false_iff_not, Int.not_lt, gt_iff_lt] at h1 h2 h3 h4 h5 h6
  obtain ⟨a, rfl⟩ := toNat_ex h1
  obtain ⟨b, rfl⟩ := toNat_ex (x := z1) (by omega)
  obtain ⟨p, rfl⟩ := toNat_ex h5
  have e1 : rS a b p = bt (ratioL a b p) := by simp [rS, hb]
  have e2 : rE a b p = 0 := by simp [rE, hb]
  rw [e1, e2]
  simp only [Int.toNat_natCast] at hI2
  have hdiv : a / b ≤ a := Nat.div_le_self _ _
  have hdl := dd_len (a / b)
  rw [tdivN, tmodN, wrapS (x := ((a / b : Nat) : Int)) (by omega) (by omega)]
  refine ⟨by omega, Calls.use hI2 ?_⟩
  rintro _ w1 ⟨rfl, k1⟩
  refine ⟨_, rfl, fun s w' => s = bt (Lib.decDigits (a / b) ++ if 0 < p then [46] else []) ∧ Chg none_ w w', ?_, ?_⟩
  · rintro _ w2 ⟨rfl, k2⟩
    refine ⟨by omega, fun x s r w' => ∃ (pl : Nat) (acc : List UInt8) (rest : Nat), x = pl ∧ s = bt acc ∧ r = rest ∧ rest < b ∧ acc ++ digs pl rest b = ratioL a b p ∧ acc.length + pl ≤ 9007199254741100 ∧ Chg none_ w w', fun x _ _ _ => x.toNat,
      ⟨p, _, a % b, rfl, rfl, rfl, Nat.mod_lt _ (by omega), rfl, by simp only [List.length_append]; split <;> simp <;> omega, k2⟩, ?_⟩
    rintro _ _ _ w3 ⟨pl, acc, rest, rfl, rfl, rfl, hr, he, hl, k3⟩
    refine bc (fun hgt => ?_) (fun hle => ⟨?_, k3⟩)
    · have hp : 0 < pl := by simp at hgt; omega
      obtain ⟨pl', rfl⟩ : ∃ m, pl = m + 1 := ⟨pl - 1, by omega⟩
      have hd : rest * 10 / b < 10 := (Nat.div_lt_iff_lt_mul (by omega)).2 (by omega)
      rw [wrapS (x := (rest : Int) * 10) (by omega) (by omega), show (rest : Int) * 10 = ((rest * 10 : Nat) : Int) by omega, tdivN, tmodN, wrapS (x := ((rest * 10 / b : Nat) : Int)) (by have := Int.natCast_nonneg (rest * 10 / b); omega) (by omega), wrapS (x := ((pl' + 1 : Nat) : Int) - 1) (by omega) (by omega)]
      refine ⟨by omega, Calls.use (itoa_small w3 _ (by omega)) ?_⟩
      rintro _ w4 ⟨rfl, k4⟩
      have hdl1 : (Lib.decDigits (rest * 10 / b)).length = 1 := by rw [dd_small hd]; rfl
      refine ⟨_, rfl, _, w4, bt_cat (by omega), by omega, ⟨pl', _, _, by omega, rfl, rfl, Nat.mod_lt _ (by omega), ?_, by rw [List.length_append]; omega, k3.trans k4⟩, ?_⟩
      · rw [← he]; simp [digs]
      · show (((pl' + 1 : Nat) : Int) - 1).toNat < ((pl' + 1 : Nat) : Int).toNat
        omega
    · have hp : pl = 0 := by simp at hle; omega
      subst hp
      have : acc = ratioL a b p := by rw [← he]; simp [digs]
      rw [this]
  · refine bc (fun h => ?_) (fun h => ?_)
    · have hp : 0 < p := by simp at h; omega
      exact ⟨_, w1, bt_cat (b := [46]) (by simp; omega), by rw [if_pos hp], k1⟩
    · have hp : ¬ 0 < p := by simp at h; omega
      exact ⟨by rw [if_neg hp, List.append_nil], k1⟩
theorem number36 (w : World) (n : Nat) (hn : n ≤ 9223372036854775806) : Calls Tryd.prog 36 #[.int .i64 n] w (Ret fun v w' => v = .string (bt (Lib.decDigits n)) ∧ Chg none_ w w') := by
  refine f36.calls _ ?_
  unfold f36.wp
  refine ⟨fun x s w' => ∃ (m : Nat) (suf : List UInt8), x = m ∧ s = bt suf ∧ m ≤ n ∧ Lib.decDigits n = Lib.decDigits m ++ suf ∧ Chg none_ w w', fun x _ _ => x.toNat, ⟨n, [], rfl, rfl, Nat.le_refl _, by simp, Chg.refl _ _⟩, ?_⟩
  rintro _ _ w1 ⟨m, suf, rfl, rfl, hm, he, k1⟩
  have hlen : suf.length ≤ 9223372036854775806 := by
    have h1 := dd_len n
    have h0 := dd_pos m
    have h2 := congrArg List.length he
    rw [List.length_append] at h2
    omega
  have hb : ∀ d : Nat, d < 10 → IntKind.wrap .u8 (IntKind.wrap .i64 (48 + (d : Int))) = (((UInt8.ofNat (48 + d)).toNat : Nat) : Int) := fun d hd => by
    rw [wrapS (by omega) (by omega)]
    have : (UInt8.ofNat (48 + d)).toNat = 48 + d := by simp; omega
    rw [this]
    simp [IntKind.wrap, IntKind.bits, IntKind.signed]; omega
  have conv : ∀ (d : Nat) (w2 : World) (b : Nat), d < 10 → Blk w2 b 5 #[.int .u8 (((UInt8.ofNat (48 + d)).toNat : Nat) : Int)] → (convert 113 9 (.slice (some ⟨b, 0, none⟩) 1 1)).run Tryd.prog w2 = .ok (.string (bt [UInt8.ofNat (48 + d)])) w2 := fun d w2 b hd B =>
    run_convert_bytes_back w2 113 9 5 ⟨b, 0, none⟩ 1 [UInt8.ofNat (48 + d)] Tryd.underlying113 Tryd.underlying5 Tryd.underlying9 (fun j hj => by
      have : j = 0 := by simpa using hj
      subst this
      exact (B.cell0 0).trans rfl)
  refine bc (fun hgt => ⟨by decide, fun w2 e2 => ?_⟩) (fun hle w2 e2 => ?_)
  · have h9 : 9 < m := by simp at hgt; omega
    rw [show (10 : Int) = ((10 : Nat) : Int) from rfl, tmodN] at e2
    rw [show (10 : Int) = ((10 : Nat) : Int) from rfl, tdivN, hb _ (Nat.mod_lt _ (by decide))] at *
    have B2 := new_blk e2
    rw [wrapS (x := ((m / 10 : Nat) : Int)) (by omega) (by omega)]
    refine ⟨_, w2, conv _ w2 _ (Nat.mod_lt _ (by decide)) B2, _, w2, bt_cat (by simp; omega), by decide, ⟨m / 10, _, rfl, rfl, by omega, ?_, k1.new' e2⟩, ?_⟩
    · rw [he, dd_big (n := m) (by omega)]; simp
    · show ((m / 10 : Nat) : Int).toNat < ((m : Nat) : Int).toNat
      omega
  · have h9 : m < 10 := by simp at hle; omega
    rw [hb _ h9] at e2
    have B2 := new_blk e2
    refine ⟨_, w2, conv _ w2 _ h9 B2, _, w2, bt_cat (by simp; omega), ?_, k1.new' e2⟩
    rw [he, dd_small h9]
end Go.Proofs.YtglidaifbpjpgaaDoor
