import Derived.Test.YtjfafkgjcgbgfaaDoorOps
import Derived.Test.YtjfafkgjcgbgfaaDoorSn
set_option maxRecDepth 20000
namespace Go.Proofs.YtjfafkgjcgbgfaaDoor
open Go Go.Vc Go.RowKit
/-! # histories, in plain words -/
structure Mv where
  kind : Int
  key : ByteArray
  val : ByteArray
  err : Int
  hit : Bool
  life : Int
  frm : Int
  to : Int
def En.mv : En Mv := ⟨8, fun m => [.int .i64 m.kind, .string m.key, .string m.val, .int .i64 m.err, .bool m.hit, .int .i64 m.life, .int .i64 m.frm, .int .i64 m.to], fun _ => rfl,
  fun _ v hv => by simp at hv; rcases hv with rfl | rfl | rfl | rfl | rfl | rfl | rfl | rfl <;> rfl, by decide⟩
abbrev e0 : ByteArray := ⟨#[]⟩
/-- a move may be, by itself -/
structure Alone (m : Mv) : Prop where
  b1 : m.err < 1000000000000000000
  b2 : m.life < 1000000000000000000
  b3 : m.frm < 1000000000000000000
  b4 : m.to < 1000000000000000000
  k1 : 1 ≤ m.kind
  k2 : m.kind ≤ 5
  l0 : 0 ≤ m.life
  f0 : 0 ≤ m.frm
  to : m.to = -1 ∨ m.frm ≤ m.to
  er : 0 ≤ m.err
  bk : 0 ≤ m.to ∨ (m.err = 0 ∧ m.hit = false)
  ht : m.hit = true → m.kind = 1 ∧ m.err = 0
  vl : m.val.toList = e0.toList ∨ m.kind = 2 ∨ m.hit = true
  ky : m.kind ≤ 3 ∨ m.key.toList = e0.toList
/-- it may stand behind those ahead of it -/
structure Right (ms : List Mv) (i : Nat) (m : Mv) : Prop where
  alone : Alone m
  prev : ∀ (j : Nat) (p : Mv), j + 1 = i → ms[j]? = some p → p.life ≤ m.life ∧ p.frm < m.frm
  elder : ∀ (j : Nat) (p : Mv), j < i → ms[j]? = some p → p.life < m.life → p.frm < m.frm ∧ p.to < m.frm
def Oks (ms : List Mv) (n : Nat) : Prop := ∀ (i : Nat) (m : Mv), i < n → ms[i]? = some m → Right ms i m
theorem Oks.life {ms : List Mv} {n : Nat} (h : Oks ms n) : ∀ (d j : Nat) (a b : Mv), j + d < n → ms[j]? = some a → ms[j + d]? = some b → a.life ≤ b.life
  | 0, j, a, b, _, ha, hb => by rw [Nat.add_zero, ha] at hb; cases hb; exact Int.le_refl _
  | d + 1, j, a, b, hn, ha, hb => by
    obtain ⟨c, hc⟩ := get_ex (l := ms) (i := j + d) (by have := get_lt hb; omega)
    have h1 := Oks.life h d j a c (by omega) ha hc
    have h2 := (h (j + (d + 1)) b hn hb).prev (j + d) c (by omega) hc
    omega
/-- the place of the first move that may not be -/
inductive Chk (ms : List Mv) : Int → Int → Prop where
  | long (h : 4096 < ms.length) : Chk ms 0 3
  | bad (i : Nat) (m : Mv) (h : ms.length ≤ 4096) (hi : ms[i]? = some m) (ho : Oks ms i) (hn : ¬ Right ms i m) : Chk ms i 240
  | ok (h : ms.length ≤ 4096) (ho : Oks ms ms.length) : Chk ms 0 0
theorem Chk.eq {ms : List Mv} {a b c d : Int} (h : Chk ms a b) (h' : Chk ms c d) : a = c ∧ b = d := by
  cases h with
  | long h =>
    cases h' with
    | long => exact ⟨rfl, rfl⟩
    | bad i m h1 => omega
    | ok h1 => omega
  | bad i m h hi ho hn =>
    cases h' with
    | long => omega
    | bad j m' h' hj ho' hn' =>
      have : i = j := by
        rcases Nat.lt_trichotomy i j with h1 | h1 | h1
        · exact absurd (ho' i m h1 hi) hn
        · exact h1
        · exact absurd (ho j m' h1 hj) hn'
      subst this
      exact ⟨rfl, rfl⟩
    | ok h1 ho' => exact absurd (ho' i m (get_lt hi) hi) hn
  | ok h ho =>
    cases h' with
    | long => omega
    | bad j m' h' hj ho' hn' => exact absurd (ho j m' (get_lt hj) hj) hn'
    | ok => exact ⟨rfl, rfl⟩
end Go.Proofs.YtjfafkgjcgbgfaaDoor
