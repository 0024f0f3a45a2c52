import Derived.Test.YtglidaifbpjpgaaDoorW
import Derived.Test.YtglidaifbpjpgaaDoorStQ
set_option maxRecDepth 20000
namespace Go.Proofs.YtglidaifbpjpgaaDoor
namespace Mo
open Go Go.Vc Go.RowKit
/-- a move may be, by itself -/
structure Alone (m : Mv) : Prop where
  b1 : m.err < 1000000000000000000
  b2 : m.life < 1000000000000000000
  b3 : m.frm < 1000000000000000000
  b4 : m.to < 1000000000000000000
  k1 : 1 ≤ m.kind
  k2 : m.kind ≤ 5
  l0 : 0 ≤ m.life
  f0 : 0 ≤ m.frm
  to : m.to = -1 ∨ m.frm ≤ m.to
  er : 0 ≤ m.err
  bk : 0 ≤ m.to ∨ (m.err = 0 ∧ m.hit = false)
  ht : m.hit = true → m.kind = 1 ∧ m.err = 0
  vl : m.val.toList = e0.toList ∨ m.kind = 2 ∨ m.hit = true
  ky : m.kind ≤ 3 ∨ m.key.toList = e0.toList
/-- it may stand behind those ahead of it -/
structure Right (ms : List Mv) (i : Nat) (m : Mv) : Prop where
  alone : Alone m
  prev : ∀ (j : Nat) (p : Mv), j + 1 = i → ms[j]? = some p → p.life ≤ m.life ∧ p.frm < m.frm
  elder : ∀ (j : Nat) (p : Mv), j < i → ms[j]? = some p → p.life < m.life → p.frm < m.frm ∧ p.to < m.frm
def Oks (ms : List Mv) (n : Nat) : Prop := ∀ (i : Nat) (m : Mv), i < n → ms[i]? = some m → Right ms i m
theorem Oks.life {ms : List Mv} {n : Nat} (h : Oks ms n) : ∀ (d j : Nat) (a b : Mv), j + d < n → ms[j]? = some a → ms[j + d]? = some b → a.life ≤ b.life
  | 0, j, a, b, _, ha, hb => by rw [Nat.add_zero, ha] at hb; cases hb; exact Int.le_refl _
  | d + 1, j, a, b, hn, ha, hb => by
    obtain ⟨c, hc⟩ := get_ex (l := ms) (i := j + d) (by have := get_lt hb; omega)
    have h1 := Oks.life h d j a c (by omega) ha hc
    have h2 := (h (j + (d + 1)) b hn hb).prev (j + d) c (by omega) hc
    omega
/-- the place of the first move that may not be -/
inductive Chk (ms : List Mv) : Int → Int → Prop where
  | long (h : 4096 < ms.length) : Chk ms 0 3
  | bad (i : Nat) (m : Mv) (h : ms.length ≤ 4096) (hi : ms[i]? = some m) (ho : Oks ms i) (hn : ¬ Right ms i m) : Chk ms i 240
  | ok (h : ms.length ≤ 4096) (ho : Oks ms ms.length) : Chk ms 0 0
theorem Chk.eq {ms : List Mv} {a b c d : Int} (h : Chk ms a b) (h' : Chk ms c d) : a = c ∧ b = d := by
  cases h with
  | long h =>
    cases h' with
    | long => exact ⟨rfl, rfl⟩
    | bad i m h1 => omega
    | ok h1 => omega
  | bad i m h hi ho hn =>
    cases h' with
    | long => omega
    | bad j m' h' hj ho' hn' =>
      have : i = j := by
        rcases Nat.lt_trichotomy i j with h1 | h1 | h1
        · exact absurd (ho' i m h1 hi) hn
        · exact h1
        · exact absurd (ho j m' h1 hj) hn'
      subst this
      exact ⟨rfl, rfl⟩
    | ok h1 ho' => exact absurd (ho' i m (get_lt hi) hi) hn
  | ok h ho =>
    cases h' with
    | long => omega
    | bad j m' h' hj ho' hn' => exact absurd (ho j m' (get_lt hj) hj) hn'
    | ok => exact ⟨rfl, rfl⟩
abbrev mvV (m : Mv) : Value := .agg #[.int .i64 m.kind, .string m.key, .string m.val, .int .i64 m.err, .bool m.hit, .int .i64 m.life, .int .i64 m.frm, .int .i64 m.to]
abbrev mvC (m : Mv) : Array Value := #[.int .i64 m.kind, .string m.key, .string m.val, .int .i64 m.err, .bool m.hit, .int .i64 m.life, .int .i64 m.frm, .int .i64 m.to]
theorem ofKey38 (z : Int) {w : World} : Calls Tryd.prog 66 #[.int .i64 z] w (Ret fun v w' => ∃ b : Bool, v = .bool b ∧ (b = true ↔ z = 1 ∨ z = 2 ∨ z = 3) ∧ w' = w) := by
  refine f66.calls _ ?_
  unfold f66.wp
  refine bc (fun h1 => ⟨_, rfl, ?_, rfl⟩) fun h1 => bc (fun h2 => ⟨_, rfl, ?_, rfl⟩) fun h2 => ⟨_, rfl, ?_, rfl⟩
  · simp at h1; simp [h1]
  · simp at h2; simp [h2]
  · simp at h1 h2; simp; omega
theorem neS {a b : ByteArray} : (!(a.toList == b.toList)) = true ↔ ¬ a.toList = b.toList := by simp
theorem alone27 (m : Mv) {w : World} : Calls Tryd.prog 67 #[mvV m] w (Ret fun v w' => ∃ b : Bool, v = .bool b ∧ (b = true ↔ Alone m) ∧ Chg none_ w w') := by
  refine f67.calls _ _ _ _ _ _ _ _ ?_
  unfold f67.wp
  refine newBox fun w1 B k1 _ => ?_
  have fin : ∀ b : Bool, (b = true ↔ Alone m) → (fun (v : Value) (w' : World) => ∃ b : Bool, v = .bool b ∧ (b = true ↔ Alone m) ∧ Chg none_ w w') (.bool b) w1 := fun b hb => ⟨b, rfl, hb, k1⟩
  have bad : ¬ Alone m → (fun (v : Value) (w' : World) => ∃ b : Bool, v = .bool b ∧ (b = true ↔ Alone m) ∧ Chg none_ w w') (.bool false) w1 := fun hb => fin _ (by simp [hb])
  refine ⟨_, (B.cell0 7).trans rfl, _, (B.cell0 3).trans rfl, _, (B.cell0 5).trans rfl, _, (B.cell0 6).trans rfl, _, (B.cell0 7).trans rfl, bc (fun h => ?_) fun h => ?_⟩
  · refine bad fun a => ?_
    have := a.b1; have := a.b2; have := a.b3; have := a.b4
    simp only [decide_eq_true_eq] at h
    split at h <;> split at h <;> (try split at h) <;> omega
  have hb : m.err < 1000000000000000000 ∧ m.life < 1000000000000000000 ∧ m.frm < 1000000000000000000 ∧ m.to < 1000000000000000000 := by
    simp only [decide_eq_false_iff_not] at h
    refine ⟨?_, ?_, ?_, ?_⟩ <;> (split at h <;> split at h <;> (try split at h) <;> omega)
  clear h
  refine ⟨fun x w' => w' = w1 ∧ (x = true ↔ m.kind < 1 ∨ m.kind > 5 ∨ m.life < 0 ∨ m.frm < 0 ∨ (m.to ≠ -1 ∧ m.to < m.frm) ∨ m.err < 0), ?_, fun x w' => w' = w1 ∧ (x = true ↔ m.kind < 1 ∨ m.kind > 5), ?_, _, (B.cell 0).trans rfl, bc (fun h => ⟨rfl, ?_⟩) fun h => ⟨_, (B.cell 0).trans rfl, rfl, ?_⟩⟩
  · rintro x w' ⟨rfl, hx⟩
    refine bc (fun h => ?_) fun h => ?_
    · refine bad fun a => ?_
      have := a.k1; have := a.k2; have := a.l0; have := a.f0; have := a.to; have := a.er
      rw [hx] at h; omega
    have hA : ¬ (m.kind < 1 ∨ m.kind > 5 ∨ m.life < 0 ∨ m.frm < 0 ∨ (m.to ≠ -1 ∧ m.to < m.frm) ∨ m.err < 0) := by rw [← hx, h]; simp
    clear hx h
    refine ⟨fun x w2 => w2 = w' ∧ (x = true ↔ (m.to < 0 ∧ (m.err ≠ 0 ∨ m.hit = true)) ∨ (m.hit = true ∧ (m.kind ≠ 1 ∨ m.err ≠ 0))), ?_, fun x w2 => w2 = w' ∧ (x = true ↔ (m.to < 0 ∧ (m.err ≠ 0 ∨ m.hit = true))), ?_, bc (fun h => ⟨_, (B.cell0 3).trans rfl, bc (fun h1 => ⟨rfl, ?_⟩) fun h1 => ⟨_, (B.cell0 4).trans rfl, rfl, ?_⟩⟩) fun h => ⟨rfl, ?_⟩⟩
    · rintro x w2 ⟨rfl, hx⟩
      refine bc (fun h => ?_) fun h => ?_
      · refine bad fun a => ?_
        have h1 := a.bk; have h2 := a.ht
        rw [hx] at h
        rcases h with ⟨h3, h4 | h4⟩ | ⟨h3, h4⟩
        · omega
        · rcases h1 with h1 | h1
          · omega
          · rw [h1.2] at h4; cases h4
        · have := h2 h3; omega
      have hB : ¬ ((m.to < 0 ∧ (m.err ≠ 0 ∨ m.hit = true)) ∨ (m.hit = true ∧ (m.kind ≠ 1 ∨ m.err ≠ 0))) := by rw [← hx, h]; simp
      clear hx h
      have mk : (m.val.toList = e0.toList ∨ m.kind = 2 ∨ m.hit = true) → (m.kind ≤ 3 ∨ m.key.toList = e0.toList) → Alone m := fun hv hk => by
        refine ⟨hb.1, hb.2.1, hb.2.2.1, hb.2.2.2, by omega, by omega, by omega, by omega, by omega, by omega, ?_, fun hh => ?_, hv, hk⟩
        · by_cases h : m.to < 0
          · refine .inr ⟨?_, ?_⟩
            · by_cases he : m.err = 0
              · exact he
              · exact absurd (.inl ⟨h, .inl he⟩) hB
            · cases hh : m.hit
              · rfl
              · exact absurd (.inl ⟨h, .inr hh⟩) hB
          · exact .inl (by omega)
        · constructor
          · by_cases he : m.kind = 1
            · exact he
            · exact absurd (.inr ⟨hh, .inl he⟩) hB
          · by_cases he : m.err = 0
            · exact he
            · exact absurd (.inr ⟨hh, .inr he⟩) hB
      refine ⟨fun x w3 => w3 = w2 ∧ (x = true ↔ ¬ m.val.toList = e0.toList ∧ m.kind ≠ 2 ∧ m.hit = false), ?_, _, (B.cell0 2).trans rfl, bc (fun h => ⟨_, (B.cell 0).trans rfl, bc (fun h1 => ⟨_, (B.cell0 4).trans rfl, rfl, ?_⟩) fun h1 => ⟨rfl, ?_⟩⟩) fun h => ⟨rfl, ?_⟩⟩
      · rintro x w3 ⟨rfl, hx⟩
        refine bc (fun h => bcT h ?_) fun h => ?_
        · refine bad fun a => ?_
          have h1 := a.vl
          rw [hx] at h
          rcases h1 with h1 | h1 | h1
          · exact h.1 h1
          · exact h.2.1 h1
          · rw [h.2.2] at h1; cases h1
        have hC : (m.val.toList = e0.toList ∨ m.kind = 2 ∨ m.hit = true) := by
          by_cases h1 : m.val.toList = e0.toList
          · exact .inl h1
          · by_cases h2 : m.kind = 2
            · exact .inr (.inl h2)
            · cases h3 : m.hit
              · rw [hx.2 ⟨h1, h2, h3⟩] at h; cases h
              · exact .inr (.inr rfl)
        refine ⟨_, (B.cell 0).trans rfl, Calls.use (ofKey38 m.kind) ?_⟩
        rintro _ _ ⟨b, rfl, hk, rfl⟩
        refine ⟨_, rfl, bc (fun h4 => ⟨_, (B.cell0 1).trans rfl, bc (fun h5 => bad fun a => ?_) fun h5 => fin _ (iff_of_true rfl (mk hC (.inr ?_)))⟩) fun h4 => fin _ (iff_of_true rfl (mk hC (.inl ?_)))⟩
        · have := a.ky
          simp at h4 h5
          rw [h4] at hk
          simp at hk
          rcases this with h6 | h6
          · omega
          · exact h5 (by simpa using h6)
        · simpa using h5
        · simp at h4; have := hk.1 h4; omega
      · simp at h h1; simp [h, h1]
      · simp at h h1; simp [h1]
      · simp at h; simp [h]
    · rintro x w2 ⟨rfl, hx⟩
      refine bc (fun h => ⟨rfl, ?_⟩) fun h => ⟨_, (B.cell0 4).trans rfl, bc (fun h1 => ⟨_, (B.cell 0).trans rfl, bc (fun h2 => ⟨rfl, ?_⟩) fun h2 => ⟨_, (B.cell0 3).trans rfl, rfl, ?_⟩⟩) fun h1 => ⟨rfl, ?_⟩⟩
      · rw [hx] at h; exact iff_of_true (hx.2 h) (.inl h)
      · simp at h2; exact iff_of_true rfl (.inr ⟨h1, .inl h2⟩)
      · have h3 : ¬ _ := fun g => by rw [hx.2 g] at h; cases h
        simp at h2
        simp [h2, h1]
        intro g g1
        exact absurd ⟨g, .inr h1⟩ h3
      · have h3 : ¬ _ := fun g => by rw [hx.2 g] at h; cases h
        constructor
        · intro g; cases g
        · rintro (g | g)
          · exact absurd g h3
          · rw [h1] at g; cases g.1
    · simp at h h1; simp [h, h1]
    · simp at h h1; simp [h, h1]
    · simp at h; simp; intro; omega
  · rintro x w' ⟨rfl, hx⟩
    refine bc (fun h => ⟨rfl, ?_⟩) fun h => ⟨_, (B.cell0 5).trans rfl, bc (fun h1 => ⟨rfl, ?_⟩) fun h1 => ⟨_, (B.cell0 6).trans rfl, bc (fun h2 => ⟨rfl, ?_⟩) fun h2 => ⟨_, (B.cell0 7).trans rfl, bc (fun h3 => ⟨_, (B.cell0 7).trans rfl, _, (B.cell0 6).trans rfl, bc (fun h4 => ⟨rfl, ?_⟩) fun h4 => ⟨_, (B.cell0 3).trans rfl, rfl, ?_⟩⟩) fun h3 => ⟨_, (B.cell0 3).trans rfl, rfl, ?_⟩⟩⟩⟩
    · exact iff_of_true h (by have := hx.1 h; omega)
    all_goals (have hN : ¬ (m.kind < 1 ∨ m.kind > 5) := fun g => by rw [hx.2 g] at h; cases h)
    all_goals clear hx
    all_goals simp at *
    all_goals omega
  · simp at h; simp; omega
  · simp at h; simp; omega
/-- x is the greatest step of those that P names (at least where it counts: from 0 on) -/
def Mx (ms : List Mv) (P : Nat → Mv → Prop) (x : Int) : Prop := ∀ f : Int, 0 ≤ f → (f ≤ x ↔ ∃ j p, P j p ∧ ms[j]? = some p ∧ (f ≤ p.frm ∨ f ≤ p.to))
theorem Mx.cong {ms : List Mv} {P Q : Nat → Mv → Prop} {x : Int} (h : Mx ms P x) (e : ∀ j p, ms[j]? = some p → (P j p ↔ Q j p)) : Mx ms Q x := fun f hf => (h f hf).trans ⟨fun ⟨j, p, a, b, c⟩ => ⟨j, p, (e j p b).1 a, b, c⟩, fun ⟨j, p, a, b, c⟩ => ⟨j, p, (e j p b).2 a, b, c⟩⟩
theorem Mx.none {ms : List Mv} {P : Nat → Mv → Prop} (e : ∀ j p, ¬ P j p) : Mx ms P (-1) := fun f hf => ⟨fun h => by omega, fun ⟨j, p, a, _⟩ => absurd a (e j p)⟩
theorem Mx.next {ms : List Mv} {n : Nat} {x : Int} {m : Mv} (h : Mx ms (fun j _ => j < n) x) (hm : ms[n]? = some m) : Mx ms (fun j _ => j < n + 1) (if m.to > (if m.frm > x then m.frm else x) then m.to else (if m.frm > x then m.frm else x)) := fun f hf => by
  have e : f ≤ (if m.to > (if m.frm > x then m.frm else x) then m.to else (if m.frm > x then m.frm else x)) ↔ f ≤ x ∨ f ≤ m.frm ∨ f ≤ m.to := by
    split <;> split at * <;> omega
  rw [e, h f hf]
  constructor
  · rintro (⟨j, p, a, b, c⟩ | c)
    · exact ⟨j, p, by omega, b, c⟩
    · exact ⟨n, m, by omega, hm, c⟩
  · rintro ⟨j, p, a, b, c⟩
    by_cases hj : j < n
    · exact .inl ⟨j, p, hj, b, c⟩
    · obtain rfl : j = n := by omega
      rw [hm] at b; cases b
      exact .inr c
/-- two moves side by side are one -/
theorem get_same {ms : List Mv} {i j : Nat} {a b : Mv} (h : ms[i]? = some a) (h' : ms[j]? = some b) (e : i = j) : a = b := by subst e; rw [h] at h'; cases h'; rfl
theorem wrapP {n : Nat} (h0 : 0 < n) (h : n ≤ 4096) : IntKind.wrap .i64 ((n : Int) - 1) = ((n - 1 : Nat) : Int) := by rw [wrapS (by omega) (by omega)]; omega
theorem wrapN {n : Nat} (h : n < 9223372036854775807) : IntKind.wrap .i64 ((n : Int) + 1) = ((n + 1 : Nat) : Int) := by rw [wrapS (by omega) (by omega)]; omega
theorem check12 {w : World} {q : Option Addr} {l c : Nat} {ms : List Mv} (H : RE En.mv w q l ms) :
    Calls Tryd.prog 56 #[.slice q l c] w (Ret fun v w' => ∃ a b, v = .tuple #[.int .i64 a, .int .i64 b] ∧ Chk ms a b ∧ Chg none_ w w') := by
  have hlen := H.len
  refine f56.calls _ _ _ ?_
  unfold f56.wp
  refine bc (fun h => ⟨_, _, rfl, .long (by simp at h; omega), Chg.refl _ _⟩) fun h => ?_
  have hl : l ≤ 4096 := by simp at h; omega
  clear h
  refine ⟨fun x1 x2 x3 w1 => ∃ n : Nat, x3 = (n : Int) ∧ n ≤ l ∧ Oks ms n ∧ Mx ms (fun j _ => j < n) x1 ∧ Mx ms (fun j p => j < n ∧ ∃ r, ms[n - 1]? = some r ∧ p.life < r.life) x2 ∧ Chg none_ w w1, fun _ _ x3 _ => l - x3.toNat, ⟨0, rfl, by omega, fun i m hi => by omega, Mx.none fun j p hj => by omega, Mx.none fun j p hj => by omega, Chg.refl _ _⟩, ?_⟩
  rintro x1 x2 _ w1 ⟨n, rfl, hn, ho, hx1, hx2, k1⟩
  refine bc (fun h => ?_) fun h => ?_
  · have hnl : n < l := by simp at h; omega
    clear h
    obtain ⟨a, m, rfl, hm, hr⟩ := H.ex hnl
    have hw0 := wrapN (n := n) (by omega)
    refine onPtr_mk ⟨by omega, by omega, m.kind, m.key, m.val, m.err, m.hit, m.life, m.frm, m.to, k1.readsN hr, boxed rfl rfl fun w3 B k3 hs3 => ?_⟩
    have k13 : Chg none_ w w3 := k1.trans k3
    have rd : ∀ {w' : World}, Chg none_ w w' → ∀ {j : Nat} {p : Mv}, ms[j]? = some p → ∃ b, some a = some b ∧ reads w' (b.add (j * 8)) (En.mv.enc p) := fun k j p hp => by
      obtain ⟨b, hb, hr'⟩ := H.get j p hp
      exact ⟨b, hb, k.readsN hr'⟩
    refine ⟨fun x w4 => w4 = w3.drew ∧ ((n ≠ 0 ∧ ∃ r, ms[n - 1]? = some r ∧ m.life < r.life) ∨ Mx ms (fun j p => j < n ∧ p.life < m.life) x), ?_, ?_⟩
    · rintro x w4 ⟨rfl, hx⟩
      refine ⟨fun w5 => Right ms n m ∧ Chg none_ w w5 ∧ Mx ms (fun j p => j < n ∧ p.life < m.life) x ∧ Blk w5 w1.heap.size 96 (mvC m), ?_, fun p => p.block < w3.drew.drew.heap.size, m.kind, m.key, m.val, m.err, m.hit, m.life, m.frm, m.to, B.drew.drew.keepsAll rfl 0 8, B.drew.drew.reads0, Calls.use (alone27 m) ?_⟩
      · rintro w5 ⟨hR, k5, hx', B5⟩
        refine ⟨_, (B5.cell0 6).trans rfl, _, (B5.cell0 7).trans rfl, ⟨n + 1, wrapN (by omega), by omega, fun i p hi hp => ?_, hx1.next hm, hx'.cong fun j p hp => ⟨fun hj => ⟨by omega, m, by simpa using hm, hj.2⟩, fun ⟨hj, r, hr', hl'⟩ => ?_⟩, k5⟩, ?_⟩
        · by_cases hi' : i < n
          · exact ho i p hi' hp
          · obtain rfl : i = n := by omega
            rw [hm] at hp; cases hp; exact hR
        · have e : r = m := get_same hr' hm (by omega)
          subst e
          by_cases e : j = n
          · rw [e, hm] at hp; cases hp; omega
          · exact ⟨by omega, hl'⟩
        · rw [hw0]; simp only [Int.toNat_natCast]; omega
      · rintro _ w6 ⟨b, rfl, hb, k6⟩
        have k06 : Chg none_ w w6 := k13.drew.drew.trans k6
        have bad : ¬ Right ms n m → (∃ a b, Value.tuple #[.int .i64 (n : Int), .int .i64 240] = .tuple #[.int .i64 a, .int .i64 b] ∧ Chk ms a b ∧ Chg none_ w w6) := fun hn' => ⟨_, _, rfl, .bad n m (by omega) hm ho hn', k06⟩
        refine ⟨b, rfl, Chg.keeps k6, bc (fun h => bad fun r => ?_) fun h => ?_⟩
        · rw [hb.2 r.alone] at h; cases h
        have hA : Alone m := hb.1 (by simpa using h)
        have fin : (∀ (j : Nat) (p : Mv), j + 1 = n → ms[j]? = some p → p.life ≤ m.life ∧ p.frm < m.frm) → ∀ u : Bool, u = decide (m.frm ≤ x) → bcase u (∃ a b, Value.tuple #[.int .i64 (n : Int), .int .i64 240] = .tuple #[.int .i64 a, .int .i64 b] ∧ Chk ms a b ∧ Chg none_ w w6) (Right ms n m ∧ Chg none_ w w6 ∧ Mx ms (fun j p => j < n ∧ p.life < m.life) x ∧ Blk w6 w1.heap.size 96 (mvC m)) := fun hp u hu => by
          have hx' : Mx ms (fun j p => j < n ∧ p.life < m.life) x := by
            rcases hx with ⟨h0, r, hr', hl'⟩ | hx
            · have := (hp (n - 1) r (by omega) hr').1; omega
            · exact hx
          subst hu
          have hq := hx' m.frm hA.f0
          refine bc (fun hf => bad fun r => ?_) fun hf => ⟨⟨hA, hp, fun j p hj hp' hl' => ?_⟩, k06, hx', (k6.blk B.drew.drew (fun x => x))⟩
          · obtain ⟨j, p, ⟨h1, h2⟩, h3, h4⟩ := hq.1 (by simpa using hf)
            have := r.elder j p h1 h3 h2
            omega
          · have h1 : ¬ _ := fun g => (by simpa using hf : ¬ m.frm ≤ x) (hq.2 g)
            constructor
            · by_cases h2 : p.frm < m.frm
              · exact h2
              · exact absurd ⟨j, p, ⟨hj, hl'⟩, hp', .inl (by omega)⟩ h1
            · by_cases h2 : p.to < m.frm
              · exact h2
              · exact absurd ⟨j, p, ⟨hj, hl'⟩, hp', .inr (by omega)⟩ h1
        refine bc (fun h0 => ?_) fun h0 => ?_
        · have hn0 : 0 < n := by simp at h0; omega
          have hw1 := wrapP hn0 (by omega)
          obtain ⟨r, hr'⟩ := get_ex (l := ms) (i := n - 1) (by omega)
          obtain ⟨b', hb', hrr⟩ := rd k13.drew.drew hr'
          cases hb'
          rw [hw1]
          refine ⟨m.life, B.drew.drew.keepsAll rfl 0 8 5 (by omega), (B.drew.drew.cell0 5).trans rfl, onPtr_mk ⟨by omega, by omega, r.life, ?_, hrr 5 _ rfl, bc (fun h1 => bad fun R => ?_) fun h1 => ⟨m.frm, B.drew.drew.keepsAll rfl 0 8 6 (by omega), (B.drew.drew.cell0 6).trans rfl, onPtr_mk ⟨by omega, by omega, r.frm, ?_, hrr 6 _ rfl, bc (fun h2 => bad fun R => ?_) fun h2 => ⟨m.frm, B.drew.drew.keepsAll rfl 0 8 6 (by omega), (B.drew.drew.cell0 6).trans rfl, fin (fun j p hj hp => ?_) _ rfl⟩⟩⟩⟩⟩
          · have := cell_some (hrr 5 _ rfl); exact this
          · have := (R.prev (n - 1) r (by omega) hr').1; simp at h1; omega
          · have := cell_some (hrr 6 _ rfl); exact this
          · have := (R.prev (n - 1) r (by omega) hr').2; simp at h2; omega
          · have e := get_same hp hr' (by omega)
            subst e
            simp at h1 h2; omega
        · have hn0 : n = 0 := by simp at h0; omega
          exact ⟨m.frm, B.drew.drew.keepsAll rfl 0 8 6 (by omega), (B.drew.drew.cell0 6).trans rfl, fin (fun j p hj hp => by omega) _ rfl⟩
    · refine bc (fun h0 => ?_) fun h0 => ?_
      · have hn0 : 0 < n := by simp at h0; omega
        have hw1 := wrapP hn0 (by omega)
        obtain ⟨r, hr'⟩ := get_ex (l := ms) (i := n - 1) (by omega)
        obtain ⟨b', hb', hrr⟩ := rd k13.drew hr'
        cases hb'
        rw [hw1]
        refine ⟨m.life, (B.drew.cell0 5).trans rfl, onPtr_mk ⟨by omega, by omega, r.life, hrr 5 _ rfl, bc (fun h1 => ⟨rfl, .inr (hx1.cong fun j p hp => ⟨fun hj => ⟨hj, ?_⟩, fun hj => hj.1⟩)⟩) fun h1 => ⟨rfl, ?_⟩⟩⟩
        · have h2 := ho.life (n - 1 - j) j p r (by omega) hp (by rw [show j + (n - 1 - j) = n - 1 by omega]; exact hr')
          simp at h1; omega
        · by_cases h2 : m.life < r.life
          · exact .inl ⟨by omega, r, hr', h2⟩
          · refine .inr (hx2.cong fun j p hp => ⟨fun ⟨hj, r', h3, h4⟩ => ⟨hj, ?_⟩, fun ⟨hj, h3⟩ => ⟨hj, r, hr', ?_⟩⟩)
            · rw [hr'] at h3; cases h3; omega
            · simp at h1; omega
      · have hn0 : n = 0 := by simp at h0; omega
        exact ⟨rfl, .inr (hx2.cong fun j p hp => ⟨fun hj => by omega, fun hj => by omega⟩)⟩
  · have : n = l := by simp at h; omega
    subst this
    exact ⟨_, _, rfl, .ok (by omega) (by rw [hlen]; exact ho), k1⟩
theorem right28 {w : World} {q : Option Addr} {l c n : Nat} {ms : List Mv} (H : RE En.mv w q l ms) (m : Mv) (hn : n < l) (hl : l ≤ 4096) :
    Calls Tryd.prog 68 #[mvV m, .int .i64 n, .slice q l c] w (Ret fun v w' => ∃ b : Bool, v = .bool b ∧ (b = true ↔ Right ms n m) ∧ Chg none_ w w') := by
  have hlen := H.len
  refine f68.calls _ _ _ _ _ _ _ _ _ _ _ _ ?_
  unfold f68.wp
  refine newBox fun w1 B k1 _ => ?_
  have bad : ∀ w2, Chg none_ w w2 → ¬ Right ms n m → (fun (v : Value) (w' : World) => ∃ b : Bool, v = .bool b ∧ (b = true ↔ Right ms n m) ∧ Chg none_ w w') (.bool false) w2 := fun w2 k2 hb => ⟨_, rfl, by simp [hb], k2⟩
  have bd := bad w1 k1
  have hw : IntKind.wrap .i64 ((n : Int) - 1) = (n : Int) - 1 := by rw [wrapS (by omega) (by omega)]
  have K : ∀ j, w1.cell? ((⟨w.heap.size, 0, none⟩ : Addr).add j) = (mvC m)[j]? := fun j => B.cell0 j
  have rd : ∀ {w' : World}, Chg none_ w w' → ∀ {j : Nat} {p : Mv}, ms[j]? = some p → ∃ b, q = some b ∧ reads w' (b.add (j * 8)) (En.mv.enc p) := fun k j p hp => by
    obtain ⟨b, hb, hr'⟩ := H.get j p hp
    exact ⟨b, hb, k.readsN hr'⟩
  refine ⟨fun w2 => w1 = w2 ∧ 1 ≤ m.kind ∧ m.kind ≤ 5 ∧ 0 ≤ m.life ∧ 0 ≤ m.frm ∧ (m.to = -1 ∨ m.frm ≤ m.to), ?_, ?_⟩
  · rintro _ ⟨rfl, h1, h2, h3, h4, h5⟩
    refine ⟨_, (K 3).trans rfl, bc (fun h => bd fun r => ?_) fun h6 => ⟨_, (K 3).trans rfl, bc (fun h => bd fun r => ?_) fun h7 => ⟨_, (K 6).trans rfl, bc (fun h => bd fun r => ?_) fun h8 => ⟨_, (K 7).trans rfl, bc (fun h => bd fun r => ?_) fun h9 => ⟨_, (K 5).trans rfl, bc (fun h => bd fun r => ?_) fun h10 => ?_⟩⟩⟩⟩⟩
    · have := r.alone.er; simp at h; omega
    · have := r.alone.b1; simp at h; omega
    · have := r.alone.b3; simp at h; omega
    · have := r.alone.b4; simp at h; omega
    · have := r.alone.b2; simp at h; omega
    simp at h6 h7 h8 h9 h10
    refine ⟨fun w3 => w1 = w3 ∧ (m.to < 0 → m.err = 0 ∧ m.hit = false) ∧ (m.hit = true → m.kind = 1 ∧ m.err = 0), ?_, _, (K 7).trans rfl, bc (fun h11 => ⟨_, (K 3).trans rfl, bc (fun h => bd fun r => ?_) fun h12 => ⟨_, (K 4).trans rfl, bc (fun h => bd fun r => ?_) fun h13 => ⟨_, (K 4).trans rfl, bc (fun h => ?_) fun h => ⟨rfl, ?_⟩⟩⟩⟩) fun h11 => ⟨_, (K 4).trans rfl, bc (fun h12 => ⟨_, (B.cell 0).trans rfl, bc (fun h => bd fun r => ?_) fun h13 => ⟨_, (K 3).trans rfl, bc (fun h => bd fun r => ?_) fun h14 => ⟨rfl, ?_⟩⟩⟩) fun h12 => ⟨rfl, ?_⟩⟩⟩
    · rintro _ ⟨rfl, h11, h12⟩
      have mk : (m.val.toList = e0.toList ∨ m.kind = 2 ∨ m.hit = true) → (m.kind ≤ 3 ∨ m.key.toList = e0.toList) → Alone m := fun hv hk => by
        refine ⟨by omega, by omega, by omega, by omega, by omega, by omega, by omega, by omega, by omega, by omega, ?_, h12, hv, hk⟩
        by_cases h : m.to < 0
        · exact .inr (h11 h)
        · exact .inl (by omega)
      have e1 : e0.toList = [] := by simp
      refine ⟨fun w4 => w1 = w4 ∧ Alone m, ?_, ?_⟩
      · rintro _ ⟨rfl, hA⟩
        refine ⟨fun w5 => w1.drew = w5 ∧ ∀ (j : Nat) (p : Mv), j + 1 = n → ms[j]? = some p → p.life ≤ m.life ∧ p.frm < m.frm, ?_, bc (fun h0 => ?_) fun h0 => ⟨rfl, fun j p hj => ?_⟩⟩
        · rintro _ ⟨rfl, hp⟩
          refine ⟨fun x w6 => Chg none_ w w6 ∧ Blk w6 w.heap.size 96 (mvC m) ∧ -1 ≤ x ∧ x < n ∧ ∀ (j : Nat) (p : Mv), x < j → j < n → ms[j]? = some p → p.life < m.life → p.frm < m.frm ∧ p.to < m.frm, fun x _ => (x + 1).toNat, ⟨k1.drew, B.drew, by rw [hw]; omega, by rw [hw]; omega, fun j p hj hj' => by rw [hw] at hj; omega⟩, ?_⟩
          rintro x w6 ⟨k6, B6, hx0, hx1, hx⟩
          refine bc (fun hx2 => ?_) fun hx2 => ⟨_, rfl, iff_of_true rfl ⟨hA, hp, fun j p hj hp' hl' => hx j p (by simp at hx2; omega) hj hp' hl'⟩, k6⟩
          simp at hx2
          obtain ⟨i, rfl⟩ : ∃ i : Nat, x = (i : Int) := ⟨x.toNat, by omega⟩
          obtain ⟨p, hp'⟩ := get_ex (l := ms) (i := i) (by omega)
          obtain ⟨a, rfl, hr⟩ := rd k6.drew hp'
          have hwi : IntKind.wrap .i64 ((i : Int) - 1) = (i : Int) - 1 := by rw [wrapS (by omega) (by omega)]
          rw [hwi]
          have go : (p.life < m.life → p.frm < m.frm ∧ p.to < m.frm) → (Chg none_ w w6.drew ∧ Blk w6.drew w.heap.size 96 (mvC m) ∧ -1 ≤ (i : Int) - 1 ∧ (i : Int) - 1 < n ∧ ∀ (j : Nat) (p : Mv), (i : Int) - 1 < j → j < n → ms[j]? = some p → p.life < m.life → p.frm < m.frm ∧ p.to < m.frm) ∧ ((i : Int) - 1 + 1).toNat < ((i : Int) + 1).toNat := fun hh => ⟨⟨k6.drew, B6.drew, by omega, by omega, fun j r hj hj' hr' => by
            by_cases e : i = j
            · subst e; rw [hp'] at hr'; cases hr'; exact hh
            · exact hx j r (by omega) hj' hr'⟩, by omega⟩
          refine onPtr_mk ⟨by omega, by omega, _, hr 5 _ rfl, _, (B6.drew.cell0 5).trans rfl, bc (fun g1 => onPtr_mk ⟨by omega, by omega, _, hr 6 _ rfl, _, (B6.drew.cell0 6).trans rfl, bc (fun g2 => bad _ k6.drew fun r => ?_) fun g2 => onPtr_mk ⟨by omega, by omega, _, hr 7 _ rfl, _, (B6.drew.cell0 6).trans rfl, bc (fun g3 => bad _ k6.drew fun r => ?_) fun g3 => go ?_⟩⟩) fun g1 => go ?_⟩
          · have := (r.elder i p (by omega) hp' (by simpa using g1)).1; simp at g2; omega
          · have := (r.elder i p (by omega) hp' (by simpa using g1)).2; simp at g3; omega
          · simp at g2 g3; omega
          · simp at g1; omega
        · have hn0 : 0 < n := by simp at h0; omega
          obtain ⟨p, hp'⟩ := get_ex (l := ms) (i := n - 1) (by omega)
          obtain ⟨a, rfl, hr⟩ := rd k1.drew hp'
          have hw1 := wrapP hn0 (by omega)
          rw [hw1]
          refine ⟨_, (B.drew.cell0 5).trans rfl, onPtr_mk ⟨by omega, by omega, _, hr 5 _ rfl, bc (fun g1 => bad _ k1.drew fun r => ?_) fun g1 => ⟨_, (B.drew.cell0 6).trans rfl, onPtr_mk ⟨by omega, by omega, _, hr 6 _ rfl, bc (fun g2 => bad _ k1.drew fun r => ?_) fun g2 => ⟨rfl, fun j r hj hr' => ?_⟩⟩⟩⟩⟩
          · have := (r.prev (n - 1) p (by omega) hp').1; simp at g1; omega
          · have := (r.prev (n - 1) p (by omega) hp').2; simp at g2; omega
          · have e := get_same hr' hp' (by omega)
            subst e
            simp at g1 g2; omega
        · simp at h0; omega
      · have fin : ∀ {X : Prop}, (m.val.toList = e0.toList ∨ m.kind = 2 ∨ m.hit = true) → ((X → w1 = w1 ∧ Alone m) → X) → True := fun _ _ => trivial
        have key : (m.val.toList = e0.toList ∨ m.kind = 2 ∨ m.hit = true) → ∃ s2 : ByteArray, w1.cell? ((⟨w.heap.size, 0, none⟩ : Addr).add 1) = some (.string s2) ∧ bcase (!(s2.toList == e0.toList)) (∃ n21 : Int, w1.cell? ⟨w.heap.size, 0, none⟩ = some (.int .i64 n21) ∧ bcase (decide (n21 ≥ 4)) (∃ b : Bool, Value.bool false = .bool b ∧ (b = true ↔ Right ms n m) ∧ Chg none_ w w1) (w1 = w1 ∧ Alone m)) (w1 = w1 ∧ Alone m) := fun hv => by
          refine ⟨_, (K 1).trans rfl, bc (fun g1 => ⟨_, (B.cell 0).trans rfl, bc (fun g2 => bd fun r => ?_) fun g2 => ⟨rfl, mk hv (.inl ?_)⟩⟩) fun g1 => ⟨rfl, mk hv (.inr ?_)⟩⟩
          · have := r.alone.ky
            simp at g1 g2 this
            rcases this with h | h
            · omega
            · exact g1 h
          · simp at g2; omega
          · simpa using g1
        refine ⟨_, (K 2).trans rfl, bc (fun g1 => ⟨_, (B.cell 0).trans rfl, bc (fun g2 => ⟨_, (K 4).trans rfl, bc (fun g3 => bd fun r => ?_) fun g3 => key (.inr (.inr ?_))⟩) fun g2 => key (.inr (.inl ?_))⟩) fun g1 => key (.inl ?_)⟩
        · have := r.alone.vl
          simp at g1 g2 g3 this
          rcases this with h | h | h
          · exact g1 h
          · exact g2 h
          · rw [g3] at h; cases h
        · simpa using g3
        · simpa using g2
        · simpa using g1
    · have := r.alone.bk; simp at h h11; omega
    · have := r.alone.bk; simp at h11; rcases this with h' | h'
      · omega
      · rw [h'.2] at h; cases h
    · rw [h13] at h; cases h
    · simp at h12; exact ⟨fun _ => ⟨h12, h13⟩, fun g => by rw [h13] at g; cases g⟩
    · have := r.alone.ht h12; simp at h; omega
    · have := r.alone.ht h12; simp at h; omega
    · simp at h11 h13 h14; exact ⟨fun g => by omega, fun _ => ⟨h13, h14⟩⟩
    · simp at h11; exact ⟨fun g => by omega, fun g => by rw [h12] at g; cases g⟩
  · refine ⟨_, (B.cell 0).trans rfl, bc (fun h => bd fun r => ?_) fun h1 => ⟨_, (B.cell 0).trans rfl, bc (fun h => bd fun r => ?_) fun h2 => ⟨_, (K 5).trans rfl, bc (fun h => bd fun r => ?_) fun h3 => ⟨_, (K 6).trans rfl, bc (fun h => bd fun r => ?_) fun h4 => ⟨_, (K 7).trans rfl, bc (fun h => bd fun r => ?_) fun h5 => ⟨_, (K 7).trans rfl, bc (fun h6 => ⟨_, (K 7).trans rfl, _, (K 6).trans rfl, bc (fun h => bd fun r => ?_) fun h7 => ⟨rfl, ?_⟩⟩) fun h6 => ⟨rfl, ?_⟩⟩⟩⟩⟩⟩⟩
    · have := r.alone.k1; simp at h; omega
    · have := r.alone.k2; simp at h; omega
    · have := r.alone.l0; simp at h; omega
    · have := r.alone.f0; simp at h; omega
    · have := r.alone.to; have := r.alone.f0; simp at h; omega
    · have := r.alone.to; simp at h h6; omega
    · simp at *; omega
    · simp at *; omega
theorem check13 {w : World} {q : Option Addr} {l c : Nat} {ms : List Mv} (H : RE En.mv w q l ms) :
    Calls Tryd.prog 63 #[.slice q l c] w (Ret fun v w' => ∃ a b, v = .tuple #[.int .i64 a, .int .i64 b] ∧ Chk ms a b ∧ Chg none_ w w') := by
  have hlen := H.len
  refine f63.calls _ _ _ ?_
  unfold f63.wp
  refine bc (fun h => ⟨_, _, rfl, .long (by simp at h; omega), Chg.refl _ _⟩) fun h => ?_
  have hl : l ≤ 4096 := by simp at h; omega
  clear h
  refine ⟨fun x w1 => ∃ n : Nat, x = (n : Int) ∧ n ≤ l ∧ Oks ms n ∧ Chg none_ w w1, fun x _ => l - x.toNat, ⟨0, rfl, by omega, fun i m hi => by omega, Chg.refl _ _⟩, ?_⟩
  rintro _ w1 ⟨n, rfl, hn, ho, k1⟩
  refine bc (fun h => ?_) fun h => ?_
  · have hnl : n < l := by simp at h; omega
    clear h
    obtain ⟨a, m, rfl, hm, hr⟩ := H.ex hnl
    refine onPtr_mk ⟨by omega, by omega, m.kind, m.key, m.val, m.err, m.hit, m.life, m.frm, m.to, k1.readsN hr, boxed rfl rfl fun w3 B k3 hs3 => ⟨m.kind, m.key, m.val, m.err, m.hit, m.life, m.frm, m.to, B.reads0, ?_⟩⟩
    have k13 : Chg none_ w w3 := k1.trans k3
    refine Calls.use (right28 (H.chg k13) m hnl hl) ?_
    rintro _ w4 ⟨b, rfl, hb, k4⟩
    refine ⟨b, rfl, bc (fun h => ⟨_, _, rfl, .bad n m (by omega) hm ho fun r => ?_, k13.trans k4⟩) fun h => ⟨⟨n + 1, wrapN (by omega), by omega, fun i p hi hp => ?_, k13.trans k4⟩, ?_⟩⟩
    · rw [hb.2 r] at h; cases h
    · by_cases e : i = n
      · subst e; rw [hm] at hp; cases hp; exact hb.1 (by simpa using h)
      · exact ho i p (by omega) hp
    · rw [wrapN (by omega)]; simp only [Int.toNat_natCast]; omega
  · have : n = l := by simp at h; omega
    subst this
    exact ⟨_, _, rfl, .ok (by omega) (by rw [hlen]; exact ho), k1⟩
theorem elemMove : ElemOk Tryd.prog 27 96 8 80 := ⟨rfl, _, rfl, rfl⟩
end Mo
end Go.Proofs.YtglidaifbpjpgaaDoor
