import Derived.Test.YtjfafkgjcgbgfaaDoorHjB
set_option maxRecDepth 20000
namespace Go.Proofs.YtjfafkgjcgbgfaaDoor
open Go Go.Vc Go.RowKit
/-- x is the greatest step of those that P names (at least where it counts: from 0 on) -/
def Mx (ms : List Mv) (P : Nat → Mv → Prop) (x : Int) : Prop := ∀ f : Int, 0 ≤ f → (f ≤ x ↔ ∃ j p, P j p ∧ ms[j]? = some p ∧ (f ≤ p.frm ∨ f ≤ p.to))
theorem Mx.cong {ms : List Mv} {P Q : Nat → Mv → Prop} {x : Int} (h : Mx ms P x) (e : ∀ j p, ms[j]? = some p → (P j p ↔ Q j p)) : Mx ms Q x := fun f hf => (h f hf).trans ⟨fun ⟨j, p, a, b, c⟩ => ⟨j, p, (e j p b).1 a, b, c⟩, fun ⟨j, p, a, b, c⟩ => ⟨j, p, (e j p b).2 a, b, c⟩⟩
theorem Mx.none {ms : List Mv} {P : Nat → Mv → Prop} (e : ∀ j p, ¬ P j p) : Mx ms P (-1) := fun f hf => ⟨fun h => by omega, fun ⟨j, p, a, _⟩ => absurd a (e j p)⟩
theorem Mx.next {ms : List Mv} {n : Nat} {x : Int} {m : Mv} (h : Mx ms (fun j _ => j < n) x) (hm : ms[n]? = some m) : Mx ms (fun j _ => j < n + 1) (if m.to > (if m.frm > x then m.frm else x) then m.to else (if m.frm > x then m.frm else x)) := fun f hf => by
  have e : f ≤ (if m.to > (if m.frm > x then m.frm else x) then m.to else (if m.frm > x then m.frm else x)) ↔ f ≤ x ∨ f ≤ m.frm ∨ f ≤ m.to := by
    split <;> split at * <;> omega
  rw [e, h f hf]
  constructor
  · rintro (⟨j, p, a, b, c⟩ | c)
    · exact ⟨j, p, by omega, b, c⟩
    · exact ⟨n, m, by omega, hm, c⟩
  · rintro ⟨j, p, a, b, c⟩
    by_cases hj : j < n
    · exact .inl ⟨j, p, hj, b, c⟩
    · obtain rfl : j = n := by omega
      rw [hm] at b; cases b
      exact .inr c
/-- two moves side by side are one -/
theorem get_same {ms : List Mv} {i j : Nat} {a b : Mv} (h : ms[i]? = some a) (h' : ms[j]? = some b) (e : i = j) : a = b := by subst e; rw [h] at h'; cases h'; rfl
theorem wrapP {n : Nat} (h0 : 0 < n) (h : n ≤ 4096) : IntKind.wrap .i64 ((n : Int) - 1) = ((n - 1 : Nat) : Int) := by rw [wrapS (by omega) (by omega)]; omega
theorem wrapN {n : Nat} (h : n < 9223372036854775807) : IntKind.wrap .i64 ((n : Int) + 1) = ((n + 1 : Nat) : Int) := by rw [wrapS (by omega) (by omega)]; omega
theorem check12 {w : World} {q : Option Addr} {l c : Nat} {ms : List Mv} (H : RE En.mv w q l ms) :
    Calls Tryd.prog 12 #[.slice q l c] w (Ret fun v w' => ∃ a b, v = .tuple #[.int .i64 a, .int .i64 b] ∧ Chk ms a b ∧ Chg none_ w w') := by
  have hlen := H.len
  refine f12.calls _ _ _ ?_
  unfold f12.wp
  refine bc (fun h => ⟨_, _, rfl, .long (by simp at h; omega), Chg.refl _ _⟩) fun h => ?_
  have hl : l ≤ 4096 := by simp at h; omega
  clear h
  refine ⟨fun x1 x2 x3 w1 => ∃ n : Nat, x3 = (n : Int) ∧ n ≤ l ∧ Oks ms n ∧ Mx ms (fun j _ => j < n) x1 ∧ Mx ms (fun j p => j < n ∧ ∃ r, ms[n - 1]? = some r ∧ p.life < r.life) x2 ∧ Chg none_ w w1, fun _ _ x3 _ => l - x3.toNat, ⟨0, rfl, by omega, fun i m hi => by omega, Mx.none fun j p hj => by omega, Mx.none fun j p hj => by omega, Chg.refl _ _⟩, ?_⟩
  rintro x1 x2 _ w1 ⟨n, rfl, hn, ho, hx1, hx2, k1⟩
  refine bc (fun h => ?_) fun h => ?_
  · have hnl : n < l := by simp at h; omega
    clear h
    obtain ⟨a, m, rfl, hm, hr⟩ := H.ex hnl
    have hw0 := wrapN (n := n) (by omega)
    refine onPtr_mk ⟨by omega, by omega, m.kind, m.key, m.val, m.err, m.hit, m.life, m.frm, m.to, k1.readsN hr, boxed rfl rfl fun w3 B k3 hs3 => ?_⟩
    have k13 : Chg none_ w w3 := k1.trans k3
    have rd : ∀ {w' : World}, Chg none_ w w' → ∀ {j : Nat} {p : Mv}, ms[j]? = some p → ∃ b, some a = some b ∧ reads w' (b.add (j * 8)) (En.mv.enc p) := fun k j p hp => by
      obtain ⟨b, hb, hr'⟩ := H.get j p hp
      exact ⟨b, hb, k.readsN hr'⟩
    refine ⟨fun x w4 => w4 = w3.drew ∧ ((n ≠ 0 ∧ ∃ r, ms[n - 1]? = some r ∧ m.life < r.life) ∨ Mx ms (fun j p => j < n ∧ p.life < m.life) x), ?_, ?_⟩
    · rintro x w4 ⟨rfl, hx⟩
      refine ⟨fun w5 => Right ms n m ∧ Chg none_ w w5 ∧ Mx ms (fun j p => j < n ∧ p.life < m.life) x ∧ Blk w5 w1.heap.size 33 (mvC m), ?_, fun p => p.block < w3.drew.drew.heap.size, m.kind, m.key, m.val, m.err, m.hit, m.life, m.frm, m.to, B.drew.drew.keepsAll rfl 0 8, B.drew.drew.reads0, Calls.use (alone27 m) ?_⟩
      · rintro w5 ⟨hR, k5, hx', B5⟩
        refine ⟨_, (B5.cell0 6).trans rfl, _, (B5.cell0 7).trans rfl, ⟨n + 1, wrapN (by omega), by omega, fun i p hi hp => ?_, hx1.next hm, hx'.cong fun j p hp => ⟨fun hj => ⟨by omega, m, by simpa using hm, hj.2⟩, fun ⟨hj, r, hr', hl'⟩ => ?_⟩, k5⟩, ?_⟩
        · by_cases hi' : i < n
          · exact ho i p hi' hp
          · obtain rfl : i = n := by omega
            rw [hm] at hp; cases hp; exact hR
        · have e : r = m := get_same hr' hm (by omega)
          subst e
          by_cases e : j = n
          · rw [e, hm] at hp; cases hp; omega
          · exact ⟨by omega, hl'⟩
        · rw [hw0]; simp only [Int.toNat_natCast]; omega
      · rintro _ w6 ⟨b, rfl, hb, k6⟩
        have k06 : Chg none_ w w6 := k13.drew.drew.trans k6
        have bad : ¬ Right ms n m → (∃ a b, Value.tuple #[.int .i64 (n : Int), .int .i64 240] = .tuple #[.int .i64 a, .int .i64 b] ∧ Chk ms a b ∧ Chg none_ w w6) := fun hn' => ⟨_, _, rfl, .bad n m (by omega) hm ho hn', k06⟩
        refine ⟨b, rfl, Chg.keeps k6, bc (fun h => bad fun r => ?_) fun h => ?_⟩
        · rw [hb.2 r.alone] at h; cases h
        have hA : Alone m := hb.1 (by simpa using h)
        have fin : (∀ (j : Nat) (p : Mv), j + 1 = n → ms[j]? = some p → p.life ≤ m.life ∧ p.frm < m.frm) → ∀ u : Bool, u = decide (m.frm ≤ x) → bcase u (∃ a b, Value.tuple #[.int .i64 (n : Int), .int .i64 240] = .tuple #[.int .i64 a, .int .i64 b] ∧ Chk ms a b ∧ Chg none_ w w6) (Right ms n m ∧ Chg none_ w w6 ∧ Mx ms (fun j p => j < n ∧ p.life < m.life) x ∧ Blk w6 w1.heap.size 33 (mvC m)) := fun hp u hu => by
          have hx' : Mx ms (fun j p => j < n ∧ p.life < m.life) x := by
            rcases hx with ⟨h0, r, hr', hl'⟩ | hx
            · have := (hp (n - 1) r (by omega) hr').1; omega
            · exact hx
          subst hu
          have hq := hx' m.frm hA.f0
          refine bc (fun hf => bad fun r => ?_) fun hf => ⟨⟨hA, hp, fun j p hj hp' hl' => ?_⟩, k06, hx', (k6.blk B.drew.drew (fun x => x))⟩
          · obtain ⟨j, p, ⟨h1, h2⟩, h3, h4⟩ := hq.1 (by simpa using hf)
            have := r.elder j p h1 h3 h2
            omega
          · have h1 : ¬ _ := fun g => (by simpa using hf : ¬ m.frm ≤ x) (hq.2 g)
            constructor
            · by_cases h2 : p.frm < m.frm
              · exact h2
              · exact absurd ⟨j, p, ⟨hj, hl'⟩, hp', .inl (by omega)⟩ h1
            · by_cases h2 : p.to < m.frm
              · exact h2
              · exact absurd ⟨j, p, ⟨hj, hl'⟩, hp', .inr (by omega)⟩ h1
        refine bc (fun h0 => ?_) fun h0 => ?_
        · have hn0 : 0 < n := by simp at h0; omega
          have hw1 := wrapP hn0 (by omega)
          obtain ⟨r, hr'⟩ := get_ex (l := ms) (i := n - 1) (by omega)
          obtain ⟨b', hb', hrr⟩ := rd k13.drew.drew hr'
          cases hb'
          rw [hw1]
          refine ⟨m.life, B.drew.drew.keepsAll rfl 0 8 5 (by omega), (B.drew.drew.cell0 5).trans rfl, onPtr_mk ⟨by omega, by omega, r.life, ?_, hrr 5 _ rfl, bc (fun h1 => bad fun R => ?_) fun h1 => ⟨m.frm, B.drew.drew.keepsAll rfl 0 8 6 (by omega), (B.drew.drew.cell0 6).trans rfl, onPtr_mk ⟨by omega, by omega, r.frm, ?_, hrr 6 _ rfl, bc (fun h2 => bad fun R => ?_) fun h2 => ⟨m.frm, B.drew.drew.keepsAll rfl 0 8 6 (by omega), (B.drew.drew.cell0 6).trans rfl, fin (fun j p hj hp => ?_) _ rfl⟩⟩⟩⟩⟩
          · have := cell_some (hrr 5 _ rfl); exact this
          · have := (R.prev (n - 1) r (by omega) hr').1; simp at h1; omega
          · have := cell_some (hrr 6 _ rfl); exact this
          · have := (R.prev (n - 1) r (by omega) hr').2; simp at h2; omega
          · have e := get_same hp hr' (by omega)
            subst e
            simp at h1 h2; omega
        · have hn0 : n = 0 := by simp at h0; omega
          exact ⟨m.frm, B.drew.drew.keepsAll rfl 0 8 6 (by omega), (B.drew.drew.cell0 6).trans rfl, fin (fun j p hj hp => by omega) _ rfl⟩
    · refine bc (fun h0 => ?_) fun h0 => ?_
      · have hn0 : 0 < n := by simp at h0; omega
        have hw1 := wrapP hn0 (by omega)
        obtain ⟨r, hr'⟩ := get_ex (l := ms) (i := n - 1) (by omega)
        obtain ⟨b', hb', hrr⟩ := rd k13.drew hr'
        cases hb'
        rw [hw1]
        refine ⟨m.life, (B.drew.cell0 5).trans rfl, onPtr_mk ⟨by omega, by omega, r.life, hrr 5 _ rfl, bc (fun h1 => ⟨rfl, .inr (hx1.cong fun j p hp => ⟨fun hj => ⟨hj, ?_⟩, fun hj => hj.1⟩)⟩) fun h1 => ⟨rfl, ?_⟩⟩⟩
        · have h2 := ho.life (n - 1 - j) j p r (by omega) hp (by rw [show j + (n - 1 - j) = n - 1 by omega]; exact hr')
          simp at h1; omega
        · by_cases h2 : m.life < r.life
          · exact .inl ⟨by omega, r, hr', h2⟩
          · refine .inr (hx2.cong fun j p hp => ⟨fun ⟨hj, r', h3, h4⟩ => ⟨hj, ?_⟩, fun ⟨hj, h3⟩ => ⟨hj, r, hr', ?_⟩⟩)
            · rw [hr'] at h3; cases h3; omega
            · simp at h1; omega
      · have hn0 : n = 0 := by simp at h0; omega
        exact ⟨rfl, .inr (hx2.cong fun j p hp => ⟨fun hj => by omega, fun hj => by omega⟩)⟩
  · have : n = l := by simp at h; omega
    subst this
    exact ⟨_, _, rfl, .ok (by omega) (by rw [hlen]; exact ho), k1⟩
end Go.Proofs.YtjfafkgjcgbgfaaDoor
