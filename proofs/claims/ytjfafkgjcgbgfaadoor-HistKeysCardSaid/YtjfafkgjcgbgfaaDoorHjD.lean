import Derived.Test.YtjfafkgjcgbgfaaDoorHjC
set_option maxRecDepth 20000
namespace Go.Proofs.YtjfafkgjcgbgfaaDoor
open Go Go.Vc Go.RowKit
theorem right28 {w : World} {q : Option Addr} {l c n : Nat} {ms : List Mv} (H : RE En.mv w q l ms) (m : Mv) (hn : n < l) (hl : l ≤ 4096) :
    Calls Tryd.prog 28 #[mvV m, .int .i64 n, .slice q l c] w (Ret fun v w' => ∃ b : Bool, v = .bool b ∧ (b = true ↔ Right ms n m) ∧ Chg none_ w w') := by
  have hlen := H.len
  refine f28.calls _ _ _ _ _ _ _ _ _ _ _ _ ?_
  unfold f28.wp
  refine newBox fun w1 B k1 _ => ?_
  have bad : ∀ w2, Chg none_ w w2 → ¬ Right ms n m → (fun (v : Value) (w' : World) => ∃ b : Bool, v = .bool b ∧ (b = true ↔ Right ms n m) ∧ Chg none_ w w') (.bool false) w2 := fun w2 k2 hb => ⟨_, rfl, by simp [hb], k2⟩
  have bd := bad w1 k1
  have hw : IntKind.wrap .i64 ((n : Int) - 1) = (n : Int) - 1 := by rw [wrapS (by omega) (by omega)]
  have K : ∀ j, w1.cell? ((⟨w.heap.size, 0, none⟩ : Addr).add j) = (mvC m)[j]? := fun j => B.cell0 j
  have rd : ∀ {w' : World}, Chg none_ w w' → ∀ {j : Nat} {p : Mv}, ms[j]? = some p → ∃ b, q = some b ∧ reads w' (b.add (j * 8)) (En.mv.enc p) := fun k j p hp => by
    obtain ⟨b, hb, hr'⟩ := H.get j p hp
    exact ⟨b, hb, k.readsN hr'⟩
  refine ⟨fun w2 => w1 = w2 ∧ 1 ≤ m.kind ∧ m.kind ≤ 5 ∧ 0 ≤ m.life ∧ 0 ≤ m.frm ∧ (m.to = -1 ∨ m.frm ≤ m.to), ?_, ?_⟩
  · rintro _ ⟨rfl, h1, h2, h3, h4, h5⟩
    refine ⟨_, (K 3).trans rfl, bc (fun h => bd fun r => ?_) fun h6 => ⟨_, (K 3).trans rfl, bc (fun h => bd fun r => ?_) fun h7 => ⟨_, (K 6).trans rfl, bc (fun h => bd fun r => ?_) fun h8 => ⟨_, (K 7).trans rfl, bc (fun h => bd fun r => ?_) fun h9 => ⟨_, (K 5).trans rfl, bc (fun h => bd fun r => ?_) fun h10 => ?_⟩⟩⟩⟩⟩
    · have := r.alone.er; simp at h; omega
    · have := r.alone.b1; simp at h; omega
    · have := r.alone.b3; simp at h; omega
    · have := r.alone.b4; simp at h; omega
    · have := r.alone.b2; simp at h; omega
    simp at h6 h7 h8 h9 h10
    refine ⟨fun w3 => w1 = w3 ∧ (m.to < 0 → m.err = 0 ∧ m.hit = false) ∧ (m.hit = true → m.kind = 1 ∧ m.err = 0), ?_, _, (K 7).trans rfl, bc (fun h11 => ⟨_, (K 3).trans rfl, bc (fun h => bd fun r => ?_) fun h12 => ⟨_, (K 4).trans rfl, bc (fun h => bd fun r => ?_) fun h13 => ⟨_, (K 4).trans rfl, bc (fun h => ?_) fun h => ⟨rfl, ?_⟩⟩⟩⟩) fun h11 => ⟨_, (K 4).trans rfl, bc (fun h12 => ⟨_, (B.cell 0).trans rfl, bc (fun h => bd fun r => ?_) fun h13 => ⟨_, (K 3).trans rfl, bc (fun h => bd fun r => ?_) fun h14 => ⟨rfl, ?_⟩⟩⟩) fun h12 => ⟨rfl, ?_⟩⟩⟩
    · rintro _ ⟨rfl, h11, h12⟩
      have mk : (m.val.toList = e0.toList ∨ m.kind = 2 ∨ m.hit = true) → (m.kind ≤ 3 ∨ m.key.toList = e0.toList) → Alone m := fun hv hk => by
        refine ⟨by omega, by omega, by omega, by omega, by omega, by omega, by omega, by omega, by omega, by omega, ?_, h12, hv, hk⟩
        by_cases h : m.to < 0
        · exact .inr (h11 h)
        · exact .inl (by omega)
      have e1 : e0.toList = [] := by simp
      refine ⟨fun w4 => w1 = w4 ∧ Alone m, ?_, ?_⟩
      · rintro _ ⟨rfl, hA⟩
        refine ⟨fun w5 => w1.drew = w5 ∧ ∀ (j : Nat) (p : Mv), j + 1 = n → ms[j]? = some p → p.life ≤ m.life ∧ p.frm < m.frm, ?_, bc (fun h0 => ?_) fun h0 => ⟨rfl, fun j p hj => ?_⟩⟩
        · rintro _ ⟨rfl, hp⟩
          refine ⟨fun x w6 => Chg none_ w w6 ∧ Blk w6 w.heap.size 33 (mvC m) ∧ -1 ≤ x ∧ x < n ∧ ∀ (j : Nat) (p : Mv), x < j → j < n → ms[j]? = some p → p.life < m.life → p.frm < m.frm ∧ p.to < m.frm, fun x _ => (x + 1).toNat, ⟨k1.drew, B.drew, by rw [hw]; omega, by rw [hw]; omega, fun j p hj hj' => by rw [hw] at hj; omega⟩, ?_⟩
          rintro x w6 ⟨k6, B6, hx0, hx1, hx⟩
          refine bc (fun hx2 => ?_) fun hx2 => ⟨_, rfl, iff_of_true rfl ⟨hA, hp, fun j p hj hp' hl' => hx j p (by simp at hx2; omega) hj hp' hl'⟩, k6⟩
          simp at hx2
          obtain ⟨i, rfl⟩ : ∃ i : Nat, x = (i : Int) := ⟨x.toNat, by omega⟩
          obtain ⟨p, hp'⟩ := get_ex (l := ms) (i := i) (by omega)
          obtain ⟨a, rfl, hr⟩ := rd k6.drew hp'
          have hwi : IntKind.wrap .i64 ((i : Int) - 1) = (i : Int) - 1 := by rw [wrapS (by omega) (by omega)]
          rw [hwi]
          have go : (p.life < m.life → p.frm < m.frm ∧ p.to < m.frm) → (Chg none_ w w6.drew ∧ Blk w6.drew w.heap.size 33 (mvC m) ∧ -1 ≤ (i : Int) - 1 ∧ (i : Int) - 1 < n ∧ ∀ (j : Nat) (p : Mv), (i : Int) - 1 < j → j < n → ms[j]? = some p → p.life < m.life → p.frm < m.frm ∧ p.to < m.frm) ∧ ((i : Int) - 1 + 1).toNat < ((i : Int) + 1).toNat := fun hh => ⟨⟨k6.drew, B6.drew, by omega, by omega, fun j r hj hj' hr' => by
            by_cases e : i = j
            · subst e; rw [hp'] at hr'; cases hr'; exact hh
            · exact hx j r (by omega) hj' hr'⟩, by omega⟩
          refine onPtr_mk ⟨by omega, by omega, _, hr 5 _ rfl, _, (B6.drew.cell0 5).trans rfl, bc (fun g1 => onPtr_mk ⟨by omega, by omega, _, hr 6 _ rfl, _, (B6.drew.cell0 6).trans rfl, bc (fun g2 => bad _ k6.drew fun r => ?_) fun g2 => onPtr_mk ⟨by omega, by omega, _, hr 7 _ rfl, _, (B6.drew.cell0 6).trans rfl, bc (fun g3 => bad _ k6.drew fun r => ?_) fun g3 => go ?_⟩⟩) fun g1 => go ?_⟩
          · have := (r.elder i p (by omega) hp' (by simpa using g1)).1; simp at g2; omega
          · have := (r.elder i p (by omega) hp' (by simpa using g1)).2; simp at g3; omega
          · simp at g2 g3; omega
          · simp at g1; omega
        · have hn0 : 0 < n := by simp at h0; omega
          obtain ⟨p, hp'⟩ := get_ex (l := ms) (i := n - 1) (by omega)
          obtain ⟨a, rfl, hr⟩ := rd k1.drew hp'
          have hw1 := wrapP hn0 (by omega)
          rw [hw1]
          refine ⟨_, (B.drew.cell0 5).trans rfl, onPtr_mk ⟨by omega, by omega, _, hr 5 _ rfl, bc (fun g1 => bad _ k1.drew fun r => ?_) fun g1 => ⟨_, (B.drew.cell0 6).trans rfl, onPtr_mk ⟨by omega, by omega, _, hr 6 _ rfl, bc (fun g2 => bad _ k1.drew fun r => ?_) fun g2 => ⟨rfl, fun j r hj hr' => ?_⟩⟩⟩⟩⟩
          · have := (r.prev (n - 1) p (by omega) hp').1; simp at g1; omega
          · have := (r.prev (n - 1) p (by omega) hp').2; simp at g2; omega
          · have e := get_same hr' hp' (by omega)
            subst e
            simp at g1 g2; omega
        · simp at h0; omega
      · have fin : ∀ {X : Prop}, (m.val.toList = e0.toList ∨ m.kind = 2 ∨ m.hit = true) → ((X → w1 = w1 ∧ Alone m) → X) → True := fun _ _ => trivial
        have key : (m.val.toList = e0.toList ∨ m.kind = 2 ∨ m.hit = true) → ∃ s2 : ByteArray, w1.cell? ((⟨w.heap.size, 0, none⟩ : Addr).add 1) = some (.string s2) ∧ bcase (!(s2.toList == e0.toList)) (∃ n21 : Int, w1.cell? ⟨w.heap.size, 0, none⟩ = some (.int .i64 n21) ∧ bcase (decide (n21 ≥ 4)) (∃ b : Bool, Value.bool false = .bool b ∧ (b = true ↔ Right ms n m) ∧ Chg none_ w w1) (w1 = w1 ∧ Alone m)) (w1 = w1 ∧ Alone m) := fun hv => by
          refine ⟨_, (K 1).trans rfl, bc (fun g1 => ⟨_, (B.cell 0).trans rfl, bc (fun g2 => bd fun r => ?_) fun g2 => ⟨rfl, mk hv (.inl ?_)⟩⟩) fun g1 => ⟨rfl, mk hv (.inr ?_)⟩⟩
          · have := r.alone.ky
            simp at g1 g2 this
            rcases this with h | h
            · omega
            · exact g1 h
          · simp at g2; omega
          · simpa using g1
        refine ⟨_, (K 2).trans rfl, bc (fun g1 => ⟨_, (B.cell 0).trans rfl, bc (fun g2 => ⟨_, (K 4).trans rfl, bc (fun g3 => bd fun r => ?_) fun g3 => key (.inr (.inr ?_))⟩) fun g2 => key (.inr (.inl ?_))⟩) fun g1 => key (.inl ?_)⟩
        · have := r.alone.vl
          simp at g1 g2 g3 this
          rcases this with h | h | h
          · exact g1 h
          · exact g2 h
          · rw [g3] at h; cases h
        · simpa using g3
        · simpa using g2
        · simpa using g1
    · have := r.alone.bk; simp at h h11; omega
    · have := r.alone.bk; simp at h11; rcases this with h' | h'
      · omega
      · rw [h'.2] at h; cases h
    · rw [h13] at h; cases h
    · simp at h12; exact ⟨fun _ => ⟨h12, h13⟩, fun g => by rw [h13] at g; cases g⟩
    · have := r.alone.ht h12; simp at h; omega
    · have := r.alone.ht h12; simp at h; omega
    · simp at h11 h13 h14; exact ⟨fun g => by omega, fun _ => ⟨h13, h14⟩⟩
    · simp at h11; exact ⟨fun g => by omega, fun g => by rw [h12] at g; cases g⟩
  · refine ⟨_, (B.cell 0).trans rfl, bc (fun h => bd fun r => ?_) fun h1 => ⟨_, (B.cell 0).trans rfl, bc (fun h => bd fun r => ?_) fun h2 => ⟨_, (K 5).trans rfl, bc (fun h => bd fun r => ?_) fun h3 => ⟨_, (K 6).trans rfl, bc (fun h => bd fun r => ?_) fun h4 => ⟨_, (K 7).trans rfl, bc (fun h => bd fun r => ?_) fun h5 => ⟨_, (K 7).trans rfl, bc (fun h6 => ⟨_, (K 7).trans rfl, _, (K 6).trans rfl, bc (fun h => bd fun r => ?_) fun h7 => ⟨rfl, ?_⟩⟩) fun h6 => ⟨rfl, ?_⟩⟩⟩⟩⟩⟩⟩
    · have := r.alone.k1; simp at h; omega
    · have := r.alone.k2; simp at h; omega
    · have := r.alone.l0; simp at h; omega
    · have := r.alone.f0; simp at h; omega
    · have := r.alone.to; have := r.alone.f0; simp at h; omega
    · have := r.alone.to; simp at h h6; omega
    · simp at *; omega
    · simp at *; omega
theorem check13 {w : World} {q : Option Addr} {l c : Nat} {ms : List Mv} (H : RE En.mv w q l ms) :
    Calls Tryd.prog 13 #[.slice q l c] w (Ret fun v w' => ∃ a b, v = .tuple #[.int .i64 a, .int .i64 b] ∧ Chk ms a b ∧ Chg none_ w w') := by
  have hlen := H.len
  refine f13.calls _ _ _ ?_
  unfold f13.wp
  refine bc (fun h => ⟨_, _, rfl, .long (by simp at h; omega), Chg.refl _ _⟩) fun h => ?_
  have hl : l ≤ 4096 := by simp at h; omega
  clear h
  refine ⟨fun x w1 => ∃ n : Nat, x = (n : Int) ∧ n ≤ l ∧ Oks ms n ∧ Chg none_ w w1, fun x _ => l - x.toNat, ⟨0, rfl, by omega, fun i m hi => by omega, Chg.refl _ _⟩, ?_⟩
  rintro _ w1 ⟨n, rfl, hn, ho, k1⟩
  refine bc (fun h => ?_) fun h => ?_
  · have hnl : n < l := by simp at h; omega
    clear h
    obtain ⟨a, m, rfl, hm, hr⟩ := H.ex hnl
    refine onPtr_mk ⟨by omega, by omega, m.kind, m.key, m.val, m.err, m.hit, m.life, m.frm, m.to, k1.readsN hr, boxed rfl rfl fun w3 B k3 hs3 => ⟨m.kind, m.key, m.val, m.err, m.hit, m.life, m.frm, m.to, B.reads0, ?_⟩⟩
    have k13 : Chg none_ w w3 := k1.trans k3
    refine Calls.use (right28 (H.chg k13) m hnl hl) ?_
    rintro _ w4 ⟨b, rfl, hb, k4⟩
    refine ⟨b, rfl, bc (fun h => ⟨_, _, rfl, .bad n m (by omega) hm ho fun r => ?_, k13.trans k4⟩) fun h => ⟨⟨n + 1, wrapN (by omega), by omega, fun i p hi hp => ?_, k13.trans k4⟩, ?_⟩⟩
    · rw [hb.2 r] at h; cases h
    · by_cases e : i = n
      · subst e; rw [hm] at hp; cases hp; exact hb.1 (by simpa using h)
      · exact ho i p (by omega) hp
    · rw [wrapN (by omega)]; simp only [Int.toNat_natCast]; omega
  · have : n = l := by simp at h; omega
    subst this
    exact ⟨_, _, rfl, .ok (by omega) (by rw [hlen]; exact ho), k1⟩
end Go.Proofs.YtjfafkgjcgbgfaaDoor
