import Derived.Test.YtjfafkgjcgbgfaaDoorHjD
set_option maxRecDepth 20000
namespace Go.Proofs.YtjfafkgjcgbgfaaDoor
open Go Go.Vc Go.RowKit
theorem elemMove : ElemOk Tryd.prog 23 33 8 80 := ⟨rfl, _, rfl, rfl⟩
theorem copied11 {w : World} {q : Option Addr} {l c : Nat} {ms : List Mv} (h : RE En.mv w q l ms) (hl : l * 80 ≤ 140737488351232) :
    Calls Tryd.prog 11 #[.slice q l c] w (Ret fun v w' => ∃ q3 c3, v = .slice q3 l c3 ∧ SE En.mv w' w.heap.size 33 q3 l c3 ms ∧ Chg none_ w w') := by
  refine f11.calls _ _ _ ?_
  unfold f11.wp
  refine newBox fun w1 B1 k1 _ => ?_
  have S3 : SE En.mv w1 w.heap.size 33 (some ⟨w.heap.size, 0, none⟩) 0 0 [] := SE.lit B1 (by omega) (fun n v hv => by simp [En.flat] at hv) rfl (Nat.le_refl _) (by decide) (by simp)
  obtain ⟨q3, c3, w4, hrun, S4, k4, _⟩ := S3.append (t := 23) (ty := 23) (c2 := c) elemMove (h.chg k1) (by simp only [maxLen]; omega) (by omega) k1.size
  simp only [Nat.zero_add, List.nil_append] at S4 hrun
  exact ⟨_, _, _, w4, hrun, _, _, rfl, S4, k1.trans' k4 fun i hi => by simp [qB] at hi; omega⟩
theorem same14 {w : World} {q q' : Option Addr} {l l' c c' : Nat} {ms ms' : List Mv} (h : RE En.mv w q l ms) (h' : RE En.mv w q' l' ms') (hl : l ≤ 140737488351232) :
    Calls Tryd.prog 14 #[.slice q l c, .slice q' l' c'] w (Ret fun v w' => ∃ b : Bool, v = .bool b ∧ (ms = ms' → b = true) ∧ Chg none_ w w') := by
  have e1 := h.len
  have e2 := h'.len
  refine f14.calls _ _ _ _ _ _ ?_
  unfold f14.wp
  refine bc (fun g => ⟨_, rfl, fun e => ?_, Chg.refl _ _⟩) fun g => ?_
  · subst e; simp at g; omega
  refine ⟨fun x w1 => ∃ n : Nat, x = (n : Int) ∧ n ≤ l ∧ Chg none_ w w1, fun x _ => l - x.toNat, ⟨0, rfl, by omega, Chg.refl _ _⟩, ?_⟩
  rintro _ w1 ⟨n, rfl, hn, k1⟩
  simp at g
  refine bc (fun g1 => ?_) fun g1 => ⟨_, rfl, fun _ => rfl, k1⟩
  simp at g1
  obtain ⟨a, m, rfl, hm, hr⟩ := h.ex g1
  obtain ⟨a', m', rfl, hm', hr'⟩ := h'.ex (i := n) (by omega)
  refine onPtr_mk ⟨by omega, by omega, m.kind, m.key, m.val, m.err, m.hit, m.life, m.frm, m.to, k1.drew.readsN hr, onPtr_mk ⟨by omega, by omega, m'.kind, m'.key, m'.val, m'.err, m'.hit, m'.life, m'.frm, m'.to, k1.drew.readsN hr', bc (fun g2 => ⟨_, rfl, fun e => ?_, k1.drew⟩) fun g2 => ?_⟩⟩
  · subst e; rw [hm] at hm'; cases hm'; simp at g2
  · rw [wrapN (by omega)]
    exact ⟨⟨n + 1, rfl, by omega, k1.drew⟩, by simp only [Int.toNat_natCast]; omega⟩
/-! # how many are side by side -/
def besides (m o : Mv) : Bool := decide (o.life = m.life ∧ (o.to < 0 ∨ o.to ≥ m.frm))
def cnt (ms : List Mv) (n : Nat) (m : Mv) : Nat := ((ms.take n).filter (besides m)).length
theorem cnt_next {ms : List Mv} {n : Nat} {m o : Mv} (h : ms[n]? = some o) : cnt ms (n + 1) m = if besides m o then cnt ms n m + 1 else cnt ms n m := by
  unfold cnt
  rw [List.take_add_one, h, List.filter_append, List.length_append]
  cases e : besides m o <;> simp [e]
theorem cnt_le (ms : List Mv) (n : Nat) (m : Mv) : cnt ms n m ≤ ms.length := by
  unfold cnt
  refine Nat.le_trans (List.length_filter_le _ _) ?_
  rw [List.length_take]; omega
def wid (ms : List Mv) : Nat → Nat
  | 0 => 0
  | n + 1 => match ms[n]? with
    | some m => if cnt ms (n + 1) m > wid ms n then cnt ms (n + 1) m else wid ms n
    | none => wid ms n
theorem wid_next {ms : List Mv} {n : Nat} {m : Mv} (h : ms[n]? = some m) : wid ms (n + 1) = if cnt ms (n + 1) m > wid ms n then cnt ms (n + 1) m else wid ms n := by
  rw [wid, h]
/-- what Width tells -/
structure WidIs (ms : List Mv) (n : Int) : Prop where
  ok : Chk ms 0 0 → n = (wid ms ms.length : Int)
  bad : ∀ a b, Chk ms a b → b ≠ 0 → n = 0
theorem WidIs.eq {ms : List Mv} {a b c d : Int} (h : Chk ms a b) (x : WidIs ms c) (y : WidIs ms d) : c = d := by
  by_cases hb : b = 0
  · subst hb
    have : a = 0 := by cases h; rfl
    subst this
    rw [x.ok h, y.ok h]
  · rw [x.bad a b h hb, y.bad a b h hb]

theorem width15 {w : World} {q : Option Addr} {l c : Nat} {ms : List Mv} (H : RE En.mv w q l ms) (hc : l ≤ c) :
    Calls Tryd.prog 15 #[.slice q l c] w (Ret fun v w' => ∃ n, v = .int .i64 n ∧ WidIs ms n ∧ Chg none_ w w') := by
  have hlen := H.len
  refine f15.calls _ _ _ ?_
  unfold f15.wp
  refine Calls.use (check12 H) ?_
  rintro _ w1 ⟨a, b, rfl, hchk, k1⟩
  refine ⟨_, _, rfl, bc (fun g => ⟨_, rfl, ⟨fun h => ?_, fun _ _ _ _ => rfl⟩, k1⟩) fun g => ?_⟩
  · have := (hchk.eq h).2; simp at g; omega
  have hb : b = 0 := by simpa using g
  subst hb
  obtain rfl : a = 0 := by cases hchk; rfl
  have hl : l ≤ 4096 := by cases hchk with | ok h => omega
  refine ⟨fun x1 x2 w2 => ∃ n : Nat, x2 = (n : Int) ∧ n ≤ l ∧ x1 = (wid ms n : Int) ∧ Chg none_ w w2, fun _ x _ => l - x.toNat, ⟨0, rfl, by omega, rfl, k1⟩, ?_⟩
  rintro _ _ w2 ⟨n, rfl, hn, rfl, k2⟩
  refine bc (fun g1 => ?_) fun g1 => ⟨_, rfl, ⟨fun _ => ?_, fun a' b' h' hb' => absurd (hchk.eq h').2.symm hb'⟩, k2⟩
  · simp at g1
    obtain ⟨a, m, rfl, hm, hr⟩ := H.ex g1
    have hw := wrapN (n := n) (by omega)
    refine onPtr_mk ⟨by omega, by omega, m.kind, m.key, m.val, m.err, m.hit, m.life, m.frm, m.to, k2.readsN hr, boxed rfl rfl fun w4 B k4 hs4 => ⟨by rw [hw]; omega, by rw [hw]; omega, fun x3 x4 w5 => ∃ i : Nat, x4 = (i : Int) ∧ i ≤ n + 1 ∧ x3 = (cnt ms i m : Int) ∧ Chg none_ w w5 ∧ Blk w5 w2.heap.size 33 (mvC m), fun _ x _ => n + 1 - x.toNat, ⟨0, rfl, by omega, by simp [cnt], k2.trans k4, B⟩, ?_⟩⟩
    rintro _ _ w5 ⟨i, rfl, hi, rfl, k5, B5⟩
    have hcl := cnt_le ms i m
    refine bc (fun g2 => ?_) fun g2 => ?_
    · rw [hw] at g2
      have g3 : i < n + 1 := by simp at g2; omega
      obtain ⟨a', o, ha, ho, hr'⟩ := H.ex (i := i) (by omega)
      cases ha
      have hwi := wrapN (n := i) (by omega)
      have hwc : IntKind.wrap .i64 ((cnt ms i m : Int) + 1) = ((cnt ms i m + 1 : Nat) : Int) := wrapN (by omega)
      have hnx := cnt_next (m := m) ho
      rw [hwi, hwc]
      refine onPtr_mk ⟨by omega, by rw [hw]; omega, o.kind, o.key, o.val, o.err, o.hit, o.life, o.frm, o.to, k5.readsN hr', boxed rfl rfl fun w7 B7 k7 hs7 => ?_⟩
      have B57 := k7.blk B5 (fun x => x)
      have yes : besides m o = true → (∃ j : Nat, ((i + 1 : Nat) : Int) = (j : Int) ∧ j ≤ n + 1 ∧ ((cnt ms i m + 1 : Nat) : Int) = (cnt ms j m : Int) ∧ Chg none_ w w7 ∧ Blk w7 w2.heap.size 33 (mvC m)) ∧ n + 1 - ((i + 1 : Nat) : Int).toNat < n + 1 - (i : Int).toNat := fun e => ⟨⟨i + 1, rfl, by omega, by rw [hnx, if_pos e], k5.trans k7, B57⟩, by simp only [Int.toNat_natCast]; omega⟩
      have no : ¬ besides m o = true → (∃ j : Nat, ((i + 1 : Nat) : Int) = (j : Int) ∧ j ≤ n + 1 ∧ (cnt ms i m : Int) = (cnt ms j m : Int) ∧ Chg none_ w w7 ∧ Blk w7 w2.heap.size 33 (mvC m)) ∧ n + 1 - ((i + 1 : Nat) : Int).toNat < n + 1 - (i : Int).toNat := fun e => ⟨⟨i + 1, rfl, by omega, by rw [hnx, if_neg e], k5.trans k7, B57⟩, by simp only [Int.toNat_natCast]; omega⟩
      refine ⟨_, (B7.cell0 5).trans rfl, _, (B57.cell0 5).trans rfl, bc (fun h1 => ⟨_, (B7.cell0 7).trans rfl, bc (fun h2 => yes ?_) fun h2 => ⟨_, (B7.cell0 7).trans rfl, _, (B57.cell0 6).trans rfl, bc (fun h3 => yes ?_) fun h3 => no ?_⟩⟩) fun h1 => no ?_⟩
      · simp at h1 h2; simp [besides, h1, h2]
      · simp at h1 h3; simp [besides, h1, h3]
      · simp at h1 h2 h3; simp [besides]; omega
      · simp at h1; simp [besides]; omega
    · rw [hw] at g2
      have : i = n + 1 := by simp at g2; omega
      subst this
      rw [hw]
      refine ⟨⟨n + 1, rfl, by omega, ?_, k5⟩, by simp only [Int.toNat_natCast]; omega⟩
      rw [wid_next hm]
      split <;> split <;> omega
  · have : n = l := by simp at g1; omega
    subst this
    rw [hlen]
theorem width16 {w : World} {q : Option Addr} {l c : Nat} {ms : List Mv} (H : RE En.mv w q l ms) (hc : l ≤ c) :
    Calls Tryd.prog 16 #[.slice q l c] w (Ret fun v w' => ∃ n, v = .int .i64 n ∧ WidIs ms n ∧ Chg none_ w w') := by
  have hlen := H.len
  refine f16.calls _ _ _ ?_
  unfold f16.wp
  refine Calls.use (check13 H) ?_
  rintro _ w1 ⟨a, b, rfl, hchk, k1⟩
  refine ⟨_, _, rfl, bc (fun g => ⟨_, rfl, ⟨fun h => ?_, fun _ _ _ _ => rfl⟩, k1⟩) fun g => ?_⟩
  · have := (hchk.eq h).2; simp at g; omega
  have hb : b = 0 := by simpa using g
  subst hb
  obtain rfl : a = 0 := by cases hchk; rfl
  have hl : l ≤ 4096 := by cases hchk with | ok h => omega
  refine ⟨fun x1 x2 w2 => ∃ n : Nat, x2 = (n : Int) ∧ n ≤ l ∧ x1 = (wid ms n : Int) ∧ Chg none_ w w2, fun _ x _ => l - x.toNat, ⟨0, rfl, by omega, rfl, k1⟩, ?_⟩
  rintro _ _ w2 ⟨n, rfl, hn, rfl, k2⟩
  refine bc (fun g1 => ?_) fun g1 => ⟨_, rfl, ⟨fun _ => ?_, fun a' b' h' hb' => absurd (hchk.eq h').2.symm hb'⟩, k2⟩
  · simp at g1
    obtain ⟨a, m, rfl, hm, hr⟩ := H.ex g1
    have hw := wrapN (n := n) (by omega)
    refine onPtr_mk ⟨by omega, by omega, m.kind, m.key, m.val, m.err, m.hit, m.life, m.frm, m.to, k2.readsN hr, boxed rfl rfl fun w4 B k4 hs4 => ⟨by rw [hw]; omega, by rw [hw]; omega, fun x3 x4 w5 => ∃ i : Nat, x4 = (i : Int) ∧ i ≤ n + 1 ∧ x3 = (cnt ms i m : Int) ∧ Chg none_ w w5 ∧ Blk w5 w2.heap.size 33 (mvC m), fun _ x _ => n + 1 - x.toNat, ⟨0, rfl, by omega, by simp [cnt], k2.trans k4, B⟩, ?_⟩⟩
    rintro _ _ w5 ⟨i, rfl, hi, rfl, k5, B5⟩
    have hcl := cnt_le ms i m
    refine bc (fun g2 => ?_) fun g2 => ?_
    · rw [hw] at g2
      have g3 : i < n + 1 := by simp at g2; omega
      obtain ⟨a', o, ha, ho, hr'⟩ := H.ex (i := i) (by omega)
      cases ha
      have hwi := wrapN (n := i) (by omega)
      have hwc : IntKind.wrap .i64 ((cnt ms i m : Int) + 1) = ((cnt ms i m + 1 : Nat) : Int) := wrapN (by omega)
      have hnx := cnt_next (m := m) ho
      rw [hwi, hwc]
      refine onPtr_mk ⟨by omega, by rw [hw]; omega, o.kind, o.key, o.val, o.err, o.hit, o.life, o.frm, o.to, k5.readsN hr', boxed rfl rfl fun w7 B7 k7 hs7 => ?_⟩
      have B57 := k7.blk B5 (fun x => x)
      have yes : besides m o = true → (∃ j : Nat, ((i + 1 : Nat) : Int) = (j : Int) ∧ j ≤ n + 1 ∧ ((cnt ms i m + 1 : Nat) : Int) = (cnt ms j m : Int) ∧ Chg none_ w w7 ∧ Blk w7 w2.heap.size 33 (mvC m)) ∧ n + 1 - ((i + 1 : Nat) : Int).toNat < n + 1 - (i : Int).toNat := fun e => ⟨⟨i + 1, rfl, by omega, by rw [hnx, if_pos e], k5.trans k7, B57⟩, by simp only [Int.toNat_natCast]; omega⟩
      have no : ¬ besides m o = true → (∃ j : Nat, ((i + 1 : Nat) : Int) = (j : Int) ∧ j ≤ n + 1 ∧ (cnt ms i m : Int) = (cnt ms j m : Int) ∧ Chg none_ w w7 ∧ Blk w7 w2.heap.size 33 (mvC m)) ∧ n + 1 - ((i + 1 : Nat) : Int).toNat < n + 1 - (i : Int).toNat := fun e => ⟨⟨i + 1, rfl, by omega, by rw [hnx, if_neg e], k5.trans k7, B57⟩, by simp only [Int.toNat_natCast]; omega⟩
      refine ⟨_, (B7.cell0 5).trans rfl, _, (B57.cell0 5).trans rfl, bc (fun h1 => ⟨_, (B7.cell0 7).trans rfl, bc (fun h2 => yes ?_) fun h2 => ⟨_, (B7.cell0 7).trans rfl, _, (B57.cell0 6).trans rfl, bc (fun h3 => yes ?_) fun h3 => no ?_⟩⟩) fun h1 => no ?_⟩
      · simp at h1 h2; simp [besides, h1, h2]
      · simp at h1 h3; simp [besides, h1, h3]
      · simp at h1 h2 h3; simp [besides]; omega
      · simp at h1; simp [besides]; omega
    · rw [hw] at g2
      have : i = n + 1 := by simp at g2; omega
      subst this
      rw [hw]
      refine bc (fun h => ⟨⟨n + 1, rfl, by omega, ?_, k5⟩, by simp only [Int.toNat_natCast]; omega⟩) fun h => ⟨⟨n + 1, rfl, by omega, ?_, k5⟩, by simp only [Int.toNat_natCast]; omega⟩
      · rw [wid_next hm, if_pos (by simp at h; omega)]
      · rw [wid_next hm, if_neg (by simp at h; omega)]
  · have : n = l := by simp at g1; omega
    subst this
    rw [hlen]
end Go.Proofs.YtjfafkgjcgbgfaaDoor
