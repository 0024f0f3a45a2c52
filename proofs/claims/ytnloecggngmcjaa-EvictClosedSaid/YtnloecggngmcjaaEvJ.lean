import Derived.Test.YtnloecggngmcjaaEvI
set_option maxRecDepth 20000
namespace Go.Proofs.Ytnloecggngmcjaa
open Go Go.Vc Go.RowKit Go.Vc.Ring
/-- victims that New did not give -/
def Dead (p : Option Addr) (w : World) : Prop := p = none ∨ ∃ b, p = some (ad b) ∧ Blk w b 53 #[.int .i64 0, .int .i64 0, .pointer none, .slice none 0 0]
section
variable {p : Option Addr} {w : World}
theorem Dead.drew (h : Dead p w) : Dead p w.drew := h
theorem made27d (h : Dead p w) : Calls Try.prog 27 #[.pointer p] w (Ret fun v w' => v = .bool false ∧ w = w') := by
  refine f27.calls _ ?_
  unfold f27.wp
  refine ⟨ptrOk_none _ _, ?_⟩
  rcases h with rfl | ⟨b, rfl, hb⟩
  · exact bcF (by simp) ⟨rfl, rfl⟩
  · exact bcT (by simp) (onPtr_mk ⟨_, (hb.cell0 2).trans rfl, ptrOk_none _ _, by simp⟩)
theorem is28d (h : Dead p w) (z : Int) : Calls Try.prog 28 #[.pointer p, .int .i64 z] w (Ret fun v w' => v = .bool false ∧ w = w') := by
  refine f28.calls _ _ ?_
  unfold f28.wp
  refine Calls.use (made27d h) ?_
  rintro _ _ ⟨rfl, rfl⟩
  exact ⟨_, rfl, bcF rfl ⟨rfl, rfl⟩⟩
theorem seal11d (h : Dead p w) (z : Int) : Calls Try.prog 11 #[.pointer p, .int .i64 z] w (Ret fun v w' => v = .int .i64 6 ∧ w = w') := by
  refine f11.calls _ _ ?_
  unfold f11.wp
  refine Calls.use (made27d h) ?_
  rintro _ _ ⟨rfl, rfl⟩
  exact ⟨_, rfl, bcT rfl ⟨rfl, rfl⟩⟩
theorem free13d (h : Dead p w) (z : Int) : Calls Try.prog 13 #[.pointer p, .int .i64 z] w (Ret fun v w' => v = .int .i64 6 ∧ w = w') := by
  refine f13.calls _ _ ?_
  unfold f13.wp
  refine Calls.use (made27d h) ?_
  rintro _ _ ⟨rfl, rfl⟩
  exact ⟨_, rfl, bcT rfl ⟨rfl, rfl⟩⟩
theorem hit12d (h : Dead p w) (z : Int) : Calls Try.prog 12 #[.pointer p, .int .i64 z] w (Ret fun v w' => v = .bool false ∧ w = w') := by
  refine f12.calls _ _ ?_
  unfold f12.wp
  refine Calls.use (is28d h z) ?_
  rintro _ _ ⟨rfl, rfl⟩
  exact ⟨_, rfl, bcT rfl ⟨rfl, rfl⟩⟩
theorem next14d (h : Dead p w) : Calls Try.prog 14 #[.pointer p] w (Ret fun v w' => v = .tuple #[.int .i64 0, .bool false] ∧ w.drew = w') := by
  refine f14.calls _ ?_
  unfold f14.wp
  refine ⟨fun _ => True, Calls.use (made27d h.drew) ?_⟩
  rintro _ _ ⟨rfl, rfl⟩
  exact ⟨_, rfl, fun _ _ => rfl, bcT rfl ⟨rfl, rfl⟩⟩
theorem line15d (h : Dead p w) : Calls Try.prog 15 #[.pointer p] w (Ret fun v w' => v = .slice none 0 0 ∧ w = w') := by
  refine f15.calls _ ?_
  unfold f15.wp
  refine Calls.use (made27d h) ?_
  rintro _ _ ⟨rfl, rfl⟩
  exact ⟨_, rfl, bcT rfl ⟨rfl, rfl⟩⟩
theorem marks19d (h : Dead p w) : Calls Try.prog 19 #[.pointer p] w (Ret fun v w' => v = .slice none 0 0 ∧ w = w') := by
  refine f19.calls _ ?_
  unfold f19.wp
  refine Calls.use (made27d h) ?_
  rintro _ _ ⟨rfl, rfl⟩
  exact ⟨_, rfl, bcT rfl ⟨rfl, rfl⟩⟩
theorem keep25d (h : Dead p w) (z : Int) : Calls Try.prog 25 #[.pointer p, .int .u8 z] w (Ret fun v w' => v = .bool false ∧ w = w') := by
  refine f25.calls _ _ ?_
  unfold f25.wp
  refine Calls.use (made27d h) ?_
  rintro _ _ ⟨rfl, rfl⟩
  exact ⟨_, rfl, bcF rfl ⟨rfl, rfl⟩⟩
theorem fork23d (h : Dead p w) : Calls Try.prog 23 #[.pointer p] w (Ret fun v w' => v = .pointer none ∧ w = w') := by
  refine f23.calls _ ?_
  unfold f23.wp
  refine Calls.use (made27d h) ?_
  rintro _ _ ⟨rfl, rfl⟩
  exact ⟨_, rfl, bcT rfl ⟨rfl, rfl⟩⟩
end
structure Two (W : World) (a b : Nat) (w : World) : Prop where
  ha : Blk w a 53 #[.int .i64 0, .int .i64 0, .pointer none, .slice none 0 0]
  hb : Blk w b 25 #[.pointer none, .pointer (some (ad a))]
  hg : Chg none_ W w
theorem Two.next {W : World} {a b : Nat} {w w' : World} (h : Two W a b w) (c : Chg none_ w w') : Two W a b w' := ⟨c.blk h.ha (fun x => x), c.blk h.hb (fun x => x), h.hg.trans c⟩
theorem closed9 (w : World) (q : Option Addr) (l c : Nat) (ho : Ops w q l) (hl : l ≤ 9223372036854775807) : Calls Try.prog 9 #[.slice q l c] w (Ret fun u w' => u = .bool true ∧ Chg none_ w w') := by
  refine f9.calls _ _ _ ?_
  unfold f9.wp
  refine Calls.use (awake17 w) ?_
  rintro _ w1 ⟨rfl, c1⟩
  refine ⟨_, rfl, bcF rfl fun w2 e2 w3 e3 => ?_⟩
  have T3 : Two w w1.heap.size w2.heap.size w3 := ⟨(new_blk e2).new' e3, new_blk e3, (c1.new' e2).new' e3⟩
  clear e2 e3 c1
  generalize w1.heap.size = a at *
  generalize w2.heap.size = b at *
  refine ⟨fun x w4 => ∃ i : Nat, x = i ∧ i ≤ 2 ∧ Two w a b w4, fun x _ => 2 - x.toNat, ⟨0, rfl, by omega, T3⟩, ?_⟩
  clear T3
  rintro x w4 ⟨i, rfl, hi, T⟩
  refine bc (fun hlt => ?_) (fun _ => ⟨rfl, T.hg⟩)
  have hi2 : i < 2 := by simp at hlt; omega
  simp only [Int.toNat_natCast]
  obtain ⟨p, hp, hd⟩ : ∃ p, w4.cell? ((ad b).add (i * 1)) = some (.pointer p) ∧ ∀ {w'}, Two w a b w' → Dead p w' := by
    rw [Nat.mul_one, T.hb.cell0]
    match i, hi2 with
    | 0, _ => exact ⟨none, rfl, fun _ => .inl rfl⟩
    | 1, _ => exact ⟨some (ad a), rfl, fun T => .inr ⟨a, rfl, T.ha⟩⟩
  refine ⟨by omega, by omega, p, hp, fun x w5 => ∃ j : Nat, x = j ∧ j ≤ l ∧ Two w a b w5, fun x _ => l - x.toNat, ⟨0, rfl, Nat.zero_le _, T⟩, ?_⟩
  clear T hp
  rintro x w5 ⟨j, rfl, hj, T⟩
  refine bc (fun hlt => ?_) (fun _ => ?_)
  · have hj2 : j < l := by simpa using hlt
    obtain ⟨a1, x, y, rfl, hr⟩ := ho.chg T.hg j hj2
    simp only [Int.toNat_natCast]
    refine onPtr_mk ⟨by omega, by omega, _, _, hr, fun w6 e6 => ?_⟩
    have X6 := new_blk e6
    have T6 := T.next ((Chg.refl none_ w5).new' e6)
    refine ⟨X6.canStore (by simp), fun w7 e7 => ?_⟩
    have X7 := X6.over e7 rfl
    have na : a ≠ w5.heap.size := fun h => by have := T.ha.lt; omega
    have nb : b ≠ w5.heap.size := fun h => by have := T.hb.lt; omega
    have T7 : Two w a b w7 := ⟨T6.ha.far' e7 na, T6.hb.far' e7 nb, T6.hg.sets' e7 (.inr T.hg.size)⟩
    clear e6 e7 X6 T6
    refine Calls.use (next14d (hd T7)) ?_
    rintro _ w8 ⟨rfl, rfl⟩
    have T8 := T7.next (Chg.refl none_ w7).drew
    have X8 := X7.drew
    clear T7 X7
    generalize w7.drew = w8 at *
    refine ⟨_, _, rfl, _, (X8.cell0 1).trans rfl, Calls.use (seal11d (hd T8) y) ?_⟩
    rintro _ _ ⟨rfl, rfl⟩
    refine ⟨_, rfl, bcF rfl ⟨_, (X8.cell0 1).trans rfl, Calls.use (free13d (hd T8) y) ?_⟩⟩
    rintro _ _ ⟨rfl, rfl⟩
    refine ⟨_, rfl, bcF rfl ⟨_, (X8.cell0 1).trans rfl, Calls.use (hit12d (hd T8) y) ?_⟩⟩
    rintro _ _ ⟨rfl, rfl⟩
    refine ⟨_, rfl, bcF rfl (bcF rfl (bcF rfl ⟨_, (X8.cell0 1).trans rfl, Calls.use (keep25d (hd T8) _) ?_⟩))⟩
    rintro _ _ ⟨rfl, rfl⟩
    rw [wrap1 (by omega) (by omega)]
    exact ⟨_, rfl, bcF rfl ⟨⟨j + 1, by omega, hj2, T8⟩, by show l - ((j : Int) + 1).toNat < l - (j : Int).toNat; omega⟩⟩
  · refine Calls.use (line15d (hd T)) ?_
    rintro _ _ ⟨rfl, rfl⟩
    refine ⟨_, _, _, rfl, bcF rfl (Calls.use (marks19d (hd T)) ?_)⟩
    rintro _ _ ⟨rfl, rfl⟩
    refine ⟨_, _, _, rfl, bcF rfl (Calls.use (fork23d (hd T)) ?_)⟩
    rintro _ _ ⟨rfl, rfl⟩
    rw [wrap1 (by omega) (by omega)]
    exact ⟨_, rfl, ptrOk_none _ _, bcF (by simp) ⟨⟨i + 1, by omega, by omega, T⟩, by show 2 - ((i : Int) + 1).toNat < 2 - i; omega⟩⟩
end Go.Proofs.Ytnloecggngmcjaa
