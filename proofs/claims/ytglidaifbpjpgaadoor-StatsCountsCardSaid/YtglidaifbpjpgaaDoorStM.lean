import Derived.Test.YtglidaifbpjpgaaDoorStK
import Derived.Test.YtglidaifbpjpgaaDoorRf
set_option maxRecDepth 20000
namespace Go.Proofs.YtglidaifbpjpgaaDoor
open Go Go.Vc Go.RowKit
/-! # a histogram that New did not give -/
structure Off (w : World) (p : Option Addr) : Prop where
  h : p = none ∨ ∃ b, p = some (ad b) ∧ Blk w b 57 #[.slice none 0 0, .slice none 0 0, .int .i64 0, .int .i64 0]
section
variable {w : World} {p : Option Addr}
theorem Off.made (h : Off w p) : Calls Tryd.prog 38 #[.pointer p] w (Ret fun v w' => v = .bool false ∧ w = w') := by
  refine f38.calls _ ?_
  unfold f38.wp
  rcases h.h with rfl | ⟨b, rfl, hb⟩
  · exact ⟨ptrOk_none _ _, bcF (by simp) ⟨rfl, rfl⟩⟩
  · refine ⟨ptrOk_none _ _, bcT (by simp) (onPtr_mk ⟨_, _, _, (hb.cell 0).trans rfl, _, w, run_neqnil Tryd.underlying28 _ _ _, ?_, rfl⟩)⟩
    rfl
theorem Off.quant (h : Off w p) (a b : Int) : Calls Tryd.prog 25 #[.pointer p, .int .i64 a, .int .i64 b] w (Ret fun v w' => v = .tuple #[.int .i64 0, .int .i64 6] ∧ w = w') := by
  refine f25.calls _ _ _ ?_
  unfold f25.wp
  refine Calls.use h.made ?_
  rintro _ _ ⟨rfl, rfl⟩
  exact ⟨_, rfl, bcT rfl ⟨rfl, rfl⟩⟩
theorem Off.add (h : Off w p) (a : Int) : Calls Tryd.prog 20 #[.pointer p, .int .i64 a] w (Ret fun v w' => v = .bool false ∧ w = w') := by
  refine f20.calls _ _ ?_
  unfold f20.wp
  refine Calls.use h.made ?_
  rintro _ _ ⟨rfl, rfl⟩
  exact ⟨_, rfl, bcT rfl ⟨rfl, rfl⟩⟩
theorem Off.merge (h : Off w p) (o : Option Addr) : Calls Tryd.prog 21 #[.pointer p, .pointer o] w (Ret fun v w' => v = .int .i64 6 ∧ w = w') := by
  refine f21.calls _ _ ?_
  unfold f21.wp
  refine Calls.use h.made ?_
  rintro _ _ ⟨rfl, rfl⟩
  exact ⟨_, rfl, bcT rfl ⟨rfl, rfl⟩⟩
theorem Off.counts (h : Off w p) : Calls Tryd.prog 22 #[.pointer p] w (Ret fun v w' => v = .slice none 0 0 ∧ w = w') := by
  refine f22.calls _ ?_
  unfold f22.wp
  refine Calls.use h.made ?_
  rintro _ _ ⟨rfl, rfl⟩
  exact ⟨_, rfl, bcT rfl ⟨rfl, rfl⟩⟩
theorem Off.total (h : Off w p) : Calls Tryd.prog 23 #[.pointer p] w (Ret fun v w' => v = .int .i64 0 ∧ w = w') := by
  refine f23.calls _ ?_
  unfold f23.wp
  rcases h.h with rfl | ⟨b, rfl, hb⟩
  · exact ⟨ptrOk_none _ _, bcT (by simp) ⟨rfl, rfl⟩⟩
  · exact ⟨ptrOk_none _ _, bcF (by simp) (onPtr_mk ⟨_, (hb.cell0 2).trans rfl, rfl, rfl⟩)⟩
theorem Off.sum (h : Off w p) : Calls Tryd.prog 24 #[.pointer p] w (Ret fun v w' => v = .int .i64 0 ∧ w = w') := by
  refine f24.calls _ ?_
  unfold f24.wp
  rcases h.h with rfl | ⟨b, rfl, hb⟩
  · exact ⟨ptrOk_none _ _, bcT (by simp) ⟨rfl, rfl⟩⟩
  · exact ⟨ptrOk_none _ _, bcF (by simp) (onPtr_mk ⟨_, (hb.cell0 3).trans rfl, rfl, rfl⟩)⟩
theorem Off.fork (h : Off w p) : Calls Tryd.prog 30 #[.pointer p] w (Ret fun v w' => v = .pointer none ∧ w = w') := by
  refine f30.calls _ ?_
  unfold f30.wp
  refine Calls.use h.made ?_
  rintro _ _ ⟨rfl, rfl⟩
  exact ⟨_, rfl, bcT rfl ⟨rfl, rfl⟩⟩
end
theorem bounds32 (p : Option Addr) (w : World) : Calls Tryd.prog 32 #[.pointer p] w (Ret fun v w' => v = .func (.func 45) #[] #[.pointer (some (ad w.heap.size))] ∧ Blk w' w.heap.size 34 #[.pointer p] ∧ w' = w.alloc (.cells #[.pointer p] 34)) := by
  refine f32.calls _ ?_
  unfold f32.wp
  exact fun w1 e1 => ⟨rfl, new_blk e1, e1⟩
/-- nothing is told -/
theorem Off.bounds {w : World} {p : Option Addr} (h : Off w p) {b : Nat} (hb : Blk w b 34 #[.pointer p]) (l : Nat) : Calls Tryd.prog 45 #[.func (.yield l) #[] #[], .pointer (some (ad b))] w (Ret fun v w' => v = .tuple #[] ∧ w = w') := by
  refine f45_y.calls _ _ ?_
  unfold f45_y.wp
  refine onPtr_mk ⟨_, (hb.cell 0).trans rfl, Calls.use h.made ?_⟩
  rintro _ _ ⟨rfl, rfl⟩
  exact ⟨_, rfl, bcT rfl ⟨rfl, rfl⟩⟩
theorem ok5 : OkB [5] := ⟨by decide, by decide, fun i a b ha hb => by
  rcases i with _ | i
  · cases hb
  · simp at ha⟩
theorem Off.chg {S : Nat → Prop} {w w' : World} {p : Option Addr} (h : Off w p) (c : Chg S w w') (hS : ∀ b, p = some (ad b) → ¬ S b) : Off w' p := ⟨by
  rcases h.h with rfl | ⟨b, rfl, hb⟩
  · exact .inl rfl
  · exact .inr ⟨b, rfl, c.blk hb (hS b rfl)⟩⟩
theorem merge_off {w : World} {base : Nat} {h : Hs} (H : HI w base h) {p : Option Addr} (O : Off w p) : Calls Tryd.prog 21 #[.pointer (some (ad h.b)), .pointer p] w (Ret fun v w' => v = .int .i64 280 ∧ Chg none_ w w') := by
  refine f21.calls _ _ ?_
  unfold f21.wp
  refine Calls.use (made38 H) ?_
  rintro _ _ ⟨rfl, rfl⟩
  refine ⟨_, rfl, bcF rfl ⟨fun x w2 => x = true ∧ Chg none_ w w2, ?_, fun _ => True, ?_⟩⟩
  · rintro _ w2 ⟨rfl, k⟩
    exact bcT rfl ⟨rfl, k⟩
  · have kd := (Chg.refl none_ w).drew
    refine Calls.use (O.chg kd fun _ _ x => x).made ?_
    rintro _ _ ⟨rfl, rfl⟩
    exact ⟨_, rfl, fun _ _ => rfl, bcT rfl ⟨rfl, kd⟩⟩

theorem closed7 (w : World) (n m : Int) : Calls Tryd.prog 7 #[.int .i64 n, .int .i64 m] w (Ret fun v w' => v = .bool true ∧ Chg none_ w w') := by
  refine f7.calls _ _ ?_
  unfold f7.wp
  intro w1 e1
  have b1 := new_blk e1
  have k1 := (Chg.refl none_ w).new' e1
  refine Calls.use (awake12 w1) ?_
  rintro _ w2 ⟨rfl, k12⟩
  have k2 := k1.trans k12
  have b2 := k12.blk b1 (fun x => x)
  refine ⟨_, rfl, bcF rfl fun w4 e4 w5 e5 => ?_⟩
  have k4 := k2.new' e4
  have h4 := new_blk e4
  have k5 := k4.new' e5
  have l5 := new_blk e5
  have h5 := h4.new' e5
  have b5 := (b2.new' e4).new' e5
  have z1 := new_size e1
  have z4 := new_size e4
  have z5 := new_size e5
  have s12 := k12.size
  clear k1 k12 b1 b2 k2 k4 h4 e1 e4 e5
  refine ⟨fun x w' ms => ∃ i : Nat, x = i ∧ i ≤ 2 ∧ Chg none_ w w' ∧ Blk w' w.heap.size 4 #[.bool false] ∧ Blk w' w2.heap.size 57 #[.slice none 0 0, .slice none 0 0, .int .i64 0, .int .i64 0] ∧ Blk w' w4.heap.size 34 #[.pointer none, .pointer (some (ad w2.heap.size))] ∧ Marks w ms w',
    fun x _ => 2 - x.toNat, ⟨0, rfl, by omega, k5, b5, h5, l5, Marks.nil _ _⟩, ?_⟩
  rintro x ms w6 ⟨i, rfl, hi, k6, b6, h6, l6, m6⟩
  refine bc (fun hlt => ?_) (fun hge => ?_)
  · have hi2 : i < 2 := by
      have : (i : Int) < 2 := by simpa using hlt
      omega
    obtain ⟨p, hp, off⟩ : ∃ p, (#[.pointer none, .pointer (some (ad w2.heap.size))] : Array Value)[i]? = some (.pointer p) ∧ Off w6 p := by
      rcases i with _ | _ | i
      · exact ⟨none, rfl, ⟨.inl rfl⟩⟩
      · exact ⟨_, rfl, ⟨.inr ⟨_, rfl, h6⟩⟩⟩
      · omega
    refine ⟨by omega, by simpa using hlt, p, ?_, ?_⟩
    · have := l6.cell0 i
      rw [show Int.toNat (i : Int) * 1 = i by omega, this, hp]
    refine Calls.use (off.quant n m) ?_
    rintro _ _ ⟨rfl, rfl⟩
    refine ⟨_, _, rfl, Calls.use (off.add n) ?_⟩
    rintro _ _ ⟨rfl, rfl⟩
    refine ⟨_, rfl, bcF rfl (Calls.use off.counts ?_)⟩
    rintro _ _ ⟨rfl, rfl⟩
    refine ⟨_, _, _, rfl, bcF rfl (Calls.use off.total ?_)⟩
    rintro _ _ ⟨rfl, rfl⟩
    refine ⟨_, rfl, bcF rfl (Calls.use off.sum ?_)⟩
    rintro _ _ ⟨rfl, rfl⟩
    refine ⟨_, rfl, bcF rfl (bcF rfl (bcF rfl (Calls.use (off.merge p) ?_)))⟩
    rintro _ _ ⟨rfl, rfl⟩
    refine ⟨_, rfl, bcF rfl (Calls.use off.fork ?_)⟩
    rintro _ _ ⟨rfl, rfl⟩
    refine ⟨_, rfl, ptrOk_none _ _, bcF rfl (Calls.use (bounds32 p w6) ?_)⟩
    rintro _ w7 ⟨rfl, b7, e7⟩
    have k7 : Chg none_ w6 w7 := (Chg.refl none_ w6).new' e7
    refine ⟨_, rfl, 45, #[], #[.pointer (some (ad w6.heap.size))], rfl, rfl, fun rc hrc w8 e8 => ?_⟩
    obtain ⟨z8, d8, r8⟩ := entered e8
    have k8 : Chg none_ w7 w8 := (Chg.refl none_ w7).entered e8
    refine Calls.use ((off.chg (k7.trans k8) fun _ _ x => x).bounds (k8.blk b7 (fun x => x)) _) ?_
    rintro _ _ ⟨rfl, rfl⟩
    have c8 := k7.trans k8
    have m8 := (m6.chgN c8)
    have md := (m6.chgN k7).cons m8 (Nat.le_trans k6.size k7.size) d8
    refine ⟨_, rfl, afterQ_none r8 (by rw [hrc.state]; decide) hrc.pending ⟨⟨i + 1, ?_, by omega, (k6.trans c8).put (.inr (by have := k6.size; have := k7.size; omega)) _, (c8.blk b6 (fun x => x)).putL r8 _, (c8.blk h6 (fun x => x)).putL r8 _, (c8.blk l6 (fun x => x)).putL r8 _, md.putL r8 _⟩, ?_⟩⟩
    · rw [wrapS (x := (i : Int) + 1) (by omega) (by omega)]; rfl
    · rw [wrapS (x := (i : Int) + 1) (by omega) (by omega)]; show 2 - Int.toNat _ < 2 - Int.toNat _; omega
  · refine fun w7 e7 => ?_
    have r7 := litInts (xs := [5]) e7 rfl
    have k67 := (Chg.refl none_ w6).new' e7
    have k7 := k6.trans k67
    refine Calls.use (new18 r7 (by decide) (by simp)) ?_
    rintro _ w8 ⟨k78, ⟨hno, _⟩ | ⟨_, s, H0, _, _, _, _, rfl⟩⟩
    · exact absurd ok5 hno
    have k68 := k67.trans k78
    refine ⟨_, _, rfl, ptrOk_none _ _, bcT (by simp) (Calls.use (merge_off H0 ⟨.inl rfl⟩) ?_)⟩
    rintro _ w9 ⟨rfl, k89⟩
    refine ⟨_, rfl, bcT rfl fun w10 e10 => ?_⟩
    have o10 := new_blk e10
    have k10 := k89.new' e10
    refine Calls.use (merge_off (H0.chgN k10) ⟨.inr ⟨_, rfl, o10⟩⟩) ?_
    rintro _ w11 ⟨rfl, k11⟩
    have k611 := (k68.trans k10).trans k11
    have b11 := k611.blk b6 (fun x => x)
    have m11 := m6.chgN k611
    have kk := k6.trans k611
    refine ⟨_, rfl, bcT rfl ⟨b11.canStore (by simp), fun w12 e12 => ?_⟩⟩
    have b12 := b11.over e12 rfl
    have k12 := kk.sets' e12 (.inr (Nat.le_refl _))
    have m12 : Marks w ms w12 := m11.chg (S := fun k => k = w.heap.size) ((Chg.refl _ w11).sets' e12 (.inl rfl)) (fun r hr e => m11.not b11 (e ▸ hr))
    exact ⟨m12.ok, true, ((b12.take (m12.not b12)).cell 0).trans rfl, rfl, m12.take k12⟩
end Go.Proofs.YtglidaifbpjpgaaDoor
