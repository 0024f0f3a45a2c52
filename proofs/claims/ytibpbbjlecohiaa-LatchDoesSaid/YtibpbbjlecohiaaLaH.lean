import Derived.Test.YtibpbbjlecohiaaLaE
set_option maxRecDepth 20000
namespace Go.Proofs.Ytibpbbjlecohiaa
open Go Go.Vc Go.RowKit
/-! # latches that New did not give -/
def none5 : Array Value := #[.slice none 0 0, .slice none 0 0, .slice none 0 0, .slice none 0 0, .map none]
def Cls (w : World) (p : Option Addr) : Prop := p = none ∨ ∃ b, p = some ⟨b, 0, none⟩ ∧ Blk w b 89 none5
section
variable {w w' : World} {p : Option Addr}
theorem Cls.chg (h : Cls w p) (k : Chg none_ w w') : Cls w' p := by
  rcases h with rfl | ⟨b, rfl, B⟩
  · exact .inl rfl
  · exact .inr ⟨b, rfl, k.blk B (fun x => x)⟩
theorem run_eqmap_nil {P : Program} {t k e : TypeId} {X Y : Operand} (h : P.underlying t = some (.map k e)) (w : World) : (eqSem .eql t X Y (.map none) (.map none)).run P w = .ok (.bool true) w := by
  have h1 := run_equal_map_nil (P := P) w t k e none h
  have e1 : binOp .eql t (.map none) (.map none) = (do pure (.bool (← Op.equal t (.map none) (.map none)))) := rfl
  simp only [eqSem, eqGuard_at_map, pure_bind, e1, Sem.run_bind, h1, Result.andThen_ok, Sem.run_pure]
  rfl
theorem sizes43c (h : Cls w p) : Calls Try.prog 43 #[.pointer p] w (Ret fun v w' => v = .tuple #[.int .i64 0, .int .i64 0, .int .i64 0, .int .i64 0] ∧ Chg none_ w w') := by
  refine f43.calls _ ?_
  unfold f43.wp
  rcases h with rfl | ⟨b, rfl, B⟩
  · exact ⟨ptrOk_none _ _, bcT rfl ⟨rfl, Chg.refl _ _⟩⟩
  · have B' := B.drew
    exact ⟨ptrOk_none _ _, bcF rfl (onPtr_mk ⟨_, _, _, (B'.cell 0).trans rfl, onPtr_mk ⟨_, _, _, (B'.cell0 1).trans rfl, onPtr_mk ⟨_, _, _, (B'.cell0 2).trans rfl, onPtr_mk ⟨_, _, _, (B'.cell0 3).trans rfl, rfl, (Chg.refl none_ w).drew⟩⟩⟩⟩)⟩
theorem asks44c (h : Cls w p) (task : Int) (q : Option Addr) (l c : Nat) : Calls Try.prog 44 #[.pointer p, .int .i64 task, .slice q l c] w (Ret fun v w' => v = .int .i64 6 ∧ Chg none_ w w') := by
  refine f44.calls _ _ _ _ _ ?_
  unfold f44.wp
  refine ⟨fun x w' => x = true ∧ w = w', ?_, ptrOk_none _ _, ?_⟩
  · rintro _ _ ⟨rfl, rfl⟩
    exact bcT rfl ⟨rfl, Chg.refl _ _⟩
  rcases h with rfl | ⟨b, rfl, B⟩
  · exact bcT rfl ⟨rfl, rfl⟩
  · exact bcF rfl (onPtr_mk ⟨_, (B.cell0 4).trans rfl, _, w, run_eqmap_nil Try.underlying87 w, rfl, rfl⟩)
theorem lock18c (h : Cls w p) (task n : Int) : Calls Try.prog 18 #[.pointer p, .int .i64 task, .int .i64 n] w (Ret fun v w' => v = .tuple #[.bool false, .int .i64 6] ∧ Chg none_ w w') := by
  refine f18.calls _ _ _ ?_
  unfold f18.wp
  refine Calls.use (sizes43c h) ?_
  rintro _ w1 ⟨rfl, k1⟩
  refine ⟨_, _, _, _, rfl, fun w2 e2 => ?_⟩
  have k2 := k1.new' e2
  refine Calls.use (asks44c (h.chg k2) _ _ _ _) ?_
  rintro _ w3 ⟨rfl, k3⟩
  exact ⟨_, rfl, bcT rfl ⟨rfl, k2.trans k3⟩⟩
theorem unlock19c (h : Cls w p) (task n : Int) : Calls Try.prog 19 #[.pointer p, .int .i64 task, .int .i64 n] w (Ret fun v w' => v = .tuple #[.slice none 0 0, .int .i64 6] ∧ Chg none_ w w') := by
  refine f19.calls _ _ _ ?_
  unfold f19.wp
  refine Calls.use (sizes43c h) ?_
  rintro _ w1 ⟨rfl, k1⟩
  refine ⟨_, _, _, _, rfl, fun w2 e2 => ?_⟩
  have k2 := k1.new' e2
  refine Calls.use (asks44c (h.chg k2) _ _ _ _) ?_
  rintro _ w3 ⟨rfl, k3⟩
  exact ⟨_, rfl, bcT rfl ⟨rfl, k2.trans k3⟩⟩
theorem take85c (h : Cls w p) (task n kind : Int) : Calls Try.prog 85 #[.pointer p, .int .i64 task, .int .i64 n, .int .i64 kind] w (Ret fun v w' => v = .tuple #[.bool false, .int .i64 6] ∧ Chg none_ w w') := by
  refine f85.calls _ _ _ _ ?_
  unfold f85.wp
  refine Calls.use (sizes43c h) ?_
  rintro _ w1 ⟨rfl, k1⟩
  refine ⟨_, _, _, _, rfl, fun w2 e2 => ?_⟩
  have k2 := k1.new' e2
  refine Calls.use (asks44c (h.chg k2) _ _ _ _) ?_
  rintro _ w3 ⟨rfl, k3⟩
  exact ⟨_, rfl, bcT rfl ⟨rfl, k2.trans k3⟩⟩
theorem runlock48c (h : Cls w p) (task n : Int) : Calls Try.prog 48 #[.pointer p, .int .i64 task, .int .i64 n] w (Ret fun v w' => v = .tuple #[.slice none 0 0, .int .i64 6] ∧ Chg none_ w w') := by
  refine f48.calls _ _ _ ?_
  unfold f48.wp
  refine Calls.use (sizes43c h) ?_
  rintro _ w1 ⟨rfl, k1⟩
  refine ⟨_, _, _, _, rfl, fun w2 e2 => ?_⟩
  have k2 := k1.new' e2
  refine Calls.use (asks44c (h.chg k2) _ _ _ _) ?_
  rintro _ w3 ⟨rfl, k3⟩
  exact ⟨_, rfl, bcT rfl ⟨rfl, k2.trans k3⟩⟩
theorem wunlock50c (h : Cls w p) (task n : Int) : Calls Try.prog 50 #[.pointer p, .int .i64 task, .int .i64 n] w (Ret fun v w' => v = .tuple #[.slice none 0 0, .int .i64 6] ∧ Chg none_ w w') := by
  refine f50.calls _ _ _ ?_
  unfold f50.wp
  refine Calls.use (sizes43c h) ?_
  rintro _ w1 ⟨rfl, k1⟩
  refine ⟨_, _, _, _, rfl, fun w2 e2 => ?_⟩
  have k2 := k1.new' e2
  refine Calls.use (asks44c (h.chg k2) _ _ _ _) ?_
  rintro _ w3 ⟨rfl, k3⟩
  exact ⟨_, rfl, bcT rfl ⟨rfl, k2.trans k3⟩⟩
theorem wait51c (h : Cls w p) (task n m : Int) : Calls Try.prog 51 #[.pointer p, .int .i64 task, .int .i64 n, .int .i64 m] w (Ret fun v w' => v = .tuple #[.slice none 0 0, .int .i64 6] ∧ Chg none_ w w') := by
  refine f51.calls _ _ _ _ ?_
  unfold f51.wp
  refine Calls.use (sizes43c h) ?_
  rintro _ w1 ⟨rfl, k1⟩
  refine ⟨_, _, _, _, rfl, fun w2 e2 => ?_⟩
  have k2 := k1.new' e2
  refine Calls.use (asks44c (h.chg k2) _ _ _ _) ?_
  rintro _ w3 ⟨rfl, k3⟩
  exact ⟨_, rfl, bcT rfl ⟨rfl, k2.trans k3⟩⟩
theorem signal52c (h : Cls w p) (task n : Int) : Calls Try.prog 52 #[.pointer p, .int .i64 task, .int .i64 n] w (Ret fun v w' => v = .tuple #[.slice none 0 0, .int .i64 6] ∧ Chg none_ w w') := by
  refine f52.calls _ _ _ ?_
  unfold f52.wp
  refine Calls.use (sizes43c h) ?_
  rintro _ w1 ⟨rfl, k1⟩
  refine ⟨_, _, _, _, rfl, fun w2 e2 => ?_⟩
  have k2 := k1.new' e2
  refine Calls.use (asks44c (h.chg k2) _ _ _ _) ?_
  rintro _ w3 ⟨rfl, k3⟩
  exact ⟨_, rfl, bcT rfl ⟨rfl, k2.trans k3⟩⟩
theorem broadcast53c (h : Cls w p) (task n : Int) : Calls Try.prog 53 #[.pointer p, .int .i64 task, .int .i64 n] w (Ret fun v w' => v = .tuple #[.slice none 0 0, .int .i64 6] ∧ Chg none_ w w') := by
  refine f53.calls _ _ _ ?_
  unfold f53.wp
  refine Calls.use (sizes43c h) ?_
  rintro _ w1 ⟨rfl, k1⟩
  refine ⟨_, _, _, _, rfl, fun w2 e2 => ?_⟩
  have k2 := k1.new' e2
  refine Calls.use (asks44c (h.chg k2) _ _ _ _) ?_
  rintro _ w3 ⟨rfl, k3⟩
  exact ⟨_, rfl, bcT rfl ⟨rfl, k2.trans k3⟩⟩
theorem add54c (h : Cls w p) (task n by_ : Int) : Calls Try.prog 54 #[.pointer p, .int .i64 task, .int .i64 n, .int .i64 by_] w (Ret fun v w' => v = .tuple #[.int .i64 0, .int .i64 6] ∧ Chg none_ w w') := by
  refine f54.calls _ _ _ _ ?_
  unfold f54.wp
  refine Calls.use (sizes43c h) ?_
  rintro _ w1 ⟨rfl, k1⟩
  refine ⟨_, _, _, _, rfl, fun w2 e2 => ?_⟩
  have k2 := k1.new' e2
  refine Calls.use (asks44c (h.chg k2) _ _ _ _) ?_
  rintro _ w3 ⟨rfl, k3⟩
  exact ⟨_, rfl, bcT rfl ⟨rfl, k2.trans k3⟩⟩
theorem rlock47c (h : Cls w p) (task n : Int) : Calls Try.prog 47 #[.pointer p, .int .i64 task, .int .i64 n] w (Ret fun v w' => v = .tuple #[.bool false, .int .i64 6] ∧ Chg none_ w w') := by
  refine f47.calls _ _ _ ?_
  unfold f47.wp
  refine Calls.use (take85c h task n 3) ?_
  rintro _ w1 ⟨rfl, k1⟩
  exact ⟨_, _, rfl, rfl, k1⟩
theorem wlock49c (h : Cls w p) (task n : Int) : Calls Try.prog 49 #[.pointer p, .int .i64 task, .int .i64 n] w (Ret fun v w' => v = .tuple #[.bool false, .int .i64 6] ∧ Chg none_ w w') := by
  refine f49.calls _ _ _ ?_
  unfold f49.wp
  refine Calls.use (take85c h task n 5) ?_
  rintro _ w1 ⟨rfl, k1⟩
  exact ⟨_, _, rfl, rfl, k1⟩
theorem holds21c (h : Cls w p) (task : Int) : Calls Try.prog 21 #[.pointer p, .int .i64 task] w (Ret fun v w' => v = .slice none 0 0 ∧ Chg none_ w w') := by
  refine f21.calls _ _ ?_
  unfold f21.wp
  refine ⟨ptrOk_none _ _, ?_⟩
  rcases h with rfl | ⟨b, rfl, B⟩
  · exact bcT rfl ⟨rfl, Chg.refl _ _⟩
  refine bcF rfl (bc (fun _ => ⟨rfl, Chg.refl _ _⟩) fun _ => onPtr_mk ⟨_, _, _, (B.cell 0).trans rfl, fun q l c x w' => q = none ∧ l = 0 ∧ c = 0 ∧ x = 0 ∧ w = w', fun _ _ _ _ _ => 0, ⟨rfl, rfl, rfl, rfl, rfl⟩, ?_⟩)
  rintro _ _ _ _ _ ⟨rfl, rfl, rfl, rfl, rfl⟩
  refine bcF rfl (onPtr_mk ⟨_, _, _, (B.cell0 1).trans rfl, fun q l c x w' => q = none ∧ l = 0 ∧ c = 0 ∧ x = 0 ∧ w = w', fun _ _ _ _ _ => 0, ⟨rfl, rfl, rfl, rfl, rfl⟩, ?_⟩)
  rintro _ _ _ _ _ ⟨rfl, rfl, rfl, rfl, rfl⟩
  exact bcF rfl ⟨rfl, Chg.refl _ _⟩
def dflt : Array Value := #[.bool false, .slice none 0 0, .int .i64 0, .int .i64 0]
theorem told_endc {w4 : World} {a b j : Nat} {v : Value} {e : Int} {C : Value → World → Prop} (T4 : Blk w4 a 42 dflt) (D4 : Blk w4 b 42 dflt) (hab : a ≠ b) (hj : j < 3)
    (hres : putC (putC dflt j [v]) 3 [.int .i64 e] = #[.bool false, .slice none 0 0, .int .i64 0, .int .i64 e]) (hC : ∀ w7, Chg (fun k => k = a ∨ k = b) w4 w7 → C (.agg #[.bool false, .slice none 0 0, .int .i64 0, .int .i64 e]) w7) :
    canStore w4 ⟨a, j, none⟩ 1 ∧ ∀ w5 : World, w5 = setCells (⟨a, j, none⟩ : Addr) 0 [v] w4 → canStore w5 ((⟨a, 0, none⟩ : Addr).add 3) 1 ∧ ∀ w6 : World, w6 = setCells ((⟨a, 0, none⟩ : Addr).add 3) 0 [.int .i64 e] w5 →
      ∃ b2 : Bool, ∃ (q1 : Option Addr) (l1 c1 : Nat), ∃ n5 : Int, ∃ n6 : Int, reads w6 (⟨a, 0, none⟩ : Addr) [.bool b2, .slice q1 l1 c1, .int .i64 n5, .int .i64 n6] ∧ canStore w6 (⟨b, 0, none⟩ : Addr) 4 ∧
      ∀ w7 : World, w7 = setCells (⟨b, 0, none⟩ : Addr) 0 [.bool b2, .slice q1 l1 c1, .int .i64 n5, .int .i64 n6] w6 →
      ∃ b3 : Bool, ∃ (q2 : Option Addr) (l2 c2 : Nat), ∃ n7 : Int, ∃ n8 : Int, reads w7 (⟨b, 0, none⟩ : Addr) [.bool b3, .slice q2 l2 c2, .int .i64 n7, .int .i64 n8] ∧ C (.agg #[.bool b3, .slice q2 l2 c2, .int .i64 n7, .int .i64 n8]) w7 := by
  refine ⟨T4.canStore (by show j + 1 ≤ 4; omega), fun w5 e5 => ?_⟩
  have T5 := T4.sets' e5
  have k5 : Chg (fun k => k = a ∨ k = b) w4 w5 := (Chg.refl _ w4).sets' e5 (.inl (.inl rfl))
  have D5 := D4.far' e5 (fun e => hab e.symm)
  have hsz : (putC dflt (j + 0) [v]).size = 4 := by
    rcases j with _ | _ | _ | j <;> first | rfl | omega
  refine ⟨T5.canStore0 (by rw [hsz]; decide), fun w6 e6 => ?_⟩
  rw [add_mk, Nat.zero_add] at e6
  have T6 := T5.sets' e6
  have k6 : Chg (fun k => k = a ∨ k = b) w5 w6 := (Chg.refl _ w5).sets' e6 (.inl (.inl rfl))
  have D6 := D5.far' e6 (fun e => hab e.symm)
  rw [show putC (putC dflt (j + 0) [v]) (3 + 0) [.int .i64 e] = #[.bool false, .slice none 0 0, .int .i64 0, .int .i64 e] from hres] at T6
  refine ⟨_, _, _, _, _, _, T6.reads0, D6.canStore (by show 0 + 4 ≤ 4; decide), fun w7 e7 => ?_⟩
  have D7 := D6.over e7 rfl
  have k7 : Chg (fun k => k = a ∨ k = b) w6 w7 := (Chg.refl _ w6).sets' e7 (.inl (.inr rfl))
  exact ⟨_, _, _, _, _, _, D7.reads0, hC w7 (k5.trans (k6.trans k7))⟩
theorem does20c (h : Cls w p) (task kind n m : Int) : Calls Try.prog 20 #[.pointer p, .agg #[.int .i64 task, .int .i64 kind, .int .i64 n, .int .i64 m]] w (Ret fun v w' => ∃ e : Int, v = .agg #[.bool false, .slice none 0 0, .int .i64 0, .int .i64 e] ∧ (1 ≤ kind → kind ≤ 10 → e = 6) ∧ Chg none_ w w') := by
  refine f20.calls _ _ _ _ _ ?_
  unfold f20.wp
  refine newBox fun w1 B1 k1 s1 => newBox fun w2 D2 k2 s2 => newBox fun w3 T3 k3 s3 => ?_
  have k13 := k2.trans k3
  have k03 := k1.trans k13
  have h3 := h.chg k03
  have B3 := k13.blk B1 (fun x => x)
  have D3 := k3.blk D2 (fun x => x)
  have hab : w2.heap.size ≠ w1.heap.size := by omega
  have fin : ∀ {w4 w7 : World}, Chg none_ w3 w4 → Chg (fun k => k = w2.heap.size ∨ k = w1.heap.size) w4 w7 → Chg none_ w w7 := fun k4 k7 => (k03.trans k4).up k7 fun g hg => by
    have := k1.size
    rcases hg with rfl | rfl <;> omega
  refine ⟨kind, (B3.cell0 1).trans rfl, ?_⟩
  refine bc (fun g => ⟨task, (B3.cell 0).trans rfl, n, (B3.cell0 2).trans rfl, Calls.use (lock18c h3 task n) ?_⟩) fun g1 => ?_
  · rintro _ w4 ⟨rfl, k4⟩
    refine ⟨_, _, rfl, ?_⟩
    have := told_endc (j := 0) (v := .bool false) (e := 6) (C := fun v w' => ∃ e : Int, v = .agg #[.bool false, .slice none 0 0, .int .i64 0, .int .i64 e] ∧ (1 ≤ kind → kind ≤ 10 → e = 6) ∧ Chg none_ w w') (k4.blk T3 (fun x => x)) (k4.blk D3 (fun x => x)) hab (by decide) rfl fun w7 k7 => ⟨6, rfl, fun _ _ => rfl, fin k4 k7⟩
    exact this
  refine bc (fun g => ⟨task, (B3.cell 0).trans rfl, n, (B3.cell0 2).trans rfl, Calls.use (unlock19c h3 task n) ?_⟩) fun g2 => ?_
  · rintro _ w4 ⟨rfl, k4⟩
    refine ⟨_, _, _, _, rfl, ?_⟩
    have := told_endc (j := 1) (v := .slice none 0 0) (e := 6) (C := fun v w' => ∃ e : Int, v = .agg #[.bool false, .slice none 0 0, .int .i64 0, .int .i64 e] ∧ (1 ≤ kind → kind ≤ 10 → e = 6) ∧ Chg none_ w w') (k4.blk T3 (fun x => x)) (k4.blk D3 (fun x => x)) hab (by decide) rfl fun w7 k7 => ⟨6, rfl, fun _ _ => rfl, fin k4 k7⟩
    rw [add_mk, Nat.zero_add]
    rw [add_mk, Nat.zero_add] at this
    exact this
  refine bc (fun g => ⟨task, (B3.cell 0).trans rfl, n, (B3.cell0 2).trans rfl, Calls.use (rlock47c h3 task n) ?_⟩) fun g3 => ?_
  · rintro _ w4 ⟨rfl, k4⟩
    refine ⟨_, _, rfl, ?_⟩
    have := told_endc (j := 0) (v := .bool false) (e := 6) (C := fun v w' => ∃ e : Int, v = .agg #[.bool false, .slice none 0 0, .int .i64 0, .int .i64 e] ∧ (1 ≤ kind → kind ≤ 10 → e = 6) ∧ Chg none_ w w') (k4.blk T3 (fun x => x)) (k4.blk D3 (fun x => x)) hab (by decide) rfl fun w7 k7 => ⟨6, rfl, fun _ _ => rfl, fin k4 k7⟩
    exact this
  refine bc (fun g => ⟨task, (B3.cell 0).trans rfl, n, (B3.cell0 2).trans rfl, Calls.use (runlock48c h3 task n) ?_⟩) fun g4 => ?_
  · rintro _ w4 ⟨rfl, k4⟩
    refine ⟨_, _, _, _, rfl, ?_⟩
    have := told_endc (j := 1) (v := .slice none 0 0) (e := 6) (C := fun v w' => ∃ e : Int, v = .agg #[.bool false, .slice none 0 0, .int .i64 0, .int .i64 e] ∧ (1 ≤ kind → kind ≤ 10 → e = 6) ∧ Chg none_ w w') (k4.blk T3 (fun x => x)) (k4.blk D3 (fun x => x)) hab (by decide) rfl fun w7 k7 => ⟨6, rfl, fun _ _ => rfl, fin k4 k7⟩
    rw [add_mk, Nat.zero_add]
    rw [add_mk, Nat.zero_add] at this
    exact this
  refine bc (fun g => ⟨task, (B3.cell 0).trans rfl, n, (B3.cell0 2).trans rfl, Calls.use (wlock49c h3 task n) ?_⟩) fun g5 => ?_
  · rintro _ w4 ⟨rfl, k4⟩
    refine ⟨_, _, rfl, ?_⟩
    have := told_endc (j := 0) (v := .bool false) (e := 6) (C := fun v w' => ∃ e : Int, v = .agg #[.bool false, .slice none 0 0, .int .i64 0, .int .i64 e] ∧ (1 ≤ kind → kind ≤ 10 → e = 6) ∧ Chg none_ w w') (k4.blk T3 (fun x => x)) (k4.blk D3 (fun x => x)) hab (by decide) rfl fun w7 k7 => ⟨6, rfl, fun _ _ => rfl, fin k4 k7⟩
    exact this
  refine bc (fun g => ⟨task, (B3.cell 0).trans rfl, n, (B3.cell0 2).trans rfl, Calls.use (wunlock50c h3 task n) ?_⟩) fun g6 => ?_
  · rintro _ w4 ⟨rfl, k4⟩
    refine ⟨_, _, _, _, rfl, ?_⟩
    have := told_endc (j := 1) (v := .slice none 0 0) (e := 6) (C := fun v w' => ∃ e : Int, v = .agg #[.bool false, .slice none 0 0, .int .i64 0, .int .i64 e] ∧ (1 ≤ kind → kind ≤ 10 → e = 6) ∧ Chg none_ w w') (k4.blk T3 (fun x => x)) (k4.blk D3 (fun x => x)) hab (by decide) rfl fun w7 k7 => ⟨6, rfl, fun _ _ => rfl, fin k4 k7⟩
    rw [add_mk, Nat.zero_add]
    rw [add_mk, Nat.zero_add] at this
    exact this
  refine bc (fun g => ⟨task, (B3.cell 0).trans rfl, n, (B3.cell0 2).trans rfl, m, (B3.cell0 3).trans rfl, Calls.use (wait51c h3 task n m) ?_⟩) fun g7 => ?_
  · rintro _ w4 ⟨rfl, k4⟩
    refine ⟨_, _, _, _, rfl, ?_⟩
    have := told_endc (j := 1) (v := .slice none 0 0) (e := 6) (C := fun v w' => ∃ e : Int, v = .agg #[.bool false, .slice none 0 0, .int .i64 0, .int .i64 e] ∧ (1 ≤ kind → kind ≤ 10 → e = 6) ∧ Chg none_ w w') (k4.blk T3 (fun x => x)) (k4.blk D3 (fun x => x)) hab (by decide) rfl fun w7 k7 => ⟨6, rfl, fun _ _ => rfl, fin k4 k7⟩
    rw [add_mk, Nat.zero_add]
    rw [add_mk, Nat.zero_add] at this
    exact this
  refine bc (fun g => ⟨task, (B3.cell 0).trans rfl, n, (B3.cell0 2).trans rfl, Calls.use (signal52c h3 task n) ?_⟩) fun g8 => ?_
  · rintro _ w4 ⟨rfl, k4⟩
    refine ⟨_, _, _, _, rfl, ?_⟩
    have := told_endc (j := 1) (v := .slice none 0 0) (e := 6) (C := fun v w' => ∃ e : Int, v = .agg #[.bool false, .slice none 0 0, .int .i64 0, .int .i64 e] ∧ (1 ≤ kind → kind ≤ 10 → e = 6) ∧ Chg none_ w w') (k4.blk T3 (fun x => x)) (k4.blk D3 (fun x => x)) hab (by decide) rfl fun w7 k7 => ⟨6, rfl, fun _ _ => rfl, fin k4 k7⟩
    rw [add_mk, Nat.zero_add]
    rw [add_mk, Nat.zero_add] at this
    exact this
  refine bc (fun g => ⟨task, (B3.cell 0).trans rfl, n, (B3.cell0 2).trans rfl, Calls.use (broadcast53c h3 task n) ?_⟩) fun g9 => ?_
  · rintro _ w4 ⟨rfl, k4⟩
    refine ⟨_, _, _, _, rfl, ?_⟩
    have := told_endc (j := 1) (v := .slice none 0 0) (e := 6) (C := fun v w' => ∃ e : Int, v = .agg #[.bool false, .slice none 0 0, .int .i64 0, .int .i64 e] ∧ (1 ≤ kind → kind ≤ 10 → e = 6) ∧ Chg none_ w w') (k4.blk T3 (fun x => x)) (k4.blk D3 (fun x => x)) hab (by decide) rfl fun w7 k7 => ⟨6, rfl, fun _ _ => rfl, fin k4 k7⟩
    rw [add_mk, Nat.zero_add]
    rw [add_mk, Nat.zero_add] at this
    exact this
  refine bc (fun g => ⟨task, (B3.cell 0).trans rfl, n, (B3.cell0 2).trans rfl, m, (B3.cell0 3).trans rfl, Calls.use (add54c h3 task n m) ?_⟩) fun g10 => ?_
  · rintro _ w4 ⟨rfl, k4⟩
    refine ⟨_, _, rfl, ?_⟩
    have := told_endc (j := 2) (v := .int .i64 0) (e := 6) (C := fun v w' => ∃ e : Int, v = .agg #[.bool false, .slice none 0 0, .int .i64 0, .int .i64 e] ∧ (1 ≤ kind → kind ≤ 10 → e = 6) ∧ Chg none_ w w') (k4.blk T3 (fun x => x)) (k4.blk D3 (fun x => x)) hab (by decide) rfl fun w7 k7 => ⟨6, rfl, fun _ _ => rfl, fin k4 k7⟩
    rw [add_mk, Nat.zero_add]
    rw [add_mk, Nat.zero_add] at this
    exact this
  refine ⟨_, _, _, _, _, _, T3.reads0, D3.canStore (by show 0 + 4 ≤ 4; decide), fun w44 e44 => ?_⟩
  have D44 := D3.over e44 rfl
  have k44 : Chg (fun k => k = w2.heap.size ∨ k = w1.heap.size) w3 w44 := (Chg.refl _ w3).sets' e44 (.inl (.inr rfl))
  refine ⟨_, _, _, _, _, _, D44.reads0, 0, rfl, fun a b => ?_, fin (Chg.refl _ _) k44⟩
  simp at g1 g2 g3 g4 g5 g6 g7 g8 g9 g10
  omega
end
end Go.Proofs.Ytibpbbjlecohiaa
