import Derived.Test.YtibpbbjlecohiaaW
import Derived.Test.YtibpbbjlecohiaaDel
import Derived.Test.YtibpbbjlecohiaaMp
set_option maxRecDepth 20000
namespace Go.Proofs.Ytibpbbjlecohiaa
open Go Go.Vc Go.RowKit
abbrev iv (x : Int) : Value := .int .i64 x
abbrev ad (b : Nat) : Addr := ⟨b, 0, none⟩
structure Wt where
  task : Int
  write : Bool
  mutex : Int
def En.wt : En Wt := ⟨3, fun x => [.int .i64 x.task, .bool x.write, .int .i64 x.mutex], fun _ => rfl, fun _ v hv => by simp at hv; rcases hv with rfl | rfl | rfl <;> rfl, by decide⟩
structure MxH where
  owner : Int
  hd : Hd
def En.mxh : En MxH := ⟨2, fun x => [.int .i64 x.owner, .slice x.hd.1 x.hd.2.1 x.hd.2.2], fun _ => rfl, fun _ v hv => by simp at hv; rcases hv with rfl | rfl <;> rfl, by decide⟩
structure Mx where
  owner : Int
  queue : List Wt
theorem elemWt : ElemOk Try.prog 95 106 3 24 := ⟨Try.underlying95, .agg #[.int .i64 0, .bool false, .int .i64 0], by kernel_rfl, rfl⟩
theorem zeroWt (w : World) : (zeroValue 106).run Try.prog w = .ok (.agg #[.int .i64 0, .bool false, .int .i64 0]) w := by kernel_rfl
theorem zeroW3 (w : World) : (zeroValue 47).run Try.prog w = .ok (a3 (0, 0, 0)) w := by kernel_rfl
theorem key3 : Try.prog.underlying 3 = some (.int .i64) := Try.underlying3
theorem run_eqmap {P : Program} {t k e : TypeId} {X Y : Operand} (h : P.underlying t = some (.map k e)) (m : Nat) (w : World) : (eqSem .eql t X Y (.map (some m)) (.map none)).run P w = .ok (.bool false) w := by
  have h1 := run_equal_map_nil (P := P) w t k e (some m) h
  have e1 : binOp .eql t (.map (some m)) (.map none) = (do pure (.bool (← Op.equal t (.map (some m)) (.map none)))) := rfl
  simp only [eqSem, eqGuard_at_map, pure_bind, e1, Sem.run_bind, h1, Result.andThen_ok, Sem.run_pure]
  rfl
theorem Mp.ne {P : Program} {k : TypeId} {w : World} {b n : Nat} {f : Int → Option W3} (h : Mp P k w b n f) {g : Nat} {t : TypeId} {cs : Array Value} (B : Blk w g t cs) : b ≠ g := fun hb => by
  obtain ⟨D, ⟨es, clock, hh, _⟩, _⟩ := h.ex
  subst hb
  rw [Blk, hh] at B
  cases B
/-- slices.Delete(s, 0, 1) -/
theorem delete84 {w : World} {base : Nat} {q : Option Addr} {l c : Nat} {x : Wt} {xs : List Wt} (h : SE En.wt w base 106 q l c (x :: xs)) :
    Calls Try.prog 84 #[.slice q l c, .int .i64 0, .int .i64 1] w (Ret fun v w' => v = .slice q (l - 1) c ∧ SE En.wt w' base 106 q (l - 1) c xs ∧ Chg (fun k => some k = qB q) w w') := by
  refine f84.calls _ _ _ _ _ ?_
  unfold f84.wp
  have hl : xs.length + 1 = l := h.len
  have hle := h.le
  have hq : q ≠ none := fun hq => by
    obtain ⟨a, ha, _⟩ := h.can (i := 0) (by omega)
    rw [hq] at ha; cases ha
  obtain ⟨q', l', c', hr⟩ := run_sliceAt_ijn (P := Try.prog) elemWt q l c 0 1 l (by omega) (by omega) (by omega) w
  refine ⟨q', l', c', w, hr, bcF rfl ⟨by omega, by omega, by omega, by omega, ?_⟩⟩
  have h0 := (h.take (n := 0) (by omega)).drew
  have h1 := (h.re.cut (n := 1) (c := c) (by omega) hle).drew
  obtain ⟨w2, hrun, S2, k2⟩ := SE.appendIn (P := Try.prog) (t := 95) (ty := 95) (c2 := c - 1) h0 elemWt h1 (by omega)
  simp only [Nat.zero_add, List.take_zero, List.nil_append] at hrun S2
  refine ⟨_, _, _, w2, hrun, by omega, by omega, by omega, by omega, ?_⟩
  obtain ⟨w3, hrun3, S3, k3⟩ := SE.clear1 (P := Try.prog) (t := 95) (ty := 0) S2 hq Try.underlying95 zeroWt (by decide) rfl (by omega)
  have e1 : Int.toNat (l : Int) - Int.toNat ((l - 1 : Nat) : Int) = 1 := by omega
  refine ⟨w3, ?_, rfl, S3, k2.of_drew.trans k3⟩
  rw [e1]
  exact hrun3
/-! # the latches -/
structure Inv (w : World) (base N Q o : Nat) (ms : List Mx) (wt : Int → Option W3) : Prop where
  ex : ∃ qm cm q2 l2 c2 q3 l3 c3 q4 l4 c4 m n hs, Blk w o 89 #[.slice qm ms.length cm, .slice q2 l2 c2, .slice q3 l3 c3, .slice q4 l4 c4, .map (some m)] ∧ base ≤ o ∧
    SE En.mxh w base 97 qm ms.length cm hs ∧ hs.map MxH.owner = ms.map Mx.owner ∧ RowsE En.wt w base 106 (hs.map MxH.hd) (ms.map Mx.queue) ∧ Mp Try.prog 3 w m n wt ∧ base ≤ m ∧ n ≤ N ∧ (∀ x ∈ ms, x.queue.length ≤ Q) ∧ ∀ x ∈ ms, ∀ y ∈ x.queue, ok64 y.task
theorem Inv.chgN {w w' : World} {base N Q o : Nat} {ms : List Mx} {wt : Int → Option W3} (h : Inv w base N Q o ms wt) (k : Chg none_ w w') : Inv w' base N Q o ms wt := by
  obtain ⟨qm, cm, q2, l2, c2, q3, l3, c3, q4, l4, c4, m, n, hs, B, hb, S, ho, R, M, hm, hn, hN⟩ := h.ex
  exact ⟨qm, cm, q2, l2, c2, q3, l3, c3, q4, l4, c4, m, n, hs, k.blk B (fun x => x), hb, S.chgN k, ho, R.chgN k, M.chg k (fun x => x), hm, hn, hN⟩
theorem Inv.up {w : World} {base N N' Q Q' o : Nat} {ms : List Mx} {wt : Int → Option W3} (h : Inv w base N Q o ms wt) (hN : N ≤ N') (hQ : Q ≤ Q') : Inv w base N' Q' o ms wt := by
  obtain ⟨qm, cm, q2, l2, c2, q3, l3, c3, q4, l4, c4, m, n, hs, B, hb, S, ho, R, M, hm, hn, hq⟩ := h.ex
  exact ⟨qm, cm, q2, l2, c2, q3, l3, c3, q4, l4, c4, m, n, hs, B, hb, S, ho, R, M, hm, by omega, fun x hx => Nat.le_trans (hq.1 x hx) hQ, hq.2⟩
theorem sizes43 {w : World} {base N Q o : Nat} {ms : List Mx} {wt : Int → Option W3} (h : Inv w base N Q o ms wt) :
    Calls Try.prog 43 #[.pointer (some (ad o))] w (Ret fun v w' => ∃ a b c : Int, v = .tuple #[.int .i64 (ms.length : Int), .int .i64 a, .int .i64 b, .int .i64 c] ∧ Chg none_ w w') := by
  obtain ⟨qm, cm, q2, l2, c2, q3, l3, c3, q4, l4, c4, m, n, hs, B, _⟩ := h.ex
  refine f43.calls _ ?_
  unfold f43.wp
  have B' := B.drew
  exact ⟨ptrOk_none _ _, bcF rfl (onPtr_mk ⟨_, _, _, (B'.cell 0).trans rfl, onPtr_mk ⟨_, _, _, (B'.cell0 1).trans rfl, onPtr_mk ⟨_, _, _, (B'.cell0 2).trans rfl, onPtr_mk ⟨_, _, _, (B'.cell0 3).trans rfl, _, _, _, rfl, (Chg.refl none_ w).drew⟩⟩⟩⟩)⟩
def askE (task a b : Int) (wt : Int → Option W3) : Int := if task < 0 ∨ 16 ≤ task then 70 else if a < 0 ∨ b ≤ a then 80 else if (wt task).isSome then 83 else 0
theorem asks44 {w : World} {base N Q o : Nat} {ms : List Mx} {wt : Int → Option W3} (h : Inv w base N Q o ms wt) {g : Nat} {a b : Int} (task : Int) (G : Blk w g 103 #[.int .i64 a, .int .i64 b]) :
    Calls Try.prog 44 #[.pointer (some (ad o)), .int .i64 task, .slice (some (ad g)) 1 1] w (Ret fun v w' => v = .int .i64 (askE task a b wt) ∧ Chg none_ w w') := by
  obtain ⟨qm, cm, q2, l2, c2, q3, l3, c3, q4, l4, c4, m, n, hs, B, _, _, _, _, M, _⟩ := h.ex
  refine f44.calls _ _ _ _ _ ?_
  unfold f44.wp
  refine ⟨fun x w' => x = false ∧ w = w', ?_, ptrOk_none _ _, bcF rfl (onPtr_mk ⟨_, (B.cell0 4).trans rfl, _, w, run_eqmap Try.underlying87 m w, rfl, rfl⟩)⟩
  rintro _ _ ⟨rfl, rfl⟩
  refine bcF rfl (bc (fun h => ⟨?_, Chg.refl _ _⟩) (fun h0 => bc (fun h => ⟨?_, Chg.refl _ _⟩) (fun h1 => ?_)))
  · have h := of_decide_eq_true h
    rw [askE, if_pos (.inl h)]
  · have h := of_decide_eq_true h
    rw [askE, if_pos (.inr h)]
  have h0 := of_decide_eq_false h0
  have h1 := of_decide_eq_false h1
  have e1 : askE task a b wt = if a < 0 ∨ b ≤ a then 80 else if (wt task).isSome then 83 else 0 := by rw [askE, if_neg (by omega)]
  refine ⟨fun x w' => (x = 0 ∨ x = 1 ∧ ¬ (a < 0 ∨ b ≤ a)) ∧ Chg none_ w w', fun x _ => (1 - x).toNat, ⟨.inl rfl, Chg.refl _ _⟩, ?_⟩
  rintro x w3 ⟨hx, k3⟩
  rcases hx with rfl | ⟨rfl, hab⟩
  · refine bcT rfl (onPtr_mk ⟨by decide, by decide, _, _, (k3.blk G (fun x => x)).reads0, boxed rfl rfl fun w5 B5 k5 _ => ⟨by decide, by decide, _, (B5.cell 0).trans rfl, ?_⟩⟩)
    have k35 := k3.trans k5
    refine bc (fun h => ⟨?_, k35⟩) (fun h2 => ⟨by decide, by decide, _, (B5.cell 0).trans rfl, by decide, by decide, _, (B5.cell0 1).trans rfl, bc (fun h => ⟨?_, k35⟩) (fun h3 => ⟨⟨.inr ⟨rfl, ?_⟩, k35⟩, show 0 < 1 by decide⟩)⟩)
    · have h := of_decide_eq_true h
      rw [e1, if_pos (.inl h)]
    · have h := of_decide_eq_true h
      rw [e1, if_pos (.inr h)]
    · have := of_decide_eq_false h2; have := of_decide_eq_false h3; omega
  · have M3 := M.chg k3 (fun x => x)
    have hlook := M3.look (t := 87) (e := 47) key3 Try.underlying87 zeroW3 (x := task) (by simp [ok64, Lit.wf, IntKind.min, IntKind.max, IntKind.signed, IntKind.bits]; omega)
    refine bcF rfl (onPtr_mk ⟨_, ((k3.blk B (fun x => x)).cell0 4).trans rfl, _, _, _, _, w3, hlook, boxed rfl rfl fun w8 B8 k8 _ => ?_⟩)
    rw [e1, if_neg hab]
    refine bc (fun h => ⟨by rw [if_pos h], k3.trans k8⟩) (fun h => ⟨by rw [h]; rfl, k3.trans k8⟩)
end Go.Proofs.Ytibpbbjlecohiaa
