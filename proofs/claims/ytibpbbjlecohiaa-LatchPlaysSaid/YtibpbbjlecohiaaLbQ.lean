import Derived.Test.YtibpbbjlecohiaaLbP
set_option maxRecDepth 20000
namespace Go.Proofs.Ytibpbbjlecohiaa
namespace Full
open Go Go.Vc Go.RowKit
def En.w3 : En W3 := ⟨3, fun x => [.int .i64 x.1, .int .i64 x.2.1, .int .i64 x.2.2], fun _ => rfl, fun _ v hv => by simp at hv; rcases hv with rfl | rfl | rfl <;> rfl, by decide⟩
theorem elemW3 : ElemOk Try.prog 44 47 3 24 := ⟨Try.underlying44, .agg #[.int .i64 0, .int .i64 0, .int .i64 0], by kernel_rfl, rfl⟩
def hmi (s : S8) (task : Int) (j : Nat) : List W3 := match s.ms[j]? with | some m => if m.owner = task then [(task, 1, (j : Int))] else [] | none => []
def hli (s : S8) (task : Int) (j : Nat) : List W3 := match s.ls[j]? with | some m => (if idxI m.readers task ≥ 0 then [(task, 3, (j : Int))] else []) ++ (if m.writer = task then [(task, 5, (j : Int))] else []) | none => []
def hm (s : S8) (task : Int) (k : Nat) : List W3 := (List.range k).flatMap (hmi s task)
def hl (s : S8) (task : Int) (k : Nat) : List W3 := (List.range k).flatMap (hli s task)
theorem hm_succ (s : S8) (task : Int) (k : Nat) : hm s task (k + 1) = hm s task k ++ hmi s task k := by simp [hm, List.range_succ]
theorem hl_succ (s : S8) (task : Int) (k : Nat) : hl s task (k + 1) = hl s task k ++ hli s task k := by simp [hl, List.range_succ]
/-- Holds -/
def holdsF (s : S8) (task : Int) : List W3 := if task < 0 then [] else hm s task s.ms.length ++ hl s task s.ls.length
section
variable {w w' : World} {base N Q o : Nat} {g : G8} {s : S8}
theorem push44 {w w1 : World} {q : Option Addr} {l c : Nat} {xs : List W3} (A : SE En.w3 w1 w.heap.size 47 q l c xs) (k : Chg none_ w w1) (x : W3) (hl : l ≤ 1000) {t : Nat} (ht : w1.heap.size = t) {C : Option Addr → Nat → Nat → World → Prop}
    (hC : ∀ q' c' w3, SE En.w3 w3 w.heap.size 47 q' (l + 1) c' (xs ++ [x]) → Chg none_ w w3 → (∀ b tt cs, Blk w1 b tt cs → tt ≠ 47 → Blk w3 b tt cs) → C q' (l + 1) c' w3) :
    ∀ w2 : World, w2 = w1.alloc (.cells #[.int .i64 x.1, .int .i64 x.2.1, .int .i64 x.2.2] 47) → ∃ (q4 : Option Addr) (l4 c4 : Nat), ∃ w5 : World, (Builtin.append_ #[44, 44] 44 #[.slice q l c, .slice (some (⟨t, 0, none⟩ : Addr)) 1 1]).run Try.prog w2 = .ok (.slice q4 l4 c4) w5 ∧ C q4 l4 c4 w5 := by
  subst ht
  refine newBox fun w2 B2 k2 _ => ?_
  have k02 := k.trans k2
  obtain ⟨q', c', w3, hrun, A3, k3, _⟩ := (A.chgN k2).append1 (t := 44) (ty := 44) (x := x) elemW3 B2 (by simp only [maxLen]; omega) (by show (l + 1) * 24 ≤ _; omega) k02.size
  refine ⟨q', l + 1, c', w3, hrun, hC q' c' w3 A3 (k02.up k3 fun b hb => ((A.chgN k2).lt hb.symm).2) fun b tt cs B ht => ?_⟩
  have B' := k2.blk B (fun x => x)
  exact k3.blk B' fun e => SE.ne (A.chgN k2) B' ht _ e.symm rfl
theorem holds21 (h : InvG w base N Q o g s) (hQ : Q ≤ 4398046511104) (h64 : s.ms.length ≤ 64) (l64 : s.ls.length ≤ 64) (task : Int) :
    Calls Try.prog 21 #[.pointer (some (ad o)), .int .i64 task] w (Ret fun v w' => ∃ q l c, v = .slice q l c ∧ SE En.w3 w' w.heap.size 47 q l c (holdsF s task) ∧ l ≤ 200 ∧ Chg none_ w w') := by
  refine f21.calls _ _ ?_
  unfold f21.wp
  refine ⟨ptrOk_none _ _, bcF rfl (bc (fun hn => ?_) (fun hn => ?_))⟩
  · have hn := of_decide_eq_true hn
    rw [holdsF, if_pos hn]
    exact ⟨_, _, _, rfl, SE.nil _ _ _ _, by decide, Chg.refl _ _⟩
  have hn : ¬ task < 0 := of_decide_eq_false hn
  rw [holdsF, if_neg hn]
  refine onPtr_mk ⟨_, _, _, (h.obj.cell 0).trans rfl, fun q2 l2 c2 x1 w1 => ∃ (i : Nat) (acc : List W3), x1 = i ∧ i ≤ s.ms.length ∧ SE En.w3 w1 w.heap.size 47 q2 l2 c2 acc ∧ acc = hm s task i ∧ l2 ≤ i ∧ Chg none_ w w1, fun _ _ _ x1 _ => s.ms.length - x1.toNat, ⟨0, [], rfl, Nat.zero_le _, SE.nil _ _ _ _, rfl, Nat.le_refl _, Chg.refl _ _⟩, ?_⟩
  rintro q2 l2 c2 x1 w1 ⟨i, acc, rfl, hi, A1, hacc, hl2, k1⟩
  have h1 := h.chgN k1
  refine bc (fun hlt => ?_) (fun hge => ?_)
  · have hi' : i < s.ms.length := by simpa using hlt
    obtain ⟨mx, hmx⟩ := get_ex hi'
    obtain ⟨a, hx, ha, hhx, hr⟩ := h1.mx.re.ex (i := i) hi'
    obtain ⟨a', hd, ha', hhx', _⟩ := h1.mrow_at hmx
    rw [hhx] at hhx'; cases hhx'
    rw [ha]
    rw [wrapS (x := (i : Int) + 1) (by omega) (by omega)]
    refine onPtr_mk ⟨by omega, by omega, _, _, _, _, hr, boxed rfl rfl fun w3 B3 k3 s3 => ⟨_, (B3.cell 0).trans rfl, ?_⟩⟩
    have k13 := k1.trans k3
    have A3 := A1.chgN k3
    refine bc (fun he => ?_) (fun he => ?_)
    · have he : mx.owner = task := by simpa using he
      have e : hmi s task i = [(task, 1, (i : Int))] := by unfold hmi; rw [hmx]; simp [he]
      refine push44 A3 k13 (task, 1, (i : Int)) (by omega) rfl fun q' c' w5 A5 k5 _ => ⟨⟨i + 1, _, rfl, hi', A5, by rw [hm_succ, e, hacc], by omega, k5⟩, meas hi'⟩
    · have he : ¬ mx.owner = task := by simpa using he
      have e : hmi s task i = [] := by unfold hmi; rw [hmx]; simp [he]
      exact ⟨⟨i + 1, _, rfl, hi', A3, by rw [hm_succ, e, hacc, List.append_nil], by omega, k13⟩, meas hi'⟩
  · have hge : i = s.ms.length := by simp at hge; omega
    subst hge
    refine onPtr_mk ⟨_, _, _, (h1.obj.cell0 1).trans rfl, fun q6 l6 c6 x2 w6 => ∃ (j : Nat) (acc2 : List W3), x2 = j ∧ j ≤ s.ls.length ∧ SE En.w3 w6 w.heap.size 47 q6 l6 c6 acc2 ∧ acc2 = hm s task s.ms.length ++ hl s task j ∧ l6 ≤ 64 + 2 * j ∧ Chg none_ w w6, fun _ _ _ x2 _ => s.ls.length - x2.toNat, ⟨0, acc, rfl, Nat.zero_le _, A1, by rw [hacc]; simp [hl], by omega, k1⟩, ?_⟩
    rintro q6 l6 c6 x2 w6 ⟨j, acc2, rfl, hj, A6, hacc2, hl6, k6⟩
    have h6 := h.chgN k6
    refine bc (fun hlt => ?_) (fun hge => ?_)
    · have hj' : j < s.ls.length := by simpa using hlt
      obtain ⟨lx, hlx⟩ := get_ex hj'
      obtain ⟨a, hr, hd, ha, hhx, Qe, Re, c0, c1, c2⟩ := h6.lrow_at hlx
      obtain ⟨a', hx', ha', hhx', hrd⟩ := h6.lk.re.ex (i := j) hj'
      rw [ha] at ha'; cases ha'
      rw [hhx] at hhx'; cases hhx'
      rw [ha]
      have hrl : lx.readers.length = hr.2.1 := Re.len
      have hrq := h6.rlen hlx
      rw [wrapS (x := (j : Int) + 1) (by omega) (by omega)]
      refine onPtr_mk ⟨by omega, by omega, _, _, _, _, _, _, _, hrd, boxed rfl rfl fun w8 B8 k8 s8 => ?_⟩
      have k08 := k6.trans k8
      have A8 := A6.chgN k8
      have e : hli s task j = (if idxI lx.readers task ≥ 0 then [(task, 3, (j : Int))] else []) ++ (if lx.writer = task then [(task, 5, (j : Int))] else []) := by unfold hli; rw [hlx]
      refine ⟨fun q9 l9 c9 w9 => SE En.w3 w9 w.heap.size 47 q9 l9 c9 (acc2 ++ (if idxI lx.readers task ≥ 0 then [(task, 3, (j : Int))] else [])) ∧ l9 ≤ l6 + 1 ∧ Chg none_ w w9 ∧ w9.cell? ((⟨w6.heap.size, 0, none⟩ : Addr).add 1) = some (.int .i64 lx.writer), ?_, _, _, _, (B8.cell 0).trans rfl, ?_⟩
      · rintro q9 l9 c9 w9 ⟨A9, hl9, k9, hc9⟩
        refine ⟨_, hc9, bc (fun he => ?_) (fun he => ?_)⟩
        · have he : lx.writer = task := by simpa using he
          refine push44 A9 k9 (task, 5, (j : Int)) (by omega) rfl fun q' c' w5 A5 k5 _ => ⟨⟨j + 1, _, rfl, hj', A5, by rw [hl_succ, e, hacc2, if_pos he]; simp, by omega, k5⟩, meas hj'⟩
        · have he : ¬ lx.writer = task := by simpa using he
          exact ⟨⟨j + 1, _, rfl, hj', A9, by rw [hl_succ, e, hacc2, if_neg he]; simp, by omega, k9⟩, meas hj'⟩
      · have Re8 := Re.chgN k8
        refine Calls.mono (f55.calls _ _ _ _ (w := w8) (R := fun v w' => v = .bool (decide (idxI lx.readers task ≥ 0)) ∧ w8 = w') ?_) ?_
        · unfold f55.wp
          refine Calls.use (index86 Re8.re task (by omega)) ?_
          rintro _ _ ⟨rfl, rfl⟩
          exact ⟨_, rfl, rfl, rfl⟩
        · rintro e' w10 ⟨_, rfl, rfl, rfl⟩
          refine ⟨_, rfl, bc (fun he => ?_) (fun he => ?_)⟩
          · have he : idxI lx.readers task ≥ 0 := of_decide_eq_true he
            rw [if_pos he]
            refine push44 A8 k08 (task, 3, (j : Int)) (by omega) rfl fun q' c' w5 A5 k5 hB => ⟨A5, by omega, k5, ((hB _ _ _ B8 (by decide)).cell0 1).trans rfl⟩
          · have he : ¬ idxI lx.readers task ≥ 0 := of_decide_eq_false he
            rw [if_neg he, List.append_nil]
            exact ⟨A8, by omega, k08, (B8.cell0 1).trans rfl⟩
    · have hge : j = s.ls.length := by simp at hge; omega
      subst hge
      exact ⟨_, _, _, rfl, by rw [← hacc2]; exact A6, by omega, k6⟩
end
end Full
end Go.Proofs.Ytibpbbjlecohiaa
