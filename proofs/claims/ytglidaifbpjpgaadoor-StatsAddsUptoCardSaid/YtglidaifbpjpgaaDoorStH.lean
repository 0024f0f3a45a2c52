import Derived.Test.YtglidaifbpjpgaaDoorStG
set_option maxRecDepth 20000
namespace Go.Proofs.YtglidaifbpjpgaaDoor
open Go Go.Vc Go.RowKit
/-- a move -/
structure Mv where
  kind : Int
  key : ByteArray
  val : ByteArray
  err : Int
  hit : Bool
  life : Int
  frm : Int
  to : Int
def En.mv : En Mv := ⟨8, fun m => [.int .i64 m.kind, .string m.key, .string m.val, .int .i64 m.err, .bool m.hit, .int .i64 m.life, .int .i64 m.frm, .int .i64 m.to], fun _ => rfl,
  fun _ v hv => by simp at hv; rcases hv with rfl | rfl | rfl | rfl | rfl | rfl | rfl | rfl <;> rfl, by decide⟩
def takes (z : Int) (m : Mv) : Bool := (m.kind == z) && decide (m.to ≥ 0)
def stepN (m : Mv) : Int := IntKind.wrap .i64 (IntKind.wrap .i64 (m.to - m.frm) + 1)
def stepsL (z : Int) (ms : List Mv) : List Int := ms.filterMap fun m => if takes z m then some (stepN m) else none
theorem stepsL_succ {z : Int} {ms : List Mv} {i : Nat} {m : Mv} (h : ms[i]? = some m) : stepsL z (ms.take (i + 1)) = stepsL z (ms.take i) ++ if takes z m then [stepN m] else [] := by
  rw [List.take_add_one, h]
  simp only [stepsL, List.filterMap_append]
  congr 1
  simp only [Option.toList_some, List.filterMap_cons, List.filterMap_nil]
  split <;> rename_i h <;> split at h <;> simp_all
theorem steps13 {w : World} {q : Option Addr} {l c : Nat} {ms : List Mv} (h : RE En.mv w q l ms) (hl : l ≤ 1759218604440) (z : Int) :
    Calls Tryd.prog 13 #[.slice q l c, .int .i64 z] w (Ret fun v w' => ∃ q' c', v = .slice q' (stepsL z ms).length c' ∧ SE En.int w' w.heap.size 3 q' (stepsL z ms).length c' (stepsL z ms) ∧ Chg none_ w w') := by
  refine f13.calls _ _ _ _ ?_
  unfold f13.wp
  refine ⟨fun q1 l1 c1 x w1 => ∃ i : Nat, x = i ∧ i ≤ l ∧ l1 = (stepsL z (ms.take i)).length ∧ SE En.int w1 w.heap.size 3 q1 l1 c1 (stepsL z (ms.take i)) ∧ Chg none_ w w1, fun _ _ _ x _ => l - x.toNat, ⟨0, rfl, Nat.zero_le _, rfl, SE.nil _ _ _ _, Chg.refl _ _⟩, ?_⟩
  rintro q1 l1 c1 x w1 ⟨i, rfl, hi, rfl, s1, k1⟩
  refine bc (fun hlt => ?_) (fun hge => ?_)
  · have hi' : i < l := by simpa using hlt
    obtain ⟨a, m, rfl, hm, hr⟩ := (h.chg k1).ex hi'
    have hbl : (stepsL z (ms.take i)).length ≤ i := Nat.le_trans (List.length_filterMap_le _ _) (by simp; omega)
    rw [wrapS (x := (i : Int) + 1) (by omega) (by omega)]
    refine onPtr_mk ⟨by omega, by omega, _, _, _, _, _, _, _, _, hr, fun w2 e2 => ?_⟩
    have B2 := new_blk e2
    have k2 := (Chg.refl none_ w1).new' e2
    refine ⟨B2.canStore (by simp), fun w3 e3 => ?_⟩
    have B3 := B2.over e3 rfl
    have k3 : Chg none_ w1 w3 := k2.sets' e3 (.inr (Nat.le_refl _))
    have s3 := s1.chgN k3
    have k13 := k1.trans k3
    clear e2 e3 B2 k2
    refine ⟨fun b w' => b = takes z m ∧ w3 = w', ?_, ?_⟩
    · rintro _ _ ⟨rfl, rfl⟩
      refine bc (fun hb => ?_) (fun hb => ?_)
      · have hst : stepsL z (ms.take (i + 1)) = stepsL z (ms.take i) ++ [stepN m] := by rw [stepsL_succ hm, hb]; rfl
        refine ⟨_, (B3.cell0 7).trans rfl, _, (B3.cell0 6).trans rfl, fun w5 e5 => ?_⟩
        have B5 := new_blk e5
        have k5 := (Chg.refl none_ w3).new' e5
        obtain ⟨q2, c2, w6, hr6, s6, k6, _⟩ := (s3.chgN k5).append1 (t := 28) (ty := 28) (x := stepN m) elemInt B5 (by simp only [maxLen]; omega) (by omega) (k13.trans k5).size
        refine ⟨q2, _, c2, w6, hr6, ⟨i + 1, rfl, hi', by rw [hst]; simp, by rw [hst]; exact s6, (k13.trans k5).up k6 (fun g hg => (s3.lt hg.symm).2)⟩, meas hi'⟩
      · have hst : stepsL z (ms.take (i + 1)) = stepsL z (ms.take i) := by rw [stepsL_succ hm, hb]; simp
        exact ⟨⟨i + 1, rfl, hi', by rw [hst], by rw [hst]; exact s3, k13⟩, meas hi'⟩
    · refine ⟨_, (B3.cell 0).trans rfl, bc (fun hk => ⟨_, (B3.cell0 7).trans rfl, by simp [takes, hk], rfl⟩) (fun hk => ⟨by simp [takes, hk], rfl⟩)⟩
  · have : ms.take i = ms := List.take_of_length_le (by have := h.len; simp at hge; omega)
    rw [this] at s1 ⊢
    exact ⟨q1, c1, rfl, s1, k1⟩
theorem steps17 {w : World} {q : Option Addr} {l c : Nat} {ms : List Mv} (h : RE En.mv w q l ms) (hl : l ≤ 1759218604440) (z : Int) :
    Calls Tryd.prog 17 #[.slice q l c, .int .i64 z] w (Ret fun v w' => ∃ q' c', v = .slice q' (stepsL z ms).length c' ∧ SE En.int w' w.heap.size 3 q' (stepsL z ms).length c' (stepsL z ms) ∧ Chg none_ w w') := by
  refine f17.calls _ _ _ _ ?_
  unfold f17.wp
  refine ⟨fun q1 l1 c1 x w1 => ∃ i : Nat, x = i ∧ i ≤ l ∧ l1 = (stepsL z (ms.take i)).length ∧ SE En.int w1 w.heap.size 3 q1 l1 c1 (stepsL z (ms.take i)) ∧ Chg none_ w w1, fun _ _ _ x _ => l - x.toNat, ⟨0, rfl, Nat.zero_le _, rfl, SE.nil _ _ _ _, Chg.refl _ _⟩, ?_⟩
  rintro q1 l1 c1 x w1 ⟨i, rfl, hi, rfl, s1, k1⟩
  refine bc (fun hlt => ?_) (fun hge => ?_)
  · have hi' : i < l := by simpa using hlt
    obtain ⟨a, m, rfl, hm, hr⟩ := (h.chg k1).ex hi'
    have hbl : (stepsL z (ms.take i)).length ≤ i := Nat.le_trans (List.length_filterMap_le _ _) (by simp; omega)
    rw [wrapS (x := (i : Int) + 1) (by omega) (by omega)]
    refine onPtr_mk ⟨by omega, by omega, _, _, _, _, _, _, _, _, hr, fun w2 e2 => ?_⟩
    have B2 := new_blk e2
    have k2 := (Chg.refl none_ w1).new' e2
    refine ⟨B2.canStore (by simp), fun w3 e3 => ?_⟩
    have B3 := B2.over e3 rfl
    have k3 : Chg none_ w1 w3 := k2.sets' e3 (.inr (Nat.le_refl _))
    have s3 := s1.chgN k3
    have k13 := k1.trans k3
    clear e2 e3 B2 k2
    refine ⟨fun b w' => b = takes z m ∧ w3 = w', ?_, ?_⟩
    · rintro _ _ ⟨rfl, rfl⟩
      refine bc (fun hb => ?_) (fun hb => ?_)
      · have hst : stepsL z (ms.take (i + 1)) = stepsL z (ms.take i) ++ [stepN m] := by rw [stepsL_succ hm, hb]; rfl
        refine ⟨_, (B3.cell0 7).trans rfl, _, (B3.cell0 6).trans rfl, fun w5 e5 => ?_⟩
        have B5 := new_blk e5
        have k5 := (Chg.refl none_ w3).new' e5
        obtain ⟨q2, c2, w6, hr6, s6, k6, _⟩ := (s3.chgN k5).append1 (t := 28) (ty := 28) (x := stepN m) elemInt B5 (by simp only [maxLen]; omega) (by omega) (k13.trans k5).size
        refine ⟨q2, _, c2, w6, hr6, ⟨i + 1, rfl, hi', by rw [hst]; simp, by rw [hst]; exact s6, (k13.trans k5).up k6 (fun g hg => (s3.lt hg.symm).2)⟩, meas hi'⟩
      · have hst : stepsL z (ms.take (i + 1)) = stepsL z (ms.take i) := by rw [stepsL_succ hm, hb]; simp
        exact ⟨⟨i + 1, rfl, hi', by rw [hst], by rw [hst]; exact s3, k13⟩, meas hi'⟩
    · refine ⟨_, (B3.cell 0).trans rfl, bc (fun hk => ⟨_, (B3.cell0 7).trans rfl, by simp [takes, hk], rfl⟩) (fun hk => ⟨by simp [takes, hk], rfl⟩)⟩
  · have : ms.take i = ms := List.take_of_length_le (by have := h.len; simp at hge; omega)
    rw [this] at s1 ⊢
    exact ⟨q1, c1, rfl, s1, k1⟩
end Go.Proofs.YtglidaifbpjpgaaDoor
