import Derived.Test.YtglidaifbpjpgaaDoorStJ
set_option maxRecDepth 20000
namespace Go.Proofs.YtglidaifbpjpgaaDoor
open Go Go.Vc Go.RowKit
/-! # the document's histogram -/
structure RI (w : World) (base : Nat) (h : Hs) : Prop where
  blk : Blk w h.b 99 #[.slice h.q1 h.bs.length h.c1, .slice h.q2 (h.bs.length + 1) h.c2, .int .i64 h.tot, .int .i64 h.sum]
  sb : SE En.int w base 3 h.q1 h.bs.length h.c1 h.bs
  sc : SE En.int w base 3 h.q2 (h.bs.length + 1) h.c2 h.cs
  base : base ≤ h.b
  d1 : qB h.q1 ≠ some h.b
  d2 : qB h.q2 ≠ some h.b
  d3 : qB h.q1 ≠ qB h.q2
  good : HG h.bs h.cs h.tot h.sum
/-- what it writes -/
def Hs.rown (h : Hs) (k : Nat) : Prop := k = h.b ∨ some k = qB h.q2
section
variable {w w' : World} {base : Nat} {h : Hs}
theorem RI.chg (H : RI w base h) {S : Nat → Prop} (c : Chg S w w') (hS : ∀ k, h.own k → ¬ S k) : RI w' base h :=
  ⟨c.blk H.blk (hS _ (.inl rfl)), H.sb.chg c (fun g hg => hS g (.inr (.inl hg.symm))), H.sc.chg c (fun g hg => hS g (.inr (.inr hg.symm))), H.base, H.d1, H.d2, H.d3, H.good⟩
theorem RI.chgN (H : RI w base h) (c : Chg none_ w w') : RI w' base h := H.chg c fun _ _ x => x
theorem RI.ownLt (H : RI w base h) {k : Nat} (hk : h.own k) : k < w.heap.size ∧ base ≤ k := by
  rcases hk with rfl | hk | hk
  · exact ⟨H.blk.lt, H.base⟩
  · exact H.sb.lt hk.symm
  · exact H.sc.lt hk.symm
theorem RI.lower (H : RI w base h) {b : Nat} (hb : b ≤ base) : RI w b h :=
  ⟨H.blk, H.sb.lower hb, H.sc.lower hb, Nat.le_trans hb H.base, H.d1, H.d2, H.d3, H.good⟩
end
theorem RI.new {w w' : World} {base : Nat} {q1 q2 : Option Addr} {c1 c2 : Nat} {bs cs : List Int} {tot sum : Int} (s1 : SE En.int w base 3 q1 bs.length c1 bs) (s2 : SE En.int w base 3 q2 (bs.length + 1) c2 cs) (hd : qB q1 ≠ qB q2) (hg : HG bs cs tot sum) (hb : base ≤ w.heap.size)
    (e : w' = w.alloc (.cells #[.slice q1 bs.length c1, .slice q2 (bs.length + 1) c2, .int .i64 tot, .int .i64 sum] 99)) : RI w' base ⟨w.heap.size, q1, c1, q2, c2, bs, cs, tot, sum⟩ ∧ Chg none_ w w' := by
  have k := (Chg.refl none_ w).new' e
  exact ⟨⟨new_blk e, s1.chgN k, s2.chgN k, hb, fun h => absurd (s1.lt h).1 (Nat.lt_irrefl _), fun h => absurd (s2.lt h).1 (Nat.lt_irrefl _), hd, hg⟩, k⟩
theorem empty_lit {w w1 : World} (e : w1 = w.alloc (.cells #[] 3)) : SE En.int w1 w.heap.size 3 (some ⟨w.heap.size, 0, none⟩) 0 0 [] :=
  SE.lit (new_blk e) (Nat.le_refl _) (fun n v hv => by simp [En.flat] at hv) rfl (Nat.le_refl _) (Nat.zero_le _) (by simp)
/-- append([]int{}, xs...) -/
theorem append_lit {w w1 : World} {base b : Nat} {q : Option Addr} {l c : Nat} {xs : List Int} (s : SE En.int w base 3 (some ⟨b, 0, none⟩) 0 0 []) (k : Chg none_ w w1) (h : RE En.int w1 q l xs) (hl : l ≤ 17592186044416) (hbw : base ≤ w.heap.size) :
    ∃ q' c' w2, (Builtin.append_ #[28, 28] 28 #[.slice (some ⟨b, 0, none⟩) 0 0, .slice q l c]).run Tryd.prog w1 = .ok (.slice q' l c') w2 ∧ SE En.int w2 base 3 q' l c' xs ∧ Chg (fun g => g = b) w1 w2 ∧ (qB q' = some b ∨ qB q' = some w1.heap.size) ∧ q' ≠ none := by
  obtain ⟨q', c', w2, hr, s2, k2, hq, _, hn, _⟩ := (s.chgN k).append (t := 28) (ty := 28) (m := l) (c2 := c) elemInt h (by simp only [maxLen]; omega) (by omega) (Nat.le_trans hbw k.size)
  simp only [Nat.zero_add, List.nil_append] at hr s2
  have : qB (some (⟨b, 0, none⟩ : Addr)) = some b := rfl
  rw [this] at hq k2
  exact ⟨q', c', w2, hr, s2, k2.mono (fun g _ hg => by simpa using hg), hq, hn (by simp)⟩
theorem refNew19 {w : World} {q : Option Addr} {l c : Nat} {xs : List Int} (h : RE En.int w q l xs) (hl : l ≤ 9223372036854775807) :
    Calls Tryd.prog 19 #[.slice q l c] w (Ret fun v w' => Chg none_ w w' ∧ ((¬ OkB xs ∧ v = .tuple #[.pointer none, .int .i64 280]) ∨
      (OkB xs ∧ ∃ s : Hs, RI w' w.heap.size s ∧ s.bs = xs ∧ s.cs = List.replicate (l + 1) 0 ∧ s.tot = 0 ∧ s.sum = 0 ∧ v = .tuple #[.pointer (some (ad s.b)), .int .i64 0]))) := by
  refine f19.calls _ _ _ ?_
  unfold f19.wp
  have hlen := h.len
  refine bc (fun hlt => ⟨Chg.refl _ _, .inl ⟨fun hk => ?_, rfl⟩⟩) (fun h1 => bc (fun hgt => ⟨Chg.refl _ _, .inl ⟨fun hk => ?_, rfl⟩⟩) (fun h2 => ?_))
  · have := hk.1; simp at hlt; omega
  · have := hk.2.1; simp at hgt; omega
  have h1 : 1 ≤ l := by simp at h1; omega
  have h2 : l ≤ 64 := by simp at h2; omega
  refine ⟨fun x w1 => ∃ i : Nat, x = i ∧ i ≤ l ∧ Chg none_ w w1 ∧ ∀ j a b, j + 1 < i → xs[j]? = some a → xs[j + 1]? = some b → a < b, fun x _ => l - x.toNat, ⟨0, rfl, Nat.zero_le _, Chg.refl _ _, fun j a b hj => by omega⟩, ?_⟩
  rintro x w1 ⟨i, rfl, hi, k1, hj⟩
  refine bc (fun hlt => ?_) (fun hge => ?_)
  · have hi' : i < l := by simpa using hlt
    have hr := h.chg k1
    obtain ⟨a, u, rfl, hu, hru⟩ := hr.ex hi'
    rw [wrapS (x := (i : Int) + 1) (by omega) (by omega)]
    refine onPtr_mk ⟨by omega, by omega, u, reads_one' hru, bc (fun hpos => ?_) (fun hz => ⟨⟨i + 1, by omega, by omega, k1, fun j x y hj' => by simp at hz; omega⟩, meas hi'⟩)⟩
    have hpos : 0 < i := by simp at hpos; omega
    obtain ⟨a', v, ha', hv, hrv⟩ := hr.ex (i := i - 1) (by omega)
    cases ha'
    rw [wrapS (x := (i : Int) - 1) (by omega) (by omega)]
    refine onPtr_mk ⟨by omega, by omega, v, ?_, bc (fun hle => ⟨k1, .inl ⟨fun hk => ?_, rfl⟩⟩) (fun hgt => ⟨⟨i + 1, by omega, by omega, k1, fun j x y hj' hx hy => ?_⟩, meas hi'⟩)⟩
    · rw [show ((i : Int) - 1).toNat = i - 1 by omega]; exact reads_one' hrv
    · have := hk.2.2 (i - 1) v u hv (by rw [show i - 1 + 1 = i by omega]; exact hu)
      simp at hle; omega
    · rcases Nat.lt_or_ge (j + 1) i with h3 | h3
      · exact hj j x y h3 hx hy
      · have : j + 1 = i := by omega
        subst this
        simp at hgt
        simp at hv
        rw [hx] at hv; rw [hy] at hu
        cases hv; cases hu; exact hgt
  · have hil : i = l := by simp at hge; omega
    subst hil
    have ok : OkB xs := ⟨by omega, by omega, fun j a b ha hb => hj j a b (by have := get_lt hb; omega) ha hb⟩
    have hg := HG.zero ok
    rw [hlen] at hg
    have kd := k1.drew
    have e1 : Int.toNat ((i : Int) + 1) = i + 1 := by omega
    rw [wrapS (x := (i : Int) + 1) (by omega) (by omega), e1]
    generalize w1.drew = w1 at *
    have r1 := h.chg kd
    have fin : ∀ {w3 w4 : World} {q1 q2 : Option Addr} {c1 c2 : Nat}, Chg none_ w1 w3 → SE En.int w3 w1.heap.size 3 q1 i c1 xs → SE En.int w3 w1.heap.size 3 q2 (i + 1) c2 (List.replicate (i + 1) 0) → qB q1 ≠ qB q2 →
        w4 = w3.alloc (.cells #[.slice q1 i c1, .slice q2 (i + 1) c2, .int .i64 0, .int .i64 0] 99) →
        Chg none_ w w4 ∧ ((¬ OkB xs ∧ (.tuple #[.pointer (some ⟨w3.heap.size, 0, none⟩), .int .i64 0] : Value) = .tuple #[.pointer none, .int .i64 280]) ∨
          (OkB xs ∧ ∃ s : Hs, RI w4 w.heap.size s ∧ s.bs = xs ∧ s.cs = List.replicate (i + 1) 0 ∧ s.tot = 0 ∧ s.sum = 0 ∧ (.tuple #[.pointer (some ⟨w3.heap.size, 0, none⟩), .int .i64 0] : Value) = .tuple #[.pointer (some (ad s.b)), .int .i64 0])) := by
      intro w3 w4 q1 q2 c1 c2 k3 s1 s2 hd e
      rw [← hlen] at s1 s2 hg e
      obtain ⟨H, k4⟩ := RI.new s1 s2 hd hg k3.size e
      exact ⟨(kd.trans k3).trans k4, .inr ⟨ok, _, H.lower kd.size, rfl, by rw [← hlen], rfl, rfl, rfl⟩⟩
    have zc : ∀ {wa wb : World} (_ : wb = wa.alloc (.cells (madeCells #[.int .i64 0] ((i + 1) * 1)) 3)) (_ : w1.heap.size ≤ wa.heap.size), SE En.int wb w1.heap.size 3 (some ⟨wa.heap.size, 0, none⟩) (i + 1) (i + 1) (List.replicate (i + 1) 0) := fun e hsz =>
      SE.made (E := En.int) (x := 0) (z := #[.int .i64 0]) (new_blk e) rfl hsz (by simp only [maxLen]; omega)
    refine ⟨fun p => p.block < w1.heap.size, fun w2 e2 => ?_, by omega, Int.le_refl _, by omega, by omega, fun w2 e2 => ?_⟩
    · have k2 := (Chg.refl none_ w1).new' e2
      have z2 := new_size e2
      refine ⟨k2.keeps, ?_, by omega, Int.le_refl _, by omega, by omega, fun w3 e3 => ?_⟩
      · obtain ⟨q3, c3, w3, hr3, s3, k3, hq3, _⟩ := append_lit (c := c) (empty_lit e2) (Chg.refl none_ w2) (r1.chg k2) (by omega) k2.size
        have k13 := Chg.up k2 k3 (fun g hg => by omega)
        refine ⟨q3, _, c3, w3, hr3, k13.keeps, by omega, Int.le_refl _, by omega, by omega, fun w4 e4 => ?_⟩
        have k4 := (Chg.refl none_ w3).new' e4
        refine ⟨(k13.trans k4).keeps, fun w5 e5 => fin (k13.trans k4) (s3.chgN k4) (zc e4 k13.size) (fun h0 => ?_) e5⟩
        exact absurd (s3.lt h0).1 (Nat.lt_irrefl _)
      · have k3 := (Chg.refl none_ w2).new' e3
        have z3 := new_size e3
        obtain ⟨q3, c3, w4, hr3, s4, k4, hq3, _⟩ := append_lit (c := c) (empty_lit e2) k3 ((r1.chg k2).chg k3) (by omega) k2.size
        have k14 := Chg.up (k2.trans k3) k4 (fun g hg => by omega)
        refine ⟨(k2.trans k3).keeps, q3, _, c3, w4, hr3, k14.keeps, fun w5 e5 => fin k14 s4 ((zc e3 k2.size).chg k4 (fun g hg h0 => ?_)) (fun h0 => ?_) e5⟩
        · simp [qB] at hg; omega
        · rcases hq3 with h3 | h3 <;> rw [h3] at h0 <;> simp [qB] at h0 <;> omega
    · have k2 := (Chg.refl none_ w1).new' e2
      have z2 := new_size e2
      refine ⟨k2.keeps, fun w3 e3 => ?_⟩
      have k3 := (Chg.refl none_ w2).new' e3
      have z3 := new_size e3
      obtain ⟨q3, c3, w4, hr3, s4, k4, hq3, _⟩ := append_lit (c := c) (empty_lit e3) (Chg.refl none_ w3) ((r1.chg k2).chg k3) (by omega) k3.size
      have k14 := Chg.up (k2.trans k3) k4 (fun g hg => by omega)
      refine ⟨(k2.trans k3).keeps, q3, _, c3, w4, hr3, k14.keeps, fun w5 e5 => fin k14 (s4.lower k2.size) (((zc e2 (Nat.le_refl _)).chgN k3).chg k4 (fun g hg h0 => ?_)) (fun h0 => ?_) e5⟩
      · simp [qB] at hg; omega
      · rcases hq3 with h3 | h3 <;> rw [h3] at h0 <;> simp [qB] at h0 <;> omega
end Go.Proofs.YtglidaifbpjpgaaDoor
