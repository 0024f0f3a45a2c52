import Derived.Test.YtglidaifbpjpgaaDoorStA
import Derived.Test.YtglidaifbpjpgaaDoorShelf
set_option maxRecDepth 20000
namespace Go.Proofs.YtglidaifbpjpgaaDoor
open Go Go.Vc Go.RowKit
abbrev ad (b : Nat) : Addr := ⟨b, 0, none⟩
theorem _root_.Go.Vc.Chg.drewN {S : Nat → Prop} {a w : World} (h : Chg S a w) (q : Nat) : Chg S a (w.drewN q) := ⟨h.os, h.tape, h.output, h.size, h.block⟩
/-- bounds that may be -/
def OkB (xs : List Int) : Prop := 1 ≤ xs.length ∧ xs.length ≤ 64 ∧ ∀ i a b, xs[i]? = some a → xs[i + 1]? = some b → a < b
theorem OkB.lt {xs : List Int} (h : OkB xs) : ∀ (d i : Nat) (a b : Int), xs[i]? = some a → xs[i + d + 1]? = some b → a < b
  | 0, i, a, b, ha, hb => h.2.2 i a b ha hb
  | d + 1, i, a, b, ha, hb => by
    have := get_lt hb
    obtain ⟨c, hc⟩ := get_ex (l := xs) (i := i + 1) (by omega)
    have h1 := h.2.2 i a c ha hc
    have h2 := OkB.lt h d (i + 1) c b hc (by rw [show i + 1 + d + 1 = i + (d + 1) + 1 by omega]; exact hb)
    omega
theorem OkB.pair {xs : List Int} (h : OkB xs) : xs.Pairwise (· < ·) := by
  rw [List.pairwise_iff_getElem]
  intro i j hi hj hij
  have := h.lt (j - i - 1) i xs[i] xs[j] (List.getElem?_eq_getElem hi) (by rw [show i + (j - i - 1) + 1 = j by omega]; exact List.getElem?_eq_getElem hj)
  exact this
structure Hs where
  b : Nat
  q1 : Option Addr
  c1 : Nat
  q2 : Option Addr
  c2 : Nat
  bs : List Int
  cs : List Int
  tot : Int
  sum : Int
/-- what the numbers of a histogram keep -/
structure HG (bs cs : List Int) (tot sum : Int) : Prop where
  ok : OkB bs
  len : cs.length = bs.length + 1
  pos : ∀ x ∈ cs, 0 ≤ x
  all : cs.sum = tot
  t0 : 0 ≤ tot
  t1 : tot ≤ 2147483647
  s0 : 0 ≤ sum
  s1 : sum ≤ tot * 2147483647
theorem sum_mem : ∀ {l : List Int}, (∀ x ∈ l, 0 ≤ x) → 0 ≤ l.sum ∧ ∀ x ∈ l, x ≤ l.sum
  | [], _ => by simp
  | a :: l, h => by
    obtain ⟨h1, h2⟩ := sum_mem (l := l) fun x hx => h x (by simp [hx])
    have h0 := h a (by simp)
    simp only [List.sum_cons]
    refine ⟨by omega, fun x hx => ?_⟩
    rcases List.mem_cons.1 hx with rfl | hx
    · omega
    · have := h2 x hx; omega
structure HI (w : World) (base : Nat) (h : Hs) : Prop where
  blk : Blk w h.b 57 #[.slice h.q1 h.bs.length h.c1, .slice h.q2 (h.bs.length + 1) h.c2, .int .i64 h.tot, .int .i64 h.sum]
  sb : SE En.int w base 3 h.q1 h.bs.length h.c1 h.bs
  sc : SE En.int w base 3 h.q2 (h.bs.length + 1) h.c2 h.cs
  base : base ≤ h.b
  n1 : h.q1 ≠ none
  d1 : qB h.q1 ≠ some h.b
  d2 : qB h.q2 ≠ some h.b
  d3 : qB h.q1 ≠ qB h.q2
  good : HG h.bs h.cs h.tot h.sum
def Hs.own (h : Hs) (k : Nat) : Prop := k = h.b ∨ some k = qB h.q1 ∨ some k = qB h.q2
section
variable {w w' : World} {base : Nat} {h : Hs}
theorem HI.chg (H : HI w base h) {S : Nat → Prop} (c : Chg S w w') (hS : ∀ k, h.own k → ¬ S k) : HI w' base h :=
  ⟨c.blk H.blk (hS _ (.inl rfl)), H.sb.chg c (fun g hg => hS g (.inr (.inl hg.symm))), H.sc.chg c (fun g hg => hS g (.inr (.inr hg.symm))), H.base, H.n1, H.d1, H.d2, H.d3, H.good⟩
theorem HI.chgN (H : HI w base h) (c : Chg none_ w w') : HI w' base h := H.chg c fun _ _ x => x
theorem HI.ownLt (H : HI w base h) {k : Nat} (hk : h.own k) : k < w.heap.size ∧ base ≤ k := by
  rcases hk with rfl | hk | hk
  · exact ⟨H.blk.lt, H.base⟩
  · exact H.sb.lt hk.symm
  · exact H.sc.lt hk.symm
theorem HI.lower (H : HI w base h) {b : Nat} (hb : b ≤ base) : HI w b h :=
  ⟨H.blk, H.sb.lower hb, H.sc.lower hb, Nat.le_trans hb H.base, H.n1, H.d1, H.d2, H.d3, H.good⟩
theorem made38 (H : HI w base h) : Calls Tryd.prog 38 #[.pointer (some (ad h.b))] w (Ret fun v w' => v = .bool true ∧ w = w') := by
  refine f38.calls _ ?_
  unfold f38.wp
  refine ⟨ptrOk_none _ _, bcT (by simp) (onPtr_mk ⟨_, _, _, (H.blk.cell 0).trans rfl, _, w, run_neqnil Tryd.underlying28 _ _ _, ?_, rfl⟩)⟩
  rw [isNone_ne H.n1]; rfl
theorem total23 (H : HI w base h) : Calls Tryd.prog 23 #[.pointer (some (ad h.b))] w (Ret fun v w' => v = .int .i64 h.tot ∧ w = w') := by
  refine f23.calls _ ?_
  unfold f23.wp
  exact ⟨ptrOk_none _ _, bcF (by simp) (onPtr_mk ⟨_, (H.blk.cell0 2).trans rfl, rfl, rfl⟩)⟩
theorem sum24 (H : HI w base h) : Calls Tryd.prog 24 #[.pointer (some (ad h.b))] w (Ret fun v w' => v = .int .i64 h.sum ∧ w = w') := by
  refine f24.calls _ ?_
  unfold f24.wp
  exact ⟨ptrOk_none _ _, bcF (by simp) (onPtr_mk ⟨_, (H.blk.cell0 3).trans rfl, rfl, rfl⟩)⟩
theorem counts22 (H : HI w base h) : Calls Tryd.prog 22 #[.pointer (some (ad h.b))] w (Ret fun v w' => ∃ q c, v = .slice q (h.bs.length + 1) c ∧ SE En.int w' w.heap.size 3 q (h.bs.length + 1) c h.cs ∧ Chg none_ w w') := by
  refine f22.calls _ ?_
  unfold f22.wp
  refine Calls.use (made38 H) ?_
  rintro _ _ ⟨rfl, rfl⟩
  have hl := H.good.ok.2.1
  refine ⟨_, rfl, bcF rfl (onPtr_mk ⟨_, _, _, (H.blk.cell0 1).trans rfl, Calls.use (clone37 H.sc.re (by omega) (fun hq => ?_)) ?_⟩)⟩
  · exfalso
    rcases H.sc.ex with ⟨_, h0, _⟩ | ⟨_, _, _, h0, _⟩
    · omega
    · rw [hq] at h0; cases h0
  · rintro _ w2 ⟨q', c', rfl, s, k, _⟩
    exact ⟨_, _, _, rfl, q', c', rfl, s, k⟩
end
/-- a new one -/
theorem HI.new {w w' : World} {base : Nat} {q1 q2 : Option Addr} {c1 c2 : Nat} {bs cs : List Int} {tot sum : Int} (s1 : SE En.int w base 3 q1 bs.length c1 bs) (s2 : SE En.int w base 3 q2 (bs.length + 1) c2 cs) (hn : q1 ≠ none) (hd : qB q1 ≠ qB q2) (hg : HG bs cs tot sum) (hb : base ≤ w.heap.size)
    (e : w' = w.alloc (.cells #[.slice q1 bs.length c1, .slice q2 (bs.length + 1) c2, .int .i64 tot, .int .i64 sum] 57)) : HI w' base ⟨w.heap.size, q1, c1, q2, c2, bs, cs, tot, sum⟩ ∧ Chg none_ w w' := by
  have k := (Chg.refl none_ w).new' e
  exact ⟨⟨new_blk e, s1.chgN k, s2.chgN k, hb, hn, fun h => absurd (s1.lt h).1 (Nat.lt_irrefl _), fun h => absurd (s2.lt h).1 (Nat.lt_irrefl _), hd, hg⟩, k⟩
theorem HG.zero {bs : List Int} (h : OkB bs) : HG bs (List.replicate (bs.length + 1) 0) 0 0 :=
  ⟨h, by simp, fun x hx => by rw [List.eq_of_mem_replicate hx]; exact Int.le_refl _, by simp, by omega, by omega, by omega, by omega⟩
theorem new18 {w : World} {q : Option Addr} {l c : Nat} {xs : List Int} (h : RE En.int w q l xs) (hl : l ≤ 9223372036854775807) (hlc : q = none → l = 0) :
    Calls Tryd.prog 18 #[.slice q l c] w (Ret fun v w' => Chg none_ w w' ∧ ((¬ OkB xs ∧ v = .tuple #[.pointer none, .int .i64 280]) ∨
      (OkB xs ∧ ∃ s : Hs, HI w' w.heap.size s ∧ s.bs = xs ∧ s.cs = List.replicate (l + 1) 0 ∧ s.tot = 0 ∧ s.sum = 0 ∧ v = .tuple #[.pointer (some (ad s.b)), .int .i64 0]))) := by
  refine f18.calls _ _ _ ?_
  unfold f18.wp
  have hlen := h.len
  refine bc (fun hlt => ⟨Chg.refl _ _, .inl ⟨fun hk => ?_, rfl⟩⟩) (fun h1 => bc (fun hgt => ⟨Chg.refl _ _, .inl ⟨fun hk => ?_, rfl⟩⟩) (fun h2 => ?_))
  · have := hk.1; simp at hlt; omega
  · have := hk.2.1; simp at hgt; omega
  have h1 : 1 ≤ l := by simp at h1; omega
  have h2 : l ≤ 64 := by simp at h2; omega
  refine ⟨fun x w1 => ∃ i : Nat, x = i ∧ 1 ≤ i ∧ i ≤ l ∧ Chg none_ w w1 ∧ ∀ j a b, j + 1 < i → xs[j]? = some a → xs[j + 1]? = some b → a < b, fun x _ => l - x.toNat, ⟨1, rfl, Nat.le_refl _, h1, Chg.refl _ _, fun j a b hj => by omega⟩, ?_⟩
  rintro x w1 ⟨i, rfl, hi1, hi, k1, hj⟩
  refine bc (fun hlt => ?_) (fun hge => ?_)
  · have hi' : i < l := by simpa using hlt
    have hr := h.chg k1.drew
    obtain ⟨a, u, rfl, hu, hru⟩ := hr.ex hi'
    obtain ⟨a', v, ha', hv, hrv⟩ := hr.ex (i := i - 1) (by omega)
    cases ha'
    rw [wrapS (x := (i : Int) - 1) (by omega) (by omega), wrapS (x := (i : Int) + 1) (by omega) (by omega)]
    refine onPtr_mk ⟨by omega, by omega, u, reads_one' hru, onPtr_mk ⟨by omega, by omega, v, ?_, bc (fun hle => ⟨k1.drew, .inl ⟨fun hk => ?_, rfl⟩⟩) (fun hgt => ⟨⟨i + 1, by omega, by omega, by omega, k1.drew, fun j x y hj' hx hy => ?_⟩, meas hi'⟩)⟩⟩
    · rw [show ((i : Int) - 1).toNat = i - 1 by omega]; exact reads_one' hrv
    · have := hk.2.2 (i - 1) v u hv (by rw [show i - 1 + 1 = i by omega]; exact hu)
      simp at hle; omega
    · rcases Nat.lt_or_ge (j + 1) i with h3 | h3
      · exact hj j x y h3 hx hy
      · have : j + 1 = i := by omega
        subst this
        simp at hgt
        simp at hv
        rw [hx] at hv; rw [hy] at hu
        cases hv; cases hu; exact hgt
  · have hil : i = l := by simp at hge; omega
    subst hil
    have ok : OkB xs := ⟨by omega, by omega, fun j a b ha hb => hj j a b (by have := get_lt hb; omega) ha hb⟩
    have hg := HG.zero ok
    rw [hlen] at hg
    have kd := k1.drew
    have e1 : Int.toNat ((i : Int) + 1) = i + 1 := by omega
    rw [wrapS (x := (i : Int) + 1) (by omega) (by omega), e1]
    generalize w1.drew = w1 at *
    have r1 := h.chg kd
    refine ⟨fun p => p.block < w1.heap.size, ?_, ?_⟩
    · refine Calls.use (clone37 r1 (by omega) hlc) ?_
      rintro _ w2 ⟨q', c', rfl, s2, k2, hn2⟩
      have hq' : q' ≠ none := fun h0 => by have := hlc (hn2.1 h0); omega
      refine ⟨_, _, _, rfl, k2.keeps, by omega, Int.le_refl _, by omega, by omega, fun w3 e3 => ⟨(k2.new' e3).keeps, fun w4 e4 => ?_⟩⟩
      have k3 := (Chg.refl none_ w2).new' e3
      have B3 := new_blk e3
      have s3 : SE En.int w3 w1.heap.size 3 (some ⟨w2.heap.size, 0, none⟩) (i + 1) (i + 1) (List.replicate (i + 1) 0) := SE.made (E := En.int) (x := 0) (z := #[.int .i64 0]) B3 rfl k2.size (by simp only [maxLen]; omega)
      have s2' := s2.chgN k3
      rw [← hlen] at s2' s3 hg e4
      obtain ⟨H, k4⟩ := HI.new s2' s3 hq' (fun h0 => by simp only [qB, Option.map_some] at h0; have := (s2.lt h0).1; omega) hg (k2.trans k3).size e4
      exact ⟨((kd.trans k2).trans k3).trans k4, .inr ⟨ok, _, H.lower kd.size, rfl, by rw [← hlen], rfl, rfl, rfl⟩⟩
    · refine ⟨by omega, Int.le_refl _, by omega, by omega, fun w2 e2 => ⟨((Chg.refl none_ w1).new' e2).keeps, ?_⟩⟩
      have k2 := (Chg.refl none_ w1).new' e2
      have B2 := new_blk e2
      refine Calls.use (clone37 (r1.chg k2) (by omega) hlc) ?_
      rintro _ w3 ⟨q', c', rfl, s3, k3, hn2⟩
      have hq' : q' ≠ none := fun h0 => by have := hlc (hn2.1 h0); omega
      refine ⟨_, _, _, rfl, (k2.trans k3).keeps, fun w4 e4 => ?_⟩
      have s2 : SE En.int w2 w1.heap.size 3 (some ⟨w1.heap.size, 0, none⟩) (i + 1) (i + 1) (List.replicate (i + 1) 0) := SE.made (E := En.int) (x := 0) (z := #[.int .i64 0]) B2 rfl (Nat.le_refl _) (by simp only [maxLen]; omega)
      have s2' := s2.chgN k3
      have s3' := s3.lower k2.size
      rw [← hlen] at s2' s3' hg e4
      obtain ⟨H, k4⟩ := HI.new s3' s2' hq' (fun h0 => by simp only [qB, Option.map_some] at h0; have := (s3.lt h0).2; have := new_size e2; omega) hg (k2.trans k3).size e4
      exact ⟨((kd.trans k2).trans k3).trans k4, .inr ⟨ok, _, H.lower kd.size, rfl, by rw [← hlen], rfl, rfl, rfl⟩⟩
end Go.Proofs.YtglidaifbpjpgaaDoor
