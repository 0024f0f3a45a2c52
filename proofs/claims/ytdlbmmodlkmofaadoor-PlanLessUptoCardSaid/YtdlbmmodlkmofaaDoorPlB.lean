import Derived.Test.YtdlbmmodlkmofaaDoorW
import Derived.Test.YtdlbmmodlkmofaaDoorOps
import Derived.Test.YtdlbmmodlkmofaaDoorRg
set_option maxRecDepth 20000
namespace Go.Proofs.YtdlbmmodlkmofaaDoor
open Go Go.Vc Go.RowKit
abbrev iv (x : Int) : Value := .int .i64 x
abbrev ad (b : Nat) : Addr := ⟨b, 0, none⟩
/-- three ints: a fault, a fate -/
abbrev T3 := Int × Int × Int
def En.t3 : En T3 := ⟨3, fun x => [.int .i64 x.1, .int .i64 x.2.1, .int .i64 x.2.2], fun _ => rfl, fun _ v hv => by simp at hv; rcases hv with rfl | rfl | rfl <;> rfl, by decide⟩
/-- a crash, its fates by their head -/
structure CrH where
  step : Int
  rest : Int
  q : Option Addr
  l : Nat
  c : Nat
def En.crh : En CrH := ⟨3, fun x => [.int .i64 x.step, .int .i64 x.rest, .slice x.q x.l x.c], fun _ => rfl, fun _ v hv => by simp at hv; rcases hv with rfl | rfl | rfl <;> rfl, by decide⟩
structure Cr where
  step : Int
  rest : Int
  fates : List T3
structure Gm where
  page : Int
  pages : Int
  regions : Int
  align : Int
abbrev gv (g : Gm) : List Value := [iv g.page, iv g.pages, iv g.regions, iv g.align]
/-! # faults -/
def fR (f : T3) : Bool := decide (1 ≤ f.1) && decide (f.1 ≤ 4) && decide (1 ≤ f.2.1) && decide (f.2.1 ≤ 2147483647) && (f.2.2 == 1 || f.2.2 == 2)
theorem right38 (w : World) (f : T3) : Calls Tryd.prog 38 #[.agg (En.t3.enc f).toArray] w (Ret fun v w' => v = .bool (fR f) ∧ Chg none_ w w') := by
  refine f38.calls _ _ _ ?_
  unfold f38.wp
  refine newBox fun w1 B k _ => ?_
  repeat' (first | refine bc (fun _ => ?_) (fun _ => ?_) | refine ⟨_, (B.cell 0).trans rfl, ?_⟩ | refine ⟨_, (B.cell0 1).trans rfl, ?_⟩ | refine ⟨_, (B.cell0 2).trans rfl, ?_⟩)
  all_goals refine ⟨congrArg Value.bool (Bool.eq_iff_iff.2 ?_), k⟩
  all_goals (simp only [decide_eq_true_eq, decide_eq_false_iff_not, beq_iff_eq, beq_eq_false_iff_ne] at *; simp [fR]; omega)
theorem not37 (w : World) (f : T3) : Calls Tryd.prog 37 #[.agg (En.t3.enc f).toArray] w (Ret fun v w' => v = .bool (!fR f) ∧ Chg none_ w w') := by
  refine f37.calls _ _ _ ?_
  unfold f37.wp
  refine newBox fun w1 B k _ => ⟨_, _, _, B.reads0, Calls.use (right38 w1 f) ?_⟩
  rintro _ w2 ⟨rfl, k2⟩
  exact ⟨_, rfl, rfl, k.trans k2⟩
theorem idx73 {w : World} {q : Option Addr} {l c : Nat} {fs : List T3} (h : RE En.t3 w q l fs) (hl : l ≤ 9223372036854775807) :
    Calls Tryd.prog 73 #[.slice q l c, .func (.func 37) #[] #[]] w (Ret fun v w' => ∃ n : Int, v = .int .i64 n ∧ decide (n ≥ 0) = (!fs.all fR) ∧ Chg none_ w w') := by
  refine f73_37.calls _ _ _ ?_
  unfold f73_37.wp
  have hlen := h.len
  refine ⟨fun x w' => ∃ i : Nat, x = i ∧ i ≤ l ∧ Chg none_ w w' ∧ ∀ j f, j < i → fs[j]? = some f → fR f = true, fun x _ => l - x.toNat, ⟨0, rfl, Nat.zero_le _, Chg.refl _ _, fun j f hj => by omega⟩, ?_⟩
  rintro x w1 ⟨i, rfl, hi, k1, hin⟩
  refine bc (fun hlt => ?_) (fun hge => ?_)
  · have hi' : i < l := by simpa using hlt
    obtain ⟨a, f, rfl, hf, hr⟩ := (h.chg k1).ex hi'
    rw [wrapS (x := (i : Int) + 1) (by omega) (by omega)]
    refine onPtr_mk ⟨by omega, by omega, _, _, _, hr, Calls.use (not37 w1 f) ?_⟩
    rintro _ w2 ⟨rfl, k2⟩
    refine ⟨_, rfl, bc (fun hb => ⟨i, rfl, ?_, k1.trans k2⟩) (fun hb => ⟨⟨i + 1, by omega, hi', k1.trans k2, fun j g hj hg => ?_⟩, meas hi'⟩)⟩
    · have : fs.all fR = false := List.all_eq_false.2 ⟨f, List.mem_of_getElem? hf, by simpa using hb⟩
      rw [this]; simp
    · rcases Nat.lt_or_ge j i with h1 | h1
      · exact hin j g h1 hg
      · have : j = i := by omega
        subst this
        rw [hf] at hg; cases hg
        simpa using hb
  · have : fs.all fR = true := List.all_eq_true.2 fun f hf => by
      obtain ⟨j, hj⟩ := List.getElem?_of_mem hf
      exact hin j f (by have := get_lt hj; simp at hge; omega) hj
    exact ⟨-1, rfl, by rw [this]; rfl, k1⟩
theorem any36 {w : World} {q : Option Addr} {l c : Nat} {fs : List T3} (h : RE En.t3 w q l fs) (hl : l ≤ 9223372036854775807) :
    Calls Tryd.prog 36 #[.slice q l c, .func (.func 37) #[] #[]] w (Ret fun v w' => v = .bool (!fs.all fR) ∧ Chg none_ w w') := by
  refine f36_37.calls _ _ _ ?_
  unfold f36_37.wp
  refine Calls.use (idx73 h hl) ?_
  rintro _ w1 ⟨n, rfl, hn, k1⟩
  exact ⟨_, rfl, by rw [hn], k1⟩
/-! ## cmp -/
def cmpI (a b : Int) : Int := if a < b then -1 else if a > b then 1 else 0
theorem nan96 (w : World) (x : Int) : Calls Tryd.prog 96 #[.int .i64 x] w (Ret fun v w' => v = .bool false ∧ w = w') := by
  refine f96.calls _ ?_
  unfold f96.wp
  exact ⟨by simp, rfl⟩
theorem cmp75 (w : World) (a b : Int) : Calls Tryd.prog 75 #[.int .i64 a, .int .i64 b] w (Ret fun v w' => v = .int .i64 (cmpI a b) ∧ w = w') := by
  refine f75.calls _ _ ?_
  unfold f75.wp
  refine Calls.use (nan96 w a) ?_
  rintro _ _ ⟨rfl, rfl⟩
  refine ⟨_, rfl, Calls.use (nan96 w b) ?_⟩
  rintro _ _ ⟨rfl, rfl⟩
  refine ⟨_, rfl, bcF rfl (bcF rfl (bc (fun h => ⟨?_, rfl⟩) (fun h => bc (fun h' => ⟨?_, rfl⟩) (fun h' => ⟨?_, rfl⟩))))⟩
  · have h : a < b := by simpa using h
    simp [cmpI, h]
  · have h1 : ¬ a < b := by simpa using h
    have h2 : b < a := by simpa using h'
    simp [cmpI, h1, h2]
  · have h1 : ¬ a < b := by simpa using h
    have h2 : ¬ b < a := by simpa using h'
    simp [cmpI, h1, h2]
def firstNZ (l : List Int) : Int := (l.find? (· != 0)).getD 0
theorem or74 {w : World} {q : Option Addr} {l c : Nat} {xs : List Int} (h : RE En.int w q l xs) (hl : l ≤ 9223372036854775807) :
    Calls Tryd.prog 74 #[.slice q l c] w (Ret fun v w' => v = .int .i64 (firstNZ xs) ∧ w = w') := by
  refine f74.calls _ _ _ ?_
  unfold f74.wp
  have hlen := h.len
  refine ⟨fun x w' => ∃ i : Nat, x = i ∧ i ≤ l ∧ w = w' ∧ firstNZ xs = firstNZ (xs.drop i), fun x _ => l - x.toNat, ⟨0, rfl, Nat.zero_le _, rfl, by simp⟩, ?_⟩
  rintro x _ ⟨i, rfl, hi, rfl, he⟩
  refine bc (fun hlt => ?_) (fun hge => ?_)
  · have hi' : i < l := by simpa using hlt
    obtain ⟨a, u, rfl, hu, hr⟩ := h.ex hi'
    have hd : xs.drop i = u :: xs.drop (i + 1) := by
      have := get_lt hu
      rw [List.drop_eq_getElem_cons this]
      rw [List.getElem?_eq_getElem this] at hu
      cases hu; rfl
    rw [wrapS (x := (i : Int) + 1) (by omega) (by omega)]
    refine onPtr_mk ⟨by omega, by omega, u, reads_one' hr, bc (fun hn => ⟨?_, rfl⟩) (fun hn => ⟨⟨i + 1, by omega, hi', rfl, ?_⟩, meas hi'⟩)⟩
    · rw [he, hd]; simp [firstNZ, List.find?, hn]
    · rw [he, hd]; simp [firstNZ, List.find?, hn]
  · have : xs.drop i = [] := List.drop_eq_nil_of_le (by simp at hge; omega)
    rw [he, this]; exact ⟨rfl, rfl⟩
theorem litInts {w w1 : World} {xs : List Int} {cs : Array Value} (e : w1 = w.alloc (.cells cs 3)) (h : cs = (xs.map iv).toArray) : RE En.int w1 (some ⟨w.heap.size, 0, none⟩) xs.length xs := by
  refine RE.of_flat rfl ?_
  have B := new_blk e
  have : ∀ xs : List Int, En.int.flat xs = xs.map iv := fun xs => by
    induction xs with
    | nil => rfl
    | cons x xs ih => simp only [En.flat] at ih ⊢; rw [List.flatMap_cons, ih]; rfl
  rw [this]
  rw [h] at B
  exact B.reads0
def fOrd (a b : T3) : Int := firstNZ [cmpI a.1 b.1, cmpI a.2.1 b.2.1]
theorem ord40 (w : World) (a b : T3) : Calls Tryd.prog 40 #[.agg (En.t3.enc a).toArray, .agg (En.t3.enc b).toArray] w (Ret fun v w' => v = .int .i64 (fOrd a b) ∧ Chg none_ w w') := by
  refine f40.calls _ _ _ _ _ _ ?_
  unfold f40.wp
  refine newBox fun w1 B1 k1 _ => newBox fun w2 B2 k2 _ => ?_
  have B1' := (k2.blk B1 (fun x => x)).drew
  have B2' := B2.drew
  have k02 := (k1.trans k2).drew
  generalize w2.drew = w2 at *
  refine ⟨fun _ => True, _, trivial, (B1'.cell 0).trans rfl, _, trivial, (B2'.cell 0).trans rfl, _, trivial, (B1'.cell0 1).trans rfl, _, trivial, (B2'.cell0 1).trans rfl, Calls.use (cmp75 w2 _ _) ?_⟩
  rintro _ _ ⟨rfl, rfl⟩
  refine ⟨_, rfl, fun _ _ => rfl, Calls.use (cmp75 w2 _ _) ?_⟩
  rintro _ _ ⟨rfl, rfl⟩
  refine ⟨_, rfl, fun w5 e5 => Calls.use (or74 (litInts (xs := [_, _]) e5 rfl) (by decide)) ?_⟩
  rintro _ _ ⟨rfl, rfl⟩
  exact ⟨_, rfl, rfl, k02.new' e5⟩
def tOrd (a b : T3) : Int := cmpI a.1 b.1
theorem ord63 (w : World) (a b : T3) : Calls Tryd.prog 63 #[.agg (En.t3.enc a).toArray, .agg (En.t3.enc b).toArray] w (Ret fun v w' => v = .int .i64 (tOrd a b) ∧ Chg none_ w w') := by
  refine f63.calls _ _ _ _ _ _ ?_
  unfold f63.wp
  refine newBox fun w1 B1 k1 _ => newBox fun w2 B2 k2 _ => ?_
  have B1' := (k2.blk B1 (fun x => x))
  refine ⟨_, (B1'.cell 0).trans rfl, _, (B2.cell 0).trans rfl, Calls.use (cmp75 w2 _ _) ?_⟩
  rintro _ _ ⟨rfl, rfl⟩
  exact ⟨_, rfl, rfl, k1.trans k2⟩
theorem ord45 (w : World) (a b : CrH) : Calls Tryd.prog 45 #[.agg (En.crh.enc a).toArray, .agg (En.crh.enc b).toArray] w (Ret fun v w' => v = .int .i64 (cmpI a.step b.step) ∧ Chg none_ w w') := by
  refine f45.calls _ _ _ _ _ _ _ _ _ _ ?_
  unfold f45.wp
  refine newBox fun w1 B1 k1 _ => newBox fun w2 B2 k2 _ => ?_
  have B1' := (k2.blk B1 (fun x => x))
  refine ⟨_, (B1'.cell 0).trans rfl, _, (B2.cell 0).trans rfl, Calls.use (cmp75 w2 _ _) ?_⟩
  rintro _ _ ⟨rfl, rfl⟩
  exact ⟨_, rfl, rfl, k1.trans k2⟩
/-- each stands ahead of the next -/
def adj {α : Type} (R : α → α → Bool) : List α → Bool
  | a :: b :: l => R a b && adj R (b :: l)
  | _ => true
theorem adj_true {α : Type} {R : α → α → Bool} : ∀ {l : List α}, (∀ i a b, l[i]? = some a → l[i + 1]? = some b → R a b = true) → adj R l = true
  | [], _ => rfl
  | [_], _ => rfl
  | a :: b :: l, h => by
    simp only [adj, h 0 a b rfl rfl, Bool.true_and]
    exact adj_true fun i x y hx hy => h (i + 1) x y (by simpa using hx) (by simpa using hy)
theorem adj_at {α : Type} {R : α → α → Bool} : ∀ {l : List α} {i : Nat} {a b : α}, adj R l = true → l[i]? = some a → l[i + 1]? = some b → R a b = true
  | [], i, a, b, _, h, _ => by simp at h
  | [_], i, a, b, _, _, h => by simp at h
  | x :: y :: l, 0, a, b, h, ha, hb => by
    simp at ha hb
    subst ha; subst hb
    simp only [adj, Bool.and_eq_true] at h
    exact h.1
  | x :: y :: l, i + 1, a, b, h, ha, hb => by
    simp only [adj, Bool.and_eq_true] at h
    exact adj_at (i := i) h.2 (by simpa using ha) (by simpa using hb)
theorem adj_false {α : Type} {R : α → α → Bool} {l : List α} {i : Nat} {a b : α} (ha : l[i]? = some a) (hb : l[i + 1]? = some b) (h : R a b = false) : adj R l = false := by
  cases hh : adj R l with
  | false => rfl
  | true => rw [adj_at hh ha hb] at h; cases h
end Go.Proofs.YtdlbmmodlkmofaaDoor
set_option maxRecDepth 20000
namespace Go.Proofs.YtdlbmmodlkmofaaDoor
open Go Go.Vc Go.RowKit
theorem rises39 {w : World} {q : Option Addr} {l c : Nat} {fs : List T3} (h : RE En.t3 w q l fs) (hl : l ≤ 9223372036854775807) :
    Calls Tryd.prog 39 #[.slice q l c, .func (.func 40) #[] #[]] w (Ret fun v w' => v = .bool (adj (fun a b => decide (fOrd a b < 0)) fs) ∧ Chg none_ w w') := by
  refine f39_40.calls _ _ _ ?_
  unfold f39_40.wp
  have hlen := h.len
  refine ⟨fun x w' => ∃ i : Nat, x = i ∧ 1 ≤ i ∧ Chg none_ w w' ∧ ∀ j a b, j + 1 < i → fs[j]? = some a → fs[j + 1]? = some b → decide (fOrd a b < 0) = true, fun x _ => l - x.toNat, ⟨1, rfl, Nat.le_refl _, Chg.refl _ _, fun j a b hj => by omega⟩, ?_⟩
  rintro x w1 ⟨i, rfl, hi, k1, hin⟩
  refine bc (fun hlt => ?_) (fun hge => ⟨?_, k1⟩)
  · have hi' : i < l := by simpa using hlt
    have hr := h.chg k1.drew
    obtain ⟨a, u, rfl, hu, hru⟩ := hr.ex (i := i - 1) (by omega)
    obtain ⟨a', v, ha', hv, hrv⟩ := hr.ex hi'
    cases ha'
    rw [wrapS (x := (i : Int) - 1) (by omega) (by omega), wrapS (x := (i : Int) + 1) (by omega) (by omega)]
    refine onPtr_mk ⟨by omega, by omega, _, _, _, by rw [show ((i : Int) - 1).toNat = i - 1 by omega]; exact hru, onPtr_mk ⟨by omega, by omega, _, _, _, hrv, Calls.use (ord40 w1.drew u v) ?_⟩⟩
    rintro _ w2 ⟨rfl, k2⟩
    have hv' : fs[i - 1 + 1]? = some v := by rw [show i - 1 + 1 = i by omega]; exact hv
    refine ⟨_, rfl, bc (fun hb => ⟨?_, k1.drew.trans k2⟩) (fun hb => ⟨⟨i + 1, by omega, by omega, k1.drew.trans k2, fun j x y hj hx hy => ?_⟩, meas hi'⟩)⟩
    · have := of_decide_eq_true hb
      rw [adj_false hu hv' (by simp; omega)]
    · rcases Nat.lt_or_ge (j + 1) i with h1 | h1
      · exact hin j x y h1 hx hy
      · have : j = i - 1 := by omega
        subst this
        rw [hu] at hx; rw [hv'] at hy
        cases hx; cases hy
        have := of_decide_eq_false hb
        simp; omega
  · rw [adj_true fun j a b ha hb => hin j a b (by have := get_lt hb; simp at hge; omega) ha hb]
theorem rises80 {w : World} {q : Option Addr} {l c : Nat} {fs : List T3} (h : RE En.t3 w q l fs) (hl : l ≤ 9223372036854775807) :
    Calls Tryd.prog 80 #[.slice q l c, .func (.func 63) #[] #[]] w (Ret fun v w' => v = .bool (adj (fun a b => decide (tOrd a b < 0)) fs) ∧ Chg none_ w w') := by
  refine f80_63.calls _ _ _ ?_
  unfold f80_63.wp
  have hlen := h.len
  refine ⟨fun x w' => ∃ i : Nat, x = i ∧ 1 ≤ i ∧ Chg none_ w w' ∧ ∀ j a b, j + 1 < i → fs[j]? = some a → fs[j + 1]? = some b → decide (tOrd a b < 0) = true, fun x _ => l - x.toNat, ⟨1, rfl, Nat.le_refl _, Chg.refl _ _, fun j a b hj => by omega⟩, ?_⟩
  rintro x w1 ⟨i, rfl, hi, k1, hin⟩
  refine bc (fun hlt => ?_) (fun hge => ⟨?_, k1⟩)
  · have hi' : i < l := by simpa using hlt
    have hr := h.chg k1.drew
    obtain ⟨a, u, rfl, hu, hru⟩ := hr.ex (i := i - 1) (by omega)
    obtain ⟨a', v, ha', hv, hrv⟩ := hr.ex hi'
    cases ha'
    rw [wrapS (x := (i : Int) - 1) (by omega) (by omega), wrapS (x := (i : Int) + 1) (by omega) (by omega)]
    refine onPtr_mk ⟨by omega, by omega, _, _, _, by rw [show ((i : Int) - 1).toNat = i - 1 by omega]; exact hru, onPtr_mk ⟨by omega, by omega, _, _, _, hrv, Calls.use (ord63 w1.drew u v) ?_⟩⟩
    rintro _ w2 ⟨rfl, k2⟩
    have hv' : fs[i - 1 + 1]? = some v := by rw [show i - 1 + 1 = i by omega]; exact hv
    refine ⟨_, rfl, bc (fun hb => ⟨?_, k1.drew.trans k2⟩) (fun hb => ⟨⟨i + 1, by omega, by omega, k1.drew.trans k2, fun j x y hj hx hy => ?_⟩, meas hi'⟩)⟩
    · have := of_decide_eq_true hb
      rw [adj_false hu hv' (by simp; omega)]
    · rcases Nat.lt_or_ge (j + 1) i with h1 | h1
      · exact hin j x y h1 hx hy
      · have : j = i - 1 := by omega
        subst this
        rw [hu] at hx; rw [hv'] at hy
        cases hx; cases hy
        have := of_decide_eq_false hb
        simp; omega
  · rw [adj_true fun j a b ha hb => hin j a b (by have := get_lt hb; simp at hge; omega) ha hb]
/-! # crashes -/
structure CrsR (w : World) (q : Option Addr) (l : Nat) (cs : List Cr) : Prop where
  ex : ∃ hs : List CrH, RE En.crh w q l hs ∧ hs.length = cs.length ∧ ∀ (i : Nat) (h : CrH) (c : Cr), hs[i]? = some h → cs[i]? = some c → h.step = c.step ∧ h.rest = c.rest ∧ RE En.t3 w h.q h.l c.fates ∧ h.l * 24 ≤ 140737488351232 ∧ h.l ≤ h.c
theorem CrsR.chg {w w' : World} {q : Option Addr} {l : Nat} {cs : List Cr} (h : CrsR w q l cs) (c : Chg none_ w w') : CrsR w' q l cs := by
  obtain ⟨hs, h1, h2, h3⟩ := h.ex
  exact ⟨hs, h1.chg c, h2, fun i x y hx hy => by
    obtain ⟨a, b, d, e⟩ := h3 i x y hx hy
    exact ⟨a, b, d.chg c, e⟩⟩
theorem CrsR.len {w : World} {q : Option Addr} {l : Nat} {cs : List Cr} (h : CrsR w q l cs) : cs.length = l := by
  obtain ⟨hs, h1, h2, _⟩ := h.ex
  rw [← h2, h1.len]
theorem CrsR.at' {w : World} {q : Option Addr} {l : Nat} {cs : List Cr} (h : CrsR w q l cs) {i : Nat} (hi : i < l) : ∃ a x y, q = some a ∧ cs[i]? = some y ∧ reads w (a.add (i * 3)) (En.crh.enc x) ∧ x.step = y.step ∧ x.rest = y.rest ∧ RE En.t3 w x.q x.l y.fates ∧ x.l * 24 ≤ 140737488351232 ∧ x.l ≤ x.c := by
  have hl := h.len
  obtain ⟨hs, h1, h2, h3⟩ := h.ex
  obtain ⟨a, x, ha, hx, hr⟩ := h1.ex hi
  obtain ⟨y, hy⟩ := get_ex (l := cs) (i := i) (by omega)
  obtain ⟨e1, e2, e3, e4, e5⟩ := h3 i x y hx hy
  exact ⟨a, x, y, ha, hy, hr, e1, e2, e3, e4, e5⟩
theorem sorted44 {w : World} {q : Option Addr} {l c : Nat} {cs : List Cr} (h : CrsR w q l cs) (hl : l ≤ 9223372036854775807) :
    Calls Tryd.prog 44 #[.slice q l c, .func (.func 45) #[] #[]] w (Ret fun v w' => v = .bool (adj (fun a b => decide (a.step ≤ b.step)) cs) ∧ Chg none_ w w') := by
  refine f44_45.calls _ _ _ ?_
  unfold f44_45.wp
  have hlen := h.len
  rw [wrapS (x := (l : Int) - 1) (by omega) (by omega)]
  refine ⟨fun x w' => x < l ∧ -1 ≤ x ∧ Chg none_ w w' ∧ ∀ (j : Nat) a b, x ≤ j → cs[j]? = some a → cs[j + 1]? = some b → decide (a.step ≤ b.step) = true, fun x _ => (x + 1).toNat, ⟨by omega, by omega, Chg.refl _ _, fun j a b hj ha hb => by have := get_lt hb; omega⟩, ?_⟩
  rintro x w1 ⟨hx0, hx1, k1, hin⟩
  refine bc (fun hlt => ?_) (fun hge => ⟨?_, k1⟩)
  · have hpos : 0 < x := by simpa using hlt
    obtain ⟨i, rfl⟩ : ∃ i : Nat, x = (i : Int) := ⟨x.toNat, by omega⟩
    have hr := h.chg k1.drew
    obtain ⟨a, u, uy, rfl, hu, hru, eu, _⟩ := hr.at' (i := i) (by omega)
    obtain ⟨a', v, vy, ha', hv, hrv, ev, _⟩ := hr.at' (i := i - 1) (by omega)
    cases ha'
    rw [wrapS (x := (i : Int) - 1) (by omega) (by omega)]
    refine onPtr_mk ⟨by omega, by omega, _, _, _, _, _, hru, onPtr_mk ⟨by omega, by omega, _, _, _, _, _, by rw [show ((i : Int) - 1).toNat = i - 1 by omega]; exact hrv, Calls.use (ord45 w1.drew u v) ?_⟩⟩
    rintro _ w2 ⟨rfl, k2⟩
    have hu' : cs[i - 1 + 1]? = some uy := by rw [show i - 1 + 1 = i by omega]; exact hu
    have hc : cmpI u.step v.step < 0 ↔ uy.step < vy.step := by rw [eu, ev]; unfold cmpI; split <;> (try split) <;> omega
    refine ⟨_, rfl, bc (fun hb => ⟨?_, k1.drew.trans k2⟩) (fun hb => ⟨⟨by omega, by omega, k1.drew.trans k2, fun j x y hj hx hy => ?_⟩, ?_⟩)⟩
    · have := hc.1 (of_decide_eq_true hb)
      rw [adj_false hv hu' (by simp; omega)]
    · rcases Nat.lt_or_ge j i with h1 | h1
      · have : j = i - 1 := by omega
        subst this
        rw [hv] at hx; rw [hu'] at hy
        cases hx; cases hy
        have := of_decide_eq_false hb
        have : ¬ uy.step < vy.step := fun h => this (hc.2 h)
        simp; omega
      · exact hin j x y (by omega) hx hy
    · show ((i : Int) - 1 + 1).toNat < ((i : Int) + 1).toNat
      omega
  · rw [adj_true fun j a b ha hb => hin j a b (by simp at hge; omega) ha hb]
/-- a fate that may be: a page below 'n', of so many bytes -/
def tR (n page : Int) (f : T3) : Bool := decide (0 ≤ f.1) && decide (f.1 < n) && (if f.2.1 == 3 then decide (1 ≤ f.2.2) && decide (f.2.2 < page) else f.2.2 == 0 && (f.2.1 == 1 || f.2.1 == 2))
def Gm.n (g : Gm) : Int := IntKind.wrap .i64 (g.pages * g.regions)
theorem right79 (w : World) (g : Gm) (f : T3) : Calls Tryd.prog 79 #[.agg (gv g).toArray, .agg (En.t3.enc f).toArray] w (Ret fun v w' => v = .bool (tR g.n g.page f) ∧ Chg none_ w w') := by
  refine f79.calls _ _ _ _ _ _ _ ?_
  unfold f79.wp
  refine newBox fun w1 B1 k1 _ => newBox fun w2 B2 k2 _ => ?_
  have G := (k2.blk B1 (fun x => x))
  repeat' (first | refine bc (fun _ => ?_) (fun _ => ?_) | refine ⟨_, (B2.cell 0).trans rfl, ?_⟩ | refine ⟨_, (B2.cell0 1).trans rfl, ?_⟩ | refine ⟨_, (B2.cell0 2).trans rfl, ?_⟩ | refine ⟨_, (G.cell 0).trans rfl, ?_⟩ | refine ⟨_, (G.cell0 1).trans rfl, ?_⟩ | refine ⟨_, (G.cell0 2).trans rfl, ?_⟩)
  all_goals refine ⟨congrArg Value.bool (Bool.eq_iff_iff.2 ?_), k1.trans k2⟩
  all_goals (simp only [decide_eq_true_eq, decide_eq_false_iff_not, beq_iff_eq, beq_eq_false_iff_ne] at *; simp_all [tR, Gm.n])
  all_goals first | (intros; omega) | (intro h; exact absurd (of_decide_eq_true h) (by omega))
theorem not78 {w : World} {b : Nat} {g : Gm} (B : Blk w b 24 (gv g).toArray) (f : T3) : Calls Tryd.prog 78 #[.agg (En.t3.enc f).toArray, .pointer (some (ad b))] w (Ret fun v w' => v = .bool (!tR g.n g.page f) ∧ Chg none_ w w') := by
  refine f78.calls _ _ _ _ ?_
  unfold f78.wp
  refine newBox fun w1 B1 k1 _ => onPtr_mk ⟨_, _, _, _, (k1.blk B (fun x => x)).reads0, _, _, _, B1.reads0, Calls.use (right79 w1 g f) ?_⟩
  rintro _ w2 ⟨rfl, k2⟩
  exact ⟨_, rfl, rfl, k1.trans k2⟩
theorem idx97 {w : World} {b : Nat} {g : Gm} (B : Blk w b 24 (gv g).toArray) {q : Option Addr} {l c : Nat} {fs : List T3} (h : RE En.t3 w q l fs) (hl : l ≤ 9223372036854775807) :
    Calls Tryd.prog 97 #[.slice q l c, .func (.func 78) #[] #[.pointer (some (ad b))]] w (Ret fun v w' => ∃ n : Int, v = .int .i64 n ∧ decide (n ≥ 0) = (!fs.all (tR g.n g.page)) ∧ Chg none_ w w') := by
  refine f97_78.calls _ _ _ _ ?_
  unfold f97_78.wp
  have hlen := h.len
  refine ⟨fun x w' => ∃ i : Nat, x = i ∧ i ≤ l ∧ Chg none_ w w' ∧ ∀ j f, j < i → fs[j]? = some f → tR g.n g.page f = true, fun x _ => l - x.toNat, ⟨0, rfl, Nat.zero_le _, Chg.refl _ _, fun j f hj => by omega⟩, ?_⟩
  rintro x w1 ⟨i, rfl, hi, k1, hin⟩
  refine bc (fun hlt => ?_) (fun hge => ?_)
  · have hi' : i < l := by simpa using hlt
    obtain ⟨a, f, rfl, hf, hr⟩ := (h.chg k1).ex hi'
    rw [wrapS (x := (i : Int) + 1) (by omega) (by omega)]
    refine onPtr_mk ⟨by omega, by omega, _, _, _, hr, Calls.use (not78 (k1.blk B (fun x => x)) f) ?_⟩
    rintro _ w2 ⟨rfl, k2⟩
    refine ⟨_, rfl, bc (fun hb => ⟨i, rfl, ?_, k1.trans k2⟩) (fun hb => ⟨⟨i + 1, by omega, hi', k1.trans k2, fun j g' hj hg => ?_⟩, meas hi'⟩)⟩
    · have : fs.all (tR g.n g.page) = false := List.all_eq_false.2 ⟨f, List.mem_of_getElem? hf, by simpa using hb⟩
      rw [this]; simp
    · rcases Nat.lt_or_ge j i with h1 | h1
      · exact hin j g' h1 hg
      · have : j = i := by omega
        subst this
        rw [hf] at hg; cases hg
        simpa using hb
  · have : fs.all (tR g.n g.page) = true := List.all_eq_true.2 fun f hf => by
      obtain ⟨j, hj⟩ := List.getElem?_of_mem hf
      exact hin j f (by have := get_lt hj; simp at hge; omega) hj
    exact ⟨-1, rfl, by rw [this]; rfl, k1⟩
theorem any77 {w : World} {b : Nat} {g : Gm} (B : Blk w b 24 (gv g).toArray) {q : Option Addr} {l c : Nat} {fs : List T3} (h : RE En.t3 w q l fs) (hl : l ≤ 9223372036854775807) :
    Calls Tryd.prog 77 #[.slice q l c, .func (.func 78) #[] #[.pointer (some (ad b))]] w (Ret fun v w' => v = .bool (!fs.all (tR g.n g.page)) ∧ Chg none_ w w') := by
  refine f77_78.calls _ _ _ _ ?_
  unfold f77_78.wp
  refine Calls.use (idx97 B h hl) ?_
  rintro _ w1 ⟨n, rfl, hn, k1⟩
  exact ⟨_, rfl, by rw [hn], k1⟩
def fatesR (n page : Int) (fs : List T3) : Bool := decide (fs.length ≤ 64) && fs.all (tR n page) && adj (fun a b => decide (tOrd a b < 0)) fs
def cR (g : Gm) (c : Cr) : Bool := decide (0 ≤ c.step) && decide (c.step ≤ 2147483647) && (c.rest == 1 || c.rest == 2) && fatesR g.n g.page c.fates
theorem right43 {w : World} (g : Gm) {x : CrH} {y : Cr} (e1 : x.step = y.step) (e2 : x.rest = y.rest) (h : RE En.t3 w x.q x.l y.fates) :
    Calls Tryd.prog 43 #[.agg (gv g).toArray, .agg (En.crh.enc x).toArray] w (Ret fun v w' => v = .bool (cR g y) ∧ Chg none_ w w') := by
  refine f43.calls _ _ _ _ _ _ _ _ _ ?_
  unfold f43.wp
  have hlen := h.len
  refine newBox fun w1 B1 k1 _ => newBox fun w2 B2 k2 _ => ?_
  have G := (k2.blk B1 (fun x => x))
  have k02 := k1.trans k2
  refine ⟨fun w' => w2 = w' ∧ 0 ≤ y.step ∧ y.step ≤ 2147483647 ∧ (y.rest = 1 ∨ y.rest = 2) ∧ x.l ≤ 64, ?_, ?_⟩
  · rintro _ ⟨rfl, h1, h2, h3, h4⟩
    refine ⟨_, _, _, (B2.cell0 2).trans rfl, Calls.use (any77 G (h.chg k02) (by omega)) ?_⟩
    rintro _ w3 ⟨rfl, k3⟩
    have hpre : cR g y = (y.fates.all (tR g.n g.page) && adj (fun a b => decide (tOrd a b < 0)) y.fates) := by
      have : y.fates.length ≤ 64 := by omega
      rcases h3 with h3 | h3 <;> simp [cR, fatesR, h1, h2, h3, this]
    refine ⟨_, rfl, bc (fun hb => ⟨_, _, _, ((k3.blk B2 (fun x => x)).cell0 2).trans rfl, Calls.use (rises80 ((h.chg k02).chg k3) (by omega)) ?_⟩) (fun hb => ⟨?_, k02.trans k3⟩)⟩
    · rintro _ w4 ⟨rfl, k4⟩
      have hb : y.fates.all (tR g.n g.page) = true := by simpa using hb
      exact ⟨_, rfl, by rw [hpre, hb, Bool.true_and], (k02.trans k3).trans k4⟩
    · have hb : y.fates.all (tR g.n g.page) = false := by simpa using hb
      rw [hpre, hb, Bool.false_and]
  · repeat' (first | refine bc (fun _ => ?_) (fun _ => ?_) | refine ⟨_, (B2.cell 0).trans rfl, ?_⟩ | refine ⟨_, (B2.cell0 1).trans rfl, ?_⟩ | refine ⟨_, _, _, (B2.cell0 2).trans rfl, ?_⟩)
    all_goals simp only [decide_eq_true_eq, decide_eq_false_iff_not, bne_iff_ne, bne_eq_false_iff_eq, e1, e2] at *
    all_goals first
      | (refine ⟨by trivial, ?_, ?_, ?_, ?_⟩ <;> omega)
      | (refine ⟨congrArg Value.bool ?_, k02⟩; symm; rw [← Bool.not_eq_true]; simp only [cR, fatesR, Bool.and_eq_true, decide_eq_true_eq, Bool.or_eq_true, beq_iff_eq]; omega)
theorem not42 {w : World} {b : Nat} {g : Gm} (B : Blk w b 24 (gv g).toArray) {x : CrH} {y : Cr} (e1 : x.step = y.step) (e2 : x.rest = y.rest) (h : RE En.t3 w x.q x.l y.fates) :
    Calls Tryd.prog 42 #[.agg (En.crh.enc x).toArray, .pointer (some (ad b))] w (Ret fun v w' => v = .bool (!cR g y) ∧ Chg none_ w w') := by
  refine f42.calls _ _ _ _ _ _ ?_
  unfold f42.wp
  refine newBox fun w1 B1 k1 _ => onPtr_mk ⟨_, _, _, _, (k1.blk B (fun x => x)).reads0, _, _, _, _, _, B1.reads0, Calls.use (right43 g e1 e2 (h.chg k1)) ?_⟩
  rintro _ w2 ⟨rfl, k2⟩
  exact ⟨_, rfl, rfl, k1.trans k2⟩
theorem idx76 {w : World} {b : Nat} {g : Gm} (B : Blk w b 24 (gv g).toArray) {q : Option Addr} {l c : Nat} {cs : List Cr} (h : CrsR w q l cs) (hl : l ≤ 9223372036854775807) :
    Calls Tryd.prog 76 #[.slice q l c, .func (.func 42) #[] #[.pointer (some (ad b))]] w (Ret fun v w' => ∃ n : Int, v = .int .i64 n ∧ decide (n ≥ 0) = (!cs.all (cR g)) ∧ Chg none_ w w') := by
  refine f76_42.calls _ _ _ _ ?_
  unfold f76_42.wp
  have hlen := h.len
  refine ⟨fun x w' => ∃ i : Nat, x = i ∧ i ≤ l ∧ Chg none_ w w' ∧ ∀ j f, j < i → cs[j]? = some f → cR g f = true, fun x _ => l - x.toNat, ⟨0, rfl, Nat.zero_le _, Chg.refl _ _, fun j f hj => by omega⟩, ?_⟩
  rintro x w1 ⟨i, rfl, hi, k1, hin⟩
  refine bc (fun hlt => ?_) (fun hge => ?_)
  · have hi' : i < l := by simpa using hlt
    obtain ⟨a, x, y, rfl, hy, hr, e1, e2, hf, _⟩ := (h.chg k1).at' hi'
    rw [wrapS (x := (i : Int) + 1) (by omega) (by omega)]
    refine onPtr_mk ⟨by omega, by omega, _, _, _, _, _, hr, Calls.use (not42 (k1.blk B (fun x => x)) e1 e2 hf) ?_⟩
    rintro _ w2 ⟨rfl, k2⟩
    refine ⟨_, rfl, bc (fun hb => ⟨i, rfl, ?_, k1.trans k2⟩) (fun hb => ⟨⟨i + 1, by omega, hi', k1.trans k2, fun j g' hj hg => ?_⟩, meas hi'⟩)⟩
    · have : cs.all (cR g) = false := List.all_eq_false.2 ⟨y, List.mem_of_getElem? hy, by simpa using hb⟩
      rw [this]; simp
    · rcases Nat.lt_or_ge j i with h1 | h1
      · exact hin j g' h1 hg
      · have : j = i := by omega
        subst this
        rw [hy] at hg; cases hg
        simpa using hb
  · have : cs.all (cR g) = true := List.all_eq_true.2 fun f hf => by
      obtain ⟨j, hj⟩ := List.getElem?_of_mem hf
      exact hin j f (by have := get_lt hj; simp at hge; omega) hj
    exact ⟨-1, rfl, by rw [this]; rfl, k1⟩
theorem any41 {w : World} {b : Nat} {g : Gm} (B : Blk w b 24 (gv g).toArray) {q : Option Addr} {l c : Nat} {cs : List Cr} (h : CrsR w q l cs) (hl : l ≤ 9223372036854775807) :
    Calls Tryd.prog 41 #[.slice q l c, .func (.func 42) #[] #[.pointer (some (ad b))]] w (Ret fun v w' => v = .bool (!cs.all (cR g)) ∧ Chg none_ w w') := by
  refine f41_42.calls _ _ _ _ ?_
  unfold f41_42.wp
  refine Calls.use (idx76 B h hl) ?_
  rintro _ w1 ⟨n, rfl, hn, k1⟩
  exact ⟨_, rfl, by rw [hn], k1⟩
end Go.Proofs.YtdlbmmodlkmofaaDoor
