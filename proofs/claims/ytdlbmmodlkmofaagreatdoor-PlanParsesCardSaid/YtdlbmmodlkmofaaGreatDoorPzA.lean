import Derived.Test.YtdlbmmodlkmofaaGreatDoorW
import Derived.Test.YtdlbmmodlkmofaaGreatDoorOps
import Derived.Test.YtdlbmmodlkmofaaGreatDoorRg
set_option maxRecDepth 20000
namespace Go.Proofs.YtdlbmmodlkmofaaGreatDoor
open Go Go.Vc Go.RowKit
abbrev iv (x : Int) : Value := .int .i64 x
abbrev ad (b : Nat) : Addr := ⟨b, 0, none⟩
/-- three ints: a fault, a fate -/
abbrev T3 := Int × Int × Int
def En.t3 : En T3 := ⟨3, fun x => [.int .i64 x.1, .int .i64 x.2.1, .int .i64 x.2.2], fun _ => rfl, fun _ v hv => by simp at hv; rcases hv with rfl | rfl | rfl <;> rfl, by decide⟩
/-- a crash, its fates by their head -/
structure CrH where
  step : Int
  rest : Int
  q : Option Addr
  l : Nat
  c : Nat
def En.crh : En CrH := ⟨3, fun x => [.int .i64 x.step, .int .i64 x.rest, .slice x.q x.l x.c], fun _ => rfl, fun _ v hv => by simp at hv; rcases hv with rfl | rfl | rfl <;> rfl, by decide⟩
structure Cr where
  step : Int
  rest : Int
  fates : List T3
structure Gm where
  page : Int
  pages : Int
  regions : Int
  align : Int
abbrev gv (g : Gm) : List Value := [iv g.page, iv g.pages, iv g.regions, iv g.align]
/-! # faults -/
def fR (f : T3) : Bool := decide (1 ≤ f.1) && decide (f.1 ≤ 4) && decide (1 ≤ f.2.1) && decide (f.2.1 ≤ 2147483647) && (f.2.2 == 1 || f.2.2 == 2)
theorem right38 (w : World) (f : T3) : Calls Tryz.prog 37 #[.agg (En.t3.enc f).toArray] w (Ret fun v w' => v = .bool (fR f) ∧ Chg none_ w w') := by
  refine f37.calls _ _ _ ?_
  unfold f37.wp
  refine newBox fun w1 B k _ => ?_
  repeat' (first | refine bc (fun _ => ?_) (fun _ => ?_) | refine ⟨_, (B.cell 0).trans rfl, ?_⟩ | refine ⟨_, (B.cell0 1).trans rfl, ?_⟩ | refine ⟨_, (B.cell0 2).trans rfl, ?_⟩)
  all_goals refine ⟨congrArg Value.bool (Bool.eq_iff_iff.2 ?_), k⟩
  all_goals (simp only [decide_eq_true_eq, decide_eq_false_iff_not, beq_iff_eq, beq_eq_false_iff_ne] at *; simp [fR]; omega)
theorem not37 (w : World) (f : T3) : Calls Tryz.prog 36 #[.agg (En.t3.enc f).toArray] w (Ret fun v w' => v = .bool (!fR f) ∧ Chg none_ w w') := by
  refine f36.calls _ _ _ ?_
  unfold f36.wp
  refine newBox fun w1 B k _ => ⟨_, _, _, B.reads0, Calls.use (right38 w1 f) ?_⟩
  rintro _ w2 ⟨rfl, k2⟩
  exact ⟨_, rfl, rfl, k.trans k2⟩
theorem idx73 {w : World} {q : Option Addr} {l c : Nat} {fs : List T3} (h : RE En.t3 w q l fs) (hl : l ≤ 9223372036854775807) :
    Calls Tryz.prog 58 #[.slice q l c, .func (.func 36) #[] #[]] w (Ret fun v w' => ∃ n : Int, v = .int .i64 n ∧ decide (n ≥ 0) = (!fs.all fR) ∧ Chg none_ w w') := by
  refine f58_36.calls _ _ _ ?_
  unfold f58_36.wp
  have hlen := h.len
  refine ⟨fun x w' => ∃ i : Nat, x = i ∧ i ≤ l ∧ Chg none_ w w' ∧ ∀ j f, j < i → fs[j]? = some f → fR f = true, fun x _ => l - x.toNat, ⟨0, rfl, Nat.zero_le _, Chg.refl _ _, fun j f hj => by omega⟩, ?_⟩
  rintro x w1 ⟨i, rfl, hi, k1, hin⟩
  refine bc (fun hlt => ?_) (fun hge => ?_)
  · have hi' : i < l := by simpa using hlt
    obtain ⟨a, f, rfl, hf, hr⟩ := (h.chg k1).ex hi'
    rw [wrapS (x := (i : Int) + 1) (by omega) (by omega)]
    refine onPtr_mk ⟨by omega, by omega, _, _, _, hr, Calls.use (not37 w1 f) ?_⟩
    rintro _ w2 ⟨rfl, k2⟩
    refine ⟨_, rfl, bc (fun hb => ⟨i, rfl, ?_, k1.trans k2⟩) (fun hb => ⟨⟨i + 1, by omega, hi', k1.trans k2, fun j g hj hg => ?_⟩, meas hi'⟩)⟩
    · have : fs.all fR = false := List.all_eq_false.2 ⟨f, List.mem_of_getElem? hf, by simpa using hb⟩
      rw [this]; simp
    · rcases Nat.lt_or_ge j i with h1 | h1
      · exact hin j g h1 hg
      · have : j = i := by omega
        subst this
        rw [hf] at hg; cases hg
        simpa using hb
  · have : fs.all fR = true := List.all_eq_true.2 fun f hf => by
      obtain ⟨j, hj⟩ := List.getElem?_of_mem hf
      exact hin j f (by have := get_lt hj; simp at hge; omega) hj
    exact ⟨-1, rfl, by rw [this]; rfl, k1⟩
theorem any36 {w : World} {q : Option Addr} {l c : Nat} {fs : List T3} (h : RE En.t3 w q l fs) (hl : l ≤ 9223372036854775807) :
    Calls Tryz.prog 35 #[.slice q l c, .func (.func 36) #[] #[]] w (Ret fun v w' => v = .bool (!fs.all fR) ∧ Chg none_ w w') := by
  refine f35_36.calls _ _ _ ?_
  unfold f35_36.wp
  refine Calls.use (idx73 h hl) ?_
  rintro _ w1 ⟨n, rfl, hn, k1⟩
  exact ⟨_, rfl, by rw [hn], k1⟩
/-! ## cmp -/
def cmpI (a b : Int) : Int := if a < b then -1 else if a > b then 1 else 0
theorem nan96 (w : World) (x : Int) : Calls Tryz.prog 77 #[.int .i64 x] w (Ret fun v w' => v = .bool false ∧ w = w') := by
  refine f77.calls _ ?_
  unfold f77.wp
  exact ⟨by simp, rfl⟩
theorem cmp75 (w : World) (a b : Int) : Calls Tryz.prog 60 #[.int .i64 a, .int .i64 b] w (Ret fun v w' => v = .int .i64 (cmpI a b) ∧ w = w') := by
  refine f60.calls _ _ ?_
  unfold f60.wp
  refine Calls.use (nan96 w a) ?_
  rintro _ _ ⟨rfl, rfl⟩
  refine ⟨_, rfl, Calls.use (nan96 w b) ?_⟩
  rintro _ _ ⟨rfl, rfl⟩
  refine ⟨_, rfl, bcF rfl (bcF rfl (bc (fun h => ⟨?_, rfl⟩) (fun h => bc (fun h' => ⟨?_, rfl⟩) (fun h' => ⟨?_, rfl⟩))))⟩
  · have h : a < b := by simpa using h
    simp [cmpI, h]
  · have h1 : ¬ a < b := by simpa using h
    have h2 : b < a := by simpa using h'
    simp [cmpI, h1, h2]
  · have h1 : ¬ a < b := by simpa using h
    have h2 : ¬ b < a := by simpa using h'
    simp [cmpI, h1, h2]
def firstNZ (l : List Int) : Int := (l.find? (· != 0)).getD 0
theorem or74 {w : World} {q : Option Addr} {l c : Nat} {xs : List Int} (h : RE En.int w q l xs) (hl : l ≤ 9223372036854775807) :
    Calls Tryz.prog 59 #[.slice q l c] w (Ret fun v w' => v = .int .i64 (firstNZ xs) ∧ w = w') := by
  refine f59.calls _ _ _ ?_
  unfold f59.wp
  have hlen := h.len
  refine ⟨fun x w' => ∃ i : Nat, x = i ∧ i ≤ l ∧ w = w' ∧ firstNZ xs = firstNZ (xs.drop i), fun x _ => l - x.toNat, ⟨0, rfl, Nat.zero_le _, rfl, by simp⟩, ?_⟩
  rintro x _ ⟨i, rfl, hi, rfl, he⟩
  refine bc (fun hlt => ?_) (fun hge => ?_)
  · have hi' : i < l := by simpa using hlt
    obtain ⟨a, u, rfl, hu, hr⟩ := h.ex hi'
    have hd : xs.drop i = u :: xs.drop (i + 1) := by
      have := get_lt hu
      rw [List.drop_eq_getElem_cons this]
      rw [List.getElem?_eq_getElem this] at hu
      cases hu; rfl
    rw [wrapS (x := (i : Int) + 1) (by omega) (by omega)]
    refine onPtr_mk ⟨by omega, by omega, u, reads_one' hr, bc (fun hn => ⟨?_, rfl⟩) (fun hn => ⟨⟨i + 1, by omega, hi', rfl, ?_⟩, meas hi'⟩)⟩
    · rw [he, hd]; simp [firstNZ, List.find?, hn]
    · rw [he, hd]; simp [firstNZ, List.find?, hn]
  · have : xs.drop i = [] := List.drop_eq_nil_of_le (by simp at hge; omega)
    rw [he, this]; exact ⟨rfl, rfl⟩
theorem litInts {w w1 : World} {xs : List Int} {cs : Array Value} (e : w1 = w.alloc (.cells cs 3)) (h : cs = (xs.map iv).toArray) : RE En.int w1 (some ⟨w.heap.size, 0, none⟩) xs.length xs := by
  refine RE.of_flat rfl ?_
  have B := new_blk e
  have : ∀ xs : List Int, En.int.flat xs = xs.map iv := fun xs => by
    induction xs with
    | nil => rfl
    | cons x xs ih => simp only [En.flat] at ih ⊢; rw [List.flatMap_cons, ih]; rfl
  rw [this]
  rw [h] at B
  exact B.reads0
def fOrd (a b : T3) : Int := firstNZ [cmpI a.1 b.1, cmpI a.2.1 b.2.1]
theorem ord40 (w : World) (a b : T3) : Calls Tryz.prog 39 #[.agg (En.t3.enc a).toArray, .agg (En.t3.enc b).toArray] w (Ret fun v w' => v = .int .i64 (fOrd a b) ∧ Chg none_ w w') := by
  refine f39.calls _ _ _ _ _ _ ?_
  unfold f39.wp
  refine newBox fun w1 B1 k1 _ => newBox fun w2 B2 k2 _ => ?_
  have B1' := (k2.blk B1 (fun x => x)).drew
  have B2' := B2.drew
  have k02 := (k1.trans k2).drew
  generalize w2.drew = w2 at *
  refine ⟨fun _ => True, _, trivial, (B1'.cell 0).trans rfl, _, trivial, (B2'.cell 0).trans rfl, _, trivial, (B1'.cell0 1).trans rfl, _, trivial, (B2'.cell0 1).trans rfl, Calls.use (cmp75 w2 _ _) ?_⟩
  rintro _ _ ⟨rfl, rfl⟩
  refine ⟨_, rfl, fun _ _ => rfl, Calls.use (cmp75 w2 _ _) ?_⟩
  rintro _ _ ⟨rfl, rfl⟩
  refine ⟨_, rfl, fun w5 e5 => Calls.use (or74 (litInts (xs := [_, _]) e5 rfl) (by decide)) ?_⟩
  rintro _ _ ⟨rfl, rfl⟩
  exact ⟨_, rfl, rfl, k02.new' e5⟩
def tOrd (a b : T3) : Int := cmpI a.1 b.1
theorem ord63 (w : World) (a b : T3) : Calls Tryz.prog 66 #[.agg (En.t3.enc a).toArray, .agg (En.t3.enc b).toArray] w (Ret fun v w' => v = .int .i64 (tOrd a b) ∧ Chg none_ w w') := by
  refine f66.calls _ _ _ _ _ _ ?_
  unfold f66.wp
  refine newBox fun w1 B1 k1 _ => newBox fun w2 B2 k2 _ => ?_
  have B1' := (k2.blk B1 (fun x => x))
  refine ⟨_, (B1'.cell 0).trans rfl, _, (B2.cell 0).trans rfl, Calls.use (cmp75 w2 _ _) ?_⟩
  rintro _ _ ⟨rfl, rfl⟩
  exact ⟨_, rfl, rfl, k1.trans k2⟩
theorem ord45 (w : World) (a b : CrH) : Calls Tryz.prog 44 #[.agg (En.crh.enc a).toArray, .agg (En.crh.enc b).toArray] w (Ret fun v w' => v = .int .i64 (cmpI a.step b.step) ∧ Chg none_ w w') := by
  refine f44.calls _ _ _ _ _ _ _ _ _ _ ?_
  unfold f44.wp
  refine newBox fun w1 B1 k1 _ => newBox fun w2 B2 k2 _ => ?_
  have B1' := (k2.blk B1 (fun x => x))
  refine ⟨_, (B1'.cell 0).trans rfl, _, (B2.cell 0).trans rfl, Calls.use (cmp75 w2 _ _) ?_⟩
  rintro _ _ ⟨rfl, rfl⟩
  exact ⟨_, rfl, rfl, k1.trans k2⟩
/-- each stands ahead of the next -/
def adj {α : Type} (R : α → α → Bool) : List α → Bool
  | a :: b :: l => R a b && adj R (b :: l)
  | _ => true
theorem adj_true {α : Type} {R : α → α → Bool} : ∀ {l : List α}, (∀ i a b, l[i]? = some a → l[i + 1]? = some b → R a b = true) → adj R l = true
  | [], _ => rfl
  | [_], _ => rfl
  | a :: b :: l, h => by
    simp only [adj, h 0 a b rfl rfl, Bool.true_and]
    exact adj_true fun i x y hx hy => h (i + 1) x y (by simpa using hx) (by simpa using hy)
theorem adj_at {α : Type} {R : α → α → Bool} : ∀ {l : List α} {i : Nat} {a b : α}, adj R l = true → l[i]? = some a → l[i + 1]? = some b → R a b = true
  | [], i, a, b, _, h, _ => by simp at h
  | [_], i, a, b, _, _, h => by simp at h
  | x :: y :: l, 0, a, b, h, ha, hb => by
    simp at ha hb
    subst ha; subst hb
    simp only [adj, Bool.and_eq_true] at h
    exact h.1
  | x :: y :: l, i + 1, a, b, h, ha, hb => by
    simp only [adj, Bool.and_eq_true] at h
    exact adj_at (i := i) h.2 (by simpa using ha) (by simpa using hb)
theorem adj_false {α : Type} {R : α → α → Bool} {l : List α} {i : Nat} {a b : α} (ha : l[i]? = some a) (hb : l[i + 1]? = some b) (h : R a b = false) : adj R l = false := by
  cases hh : adj R l with
  | false => rfl
  | true => rw [adj_at hh ha hb] at h; cases h
end Go.Proofs.YtdlbmmodlkmofaaGreatDoor
