import Derived.Test.YtdlbmmodlkmofaaDoorSn
import Derived.Test.YtdlbmmodlkmofaaDoorPlN
set_option maxRecDepth 20000
namespace Go.Proofs.YtdlbmmodlkmofaaDoor
open Go Go.Vc
/-! # what a stable sort tells: plain lists -/
section
variable {α : Type} {lt : α → α → Bool}
structure Weak (lt : α → α → Bool) : Prop where
  asym : ∀ a b, lt a b = true → lt b a = false
  tr : ∀ a b c, lt a b = false → lt b c = false → lt a c = false
/-- neither stands ahead of the other -/
def alk (lt : α → α → Bool) (a b : α) : Bool := !lt a b && !lt b a
/-- the same elements, those that are alike in the same order -/
def Same (lt : α → α → Bool) (xs ys : List α) : Prop := ∀ a, ys.filter (alk lt a) = xs.filter (alk lt a)
def Srt (lt : α → α → Bool) (xs : List α) : Prop := xs.Pairwise fun a b => lt b a = false
theorem Weak.irr (h : Weak lt) (a : α) : lt a a = false := by
  cases e : lt a a with
  | false => rfl
  | true => have := h.asym a a e; rw [e] at this; exact this
theorem Weak.self (h : Weak lt) (a : α) : alk lt a a = true := by simp [alk, h.irr a]
theorem Same.refl (xs : List α) : Same lt xs xs := fun _ => rfl
theorem Same.trans {xs ys zs : List α} (h : Same lt xs ys) (k : Same lt ys zs) : Same lt xs zs := fun a => (k a).trans (h a)
theorem Same.app {xs ys xs' ys' : List α} (h : Same lt xs xs') (k : Same lt ys ys') : Same lt (xs ++ ys) (xs' ++ ys') := fun a => by rw [List.filter_append, List.filter_append, h a, k a]
theorem Same.mem (W : Weak lt) {xs ys : List α} (h : Same lt xs ys) {a : α} (ha : a ∈ ys) : a ∈ xs := by
  have : a ∈ ys.filter (alk lt a) := List.mem_filter.2 ⟨ha, W.self a⟩
  rw [h a] at this
  exact (List.mem_filter.1 this).1
theorem Same.symm {xs ys : List α} (h : Same lt xs ys) : Same lt ys xs := fun a => (h a).symm
theorem Same.len (W : Weak lt) : ∀ {xs ys : List α}, Same lt xs ys → xs = [] → ys = []
  | _, [], _, _ => rfl
  | _, y :: ys, h, e => by
    have := h.mem W (a := y) (by simp)
    rw [e] at this; simp at this
theorem Weak.not_alk {x y c : α} (W : Weak lt) (h : lt y x = true) (hx : alk lt c x = true) (hy : alk lt c y = true) : False := by
  simp only [alk, Bool.and_eq_true, Bool.not_eq_true'] at hx hy
  have := W.tr y c x hy.2 hx.1
  rw [h] at this; cases this
/-- two blocks, all of the one ahead of all of the other -/
theorem Same.blocks (W : Weak lt) {A B : List α} (h : ∀ x ∈ A, ∀ y ∈ B, lt y x = true) : Same lt (A ++ B) (B ++ A) := fun c => by
  rw [List.filter_append, List.filter_append]
  by_cases hA : A.filter (alk lt c) = []
  · rw [hA]; simp
  · obtain ⟨x, hx⟩ := List.exists_mem_of_ne_nil _ hA
    have hx := List.mem_filter.1 hx
    have : B.filter (alk lt c) = [] := List.filter_eq_nil_iff.2 fun y hy hc => W.not_alk (h x hx.1 y hy) hx.2 hc
    rw [this]; simp
theorem Srt.uniq (W : Weak lt) : ∀ {xs ys : List α}, Srt lt xs → Srt lt ys → Same lt xs ys → xs = ys
  | [], ys, _, _, h => (h.len W rfl).symm
  | x :: xs, [], _, _, h => (h.symm.len W rfl)
  | x :: xs, y :: ys, hx, hy, h => by
    obtain ⟨hx1, hx2⟩ := List.pairwise_cons.1 hx
    obtain ⟨hy1, hy2⟩ := List.pairwise_cons.1 hy
    have yx : lt y x = false := by
      rcases List.mem_cons.1 (h.mem W (a := y) (by simp)) with e | e
      · rw [e]; exact W.irr x
      · exact hx1 y e
    have xy : lt x y = false := by
      rcases List.mem_cons.1 (h.symm.mem W (a := x) (by simp)) with e | e
      · rw [e]; exact W.irr y
      · exact hy1 x e
    have e : x = y := by
      have := h x
      rw [List.filter_cons_of_pos (W.self x), List.filter_cons_of_pos (by simp [alk, xy, yx])] at this
      exact (List.cons.inj this).1.symm
    subst e
    congr 1
    refine Srt.uniq W hx2 hy2 fun a => ?_
    have := h a
    cases ha : alk lt a x with
    | true => rw [List.filter_cons_of_pos ha, List.filter_cons_of_pos ha] at this; exact (List.cons.inj this).2
    | false => rw [List.filter_cons_of_neg (by simp [ha]), List.filter_cons_of_neg (by simp [ha])] at this; exact this
theorem Srt.at' {xs : List α} (h : Srt lt xs) {i j : Nat} {x y : α} (hij : i < j) (hx : xs[i]? = some x) (hy : xs[j]? = some y) : lt y x = false := by
  have hi := get_lt hx
  have hj := get_lt hy
  have := List.pairwise_iff_getElem.1 h i j hi hj hij
  rw [List.getElem?_eq_getElem hi] at hx
  rw [List.getElem?_eq_getElem hj] at hy
  cases hx; cases hy
  exact this
theorem Srt.le (W : Weak lt) {xs : List α} (h : Srt lt xs) {i j : Nat} {x y : α} (hij : i ≤ j) (hx : xs[i]? = some x) (hy : xs[j]? = some y) : lt y x = false := by
  rcases Nat.lt_or_ge i j with h1 | h1
  · exact h.at' h1 hx hy
  · have : i = j := by omega
    subst this
    rw [hx] at hy; cases hy
    exact W.irr x
theorem mem_take_ex {xs : List α} {n : Nat} {x : α} (h : x ∈ xs.take n) : ∃ i, i < n ∧ xs[i]? = some x := by
  obtain ⟨i, hi⟩ := List.getElem?_of_mem h
  rw [List.getElem?_take] at hi
  split at hi
  · exact ⟨i, by assumption, hi⟩
  · cases hi
theorem mem_drop_ex {xs : List α} {n : Nat} {x : α} (h : x ∈ xs.drop n) : ∃ i, n ≤ i ∧ xs[i]? = some x := by
  obtain ⟨i, hi⟩ := List.getElem?_of_mem h
  rw [List.getElem?_drop] at hi
  exact ⟨n + i, by omega, hi⟩
/-- from what was looked at to all -/
theorem cut_ok (W : Weak lt) {L R : List α} (hL : Srt lt L) (hR : Srt lt R) {i j : Nat}
    (h1 : i = 0 ∨ R.length ≤ j ∨ ∃ x y, L[i - 1]? = some x ∧ R[j]? = some y ∧ lt y x = false)
    (h2 : j = 0 ∨ L.length ≤ i ∨ ∃ x y, L[i]? = some x ∧ R[j - 1]? = some y ∧ lt y x = true) :
    (∀ x ∈ L.take i, ∀ y ∈ R.drop j, lt y x = false) ∧ (∀ x ∈ L.drop i, ∀ y ∈ R.take j, lt y x = true) := by
  refine ⟨fun x hx y hy => ?_, fun x hx y hy => ?_⟩
  · obtain ⟨u, hu, hxu⟩ := mem_take_ex hx
    obtain ⟨v, hv, hyv⟩ := mem_drop_ex hy
    rcases h1 with h1 | h1 | ⟨x', y', hx', hy', h1⟩
    · omega
    · have := get_lt hyv; omega
    · exact W.tr _ _ _ (hR.le W hv hy' hyv) (W.tr _ _ _ h1 (hL.le W (by omega) hxu hx'))
  · obtain ⟨u, hu, hxu⟩ := mem_drop_ex hx
    obtain ⟨v, hv, hyv⟩ := mem_take_ex hy
    rcases h2 with h2 | h2 | ⟨x', y', hx', hy', h2⟩
    · omega
    · have := get_lt hxu; omega
    · cases e : lt y x with
      | true => rfl
      | false =>
        have := W.tr _ _ _ (hR.le W (show v ≤ j - 1 by omega) hyv hy') (W.tr _ _ _ e (hL.le W hu hx' hxu))
        rw [h2] at this; cases this
theorem merge_ok (W : Weak lt) {L1 L2 R1 R2 M1 M2 : List α} (hL : Srt lt (L1 ++ L2)) (hR : Srt lt (R1 ++ R2)) (c1 : ∀ x ∈ L1, ∀ y ∈ R2, lt y x = false) (c2 : ∀ x ∈ L2, ∀ y ∈ R1, lt y x = true)
    (s1 : Srt lt M1) (e1 : Same lt (L1 ++ R1) M1) (s2 : Srt lt M2) (e2 : Same lt (L2 ++ R2) M2) : Srt lt (M1 ++ M2) ∧ Same lt (L1 ++ L2 ++ (R1 ++ R2)) (M1 ++ M2) := by
  refine ⟨List.pairwise_append.2 ⟨s1, s2, fun x hx y hy => ?_⟩, ?_⟩
  · have hx := e1.mem W hx
    have hy := e2.mem W hy
    rcases List.mem_append.1 hx with hx | hx <;> rcases List.mem_append.1 hy with hy | hy
    · exact (List.pairwise_append.1 hL).2.2 x hx y hy
    · exact c1 x hx y hy
    · exact W.asym _ _ (c2 y hy x hx)
    · exact (List.pairwise_append.1 hR).2.2 x hx y hy
  · refine Same.trans (ys := L1 ++ R1 ++ (L2 ++ R2)) ?_ (e1.app e2)
    have := ((Same.refl (lt := lt) L1).app (Same.blocks W c2)).app (Same.refl R2)
    simpa [List.append_assoc] using this
theorem Srt.app (_W : Weak lt) {A B : List α} (hA : Srt lt A) (hB : Srt lt B) (h : ∀ x ∈ A, ∀ y ∈ B, lt y x = false) : Srt lt (A ++ B) := List.pairwise_append.2 ⟨hA, hB, h⟩
theorem Srt.left {A B : List α} (h : Srt lt (A ++ B)) : Srt lt A := (List.pairwise_append.1 h).1
theorem Srt.right {A B : List α} (h : Srt lt (A ++ B)) : Srt lt B := (List.pairwise_append.1 h).2.1
theorem Srt.nil : Srt lt ([] : List α) := List.Pairwise.nil
theorem Srt.one (x : α) : Srt lt [x] := List.pairwise_singleton _ _
end
/-! # two that change places -/
section
variable {α : Type}
theorem set_mid {A B : List α} {x y : α} {i : Nat} (h : i = A.length) : (A ++ x :: B).set i y = A ++ y :: B := by
  subst h
  rw [List.set_append_right _ _ (Nat.le_refl _), Nat.sub_self]; rfl
theorem get_mid {A B : List α} {x : α} {i : Nat} (h : i = A.length) : (A ++ x :: B)[i]? = some x := by
  subst h
  rw [List.getElem?_append_right (Nat.le_refl _), Nat.sub_self]; rfl
/-- in the list, two places changed -/
def sw (xs : List α) (i j : Nat) (x y : α) : List α := (xs.set j x).set i y
theorem sw_mid {A B C : List α} {x y : α} {i j : Nat} (hi : i = A.length) (hj : j = A.length + 1 + B.length) : sw (A ++ x :: (B ++ y :: C)) i j x y = A ++ y :: (B ++ x :: C) := by
  unfold sw
  have : A ++ x :: (B ++ y :: C) = (A ++ x :: B) ++ y :: C := by simp
  rw [this, set_mid (by simp; omega)]
  have : (A ++ x :: B) ++ x :: C = A ++ x :: (B ++ x :: C) := by simp
  rw [this, set_mid hi]
theorem sw_mid' {A B C : List α} {x y : α} {i j : Nat} (hi : i = A.length) (hj : j = A.length + 1 + B.length) : sw (A ++ x :: (B ++ y :: C)) j i y x = A ++ y :: (B ++ x :: C) := by
  unfold sw
  rw [set_mid hi]
  have : A ++ y :: (B ++ y :: C) = (A ++ y :: B) ++ y :: C := by simp
  rw [this, set_mid (by simp; omega)]
  simp
end
end Go.Proofs.YtdlbmmodlkmofaaDoor
set_option maxRecDepth 20000
namespace Go.Proofs.YtdlbmmodlkmofaaDoor
open Go Go.Vc Go.RowKit
/-! # two elements change places -/
theorem keeps0 (w w' : World) : Keeps (fun _ => False) w w' := fun _ h => h.elim
theorem swapT3 {w : World} {base : Nat} {e : TypeId} {q : Option Addr} {l c : Nat} {xs : List T3} (S : SE En.t3 w base e q l c xs) {I J : Int} {i j : Nat} {x y : T3} (hI : I = (i : Int)) (hJ : J = (j : Int)) (hi : xs[i]? = some x) (hj : xs[j]? = some y) {C : World → Prop}
    (hC : ∀ w', SE En.t3 w' base e q l c (sw xs i j x y) → Chg (fun k => some k = qB q) w w' → C w') :
    ∃ K1 : Addr → Prop, (onPtr q fun a1 => 0 ≤ I ∧ I < ((l : Nat) : Int) ∧ (onPtr q fun a2 => 0 ≤ J ∧ J < ((l : Nat) : Int) ∧ (∃ n1 n2 n3 : Int, reads w (a1.add (I.toNat * 3)) [.int .i64 n1, .int .i64 n2, .int .i64 n3] ∧ Keeps K1 w w ∧ (∃ n4 n5 n6 : Int, reads w (a2.add (J.toNat * 3)) [.int .i64 n4, .int .i64 n5, .int .i64 n6] ∧ Keeps K1 w w ∧ (onPtr q fun a3 => 0 ≤ J ∧ J < ((l : Nat) : Int) ∧ Keeps K1 w w ∧ (canStore w (a3.add (J.toNat * 3)) 3 ∧ ∀ w2 : World, w2 = setCells (a3.add (J.toNat * 3)) 0 [.int .i64 n1, .int .i64 n2, .int .i64 n3] w → Keeps K1 w w2 ∧ (onPtr q fun a4 => 0 ≤ I ∧ I < ((l : Nat) : Int) ∧ canStore w2 (a4.add (I.toNat * 3)) 3 ∧ ∀ w3 : World, w3 = setCells (a4.add (I.toNat * 3)) 0 [.int .i64 n4, .int .i64 n5, .int .i64 n6] w2 → C w3))))) ∧ (∃ n7 n8 n9 : Int, reads w (a2.add (J.toNat * 3)) [.int .i64 n7, .int .i64 n8, .int .i64 n9] ∧ Keeps K1 w w ∧ (∃ n10 n11 n12 : Int, reads w (a1.add (I.toNat * 3)) [.int .i64 n10, .int .i64 n11, .int .i64 n12] ∧ Keeps K1 w w ∧ (onPtr q fun a3 => 0 ≤ J ∧ J < ((l : Nat) : Int) ∧ Keeps K1 w w ∧ (canStore w (a3.add (J.toNat * 3)) 3 ∧ ∀ w2 : World, w2 = setCells (a3.add (J.toNat * 3)) 0 [.int .i64 n10, .int .i64 n11, .int .i64 n12] w → Keeps K1 w w2 ∧ (onPtr q fun a4 => 0 ≤ I ∧ I < ((l : Nat) : Int) ∧ canStore w2 (a4.add (I.toNat * 3)) 3 ∧ ∀ w3 : World, w3 = setCells (a4.add (I.toNat * 3)) 0 [.int .i64 n7, .int .i64 n8, .int .i64 n9] w2 → C w3))))))) := by
  subst hI hJ
  have hl := S.len
  have hil := get_lt hi
  have hjl := get_lt hj
  obtain ⟨a, x', ha, hx', hrx⟩ := S.re.ex (i := i) (by omega)
  obtain ⟨a', y', ha', hy', hry⟩ := S.re.ex (i := j) (by omega)
  subst ha
  cases ha'
  rw [hi] at hx'; cases hx'
  rw [hj] at hy'; cases hy'
  have ti : ((i : Nat) : Int).toNat = i := by omega
  have tj : ((j : Nat) : Int).toNat = j := by omega
  rw [ti, tj]
  have go : ∀ w2, w2 = setCells (a.add (j * 3)) 0 (En.t3.enc x) w → canStore w2 (a.add (i * 3)) 3 ∧ ∀ w3, w3 = setCells (a.add (i * 3)) 0 (En.t3.enc y) w2 → C w3 := fun w2 e2 => by
    obtain ⟨S2, k2⟩ := S.set rfl (i := j) (x' := x) (by omega) e2
    obtain ⟨a2, ha2, hcan⟩ := S2.can (i := i) (by omega)
    cases ha2
    have hc := hcan 0 3 (by decide)
    rw [add_zero'] at hc
    refine ⟨hc, fun w3 e3 => ?_⟩
    obtain ⟨S3, k3⟩ := S2.set rfl (i := i) (x' := y) (by omega) e3
    exact hC w3 S3 (k2.trans k3)
  obtain ⟨a2, ha2, hcan⟩ := S.can (i := j) (by omega)
  cases ha2
  have hc := hcan 0 3 (by decide)
  rw [add_zero'] at hc
  have bi : 0 ≤ (i : Int) ∧ (i : Int) < (l : Int) := by omega
  have bj : 0 ≤ (j : Int) ∧ (j : Int) < (l : Int) := by omega
  exact ⟨fun _ => False, onPtr_mk ⟨bi.1, bi.2, onPtr_mk ⟨bj.1, bj.2, ⟨_, _, _, hrx, keeps0 _ _, _, _, _, hry, keeps0 _ _, onPtr_mk ⟨bj.1, bj.2, keeps0 _ _, hc, fun w2 e2 => ⟨keeps0 _ _, onPtr_mk ⟨bi.1, bi.2, (go w2 e2).1, (go w2 e2).2⟩⟩⟩⟩,
    ⟨_, _, _, hry, keeps0 _ _, _, _, _, hrx, keeps0 _ _, onPtr_mk ⟨bj.1, bj.2, keeps0 _ _, hc, fun w2 e2 => ⟨keeps0 _ _, onPtr_mk ⟨bi.1, bi.2, (go w2 e2).1, (go w2 e2).2⟩⟩⟩⟩⟩⟩⟩
theorem swapCrH {w : World} {base : Nat} {e : TypeId} {q : Option Addr} {l c : Nat} {xs : List CrH} (S : SE En.crh w base e q l c xs) {I J : Int} {i j : Nat} {x y : CrH} (hI : I = (i : Int)) (hJ : J = (j : Int)) (hi : xs[i]? = some x) (hj : xs[j]? = some y) {C : World → Prop}
    (hC : ∀ w', SE En.crh w' base e q l c (sw xs i j x y) → Chg (fun k => some k = qB q) w w' → C w') :
    ∃ K1 : Addr → Prop, (onPtr q fun a1 => 0 ≤ I ∧ I < ((l : Nat) : Int) ∧ (onPtr q fun a2 => 0 ≤ J ∧ J < ((l : Nat) : Int) ∧ (∃ n1 n2 : Int, ∃ (q1 : Option Addr) (l1 c1 : Nat), reads w (a1.add (I.toNat * 3)) [.int .i64 n1, .int .i64 n2, .slice q1 l1 c1] ∧ Keeps K1 w w ∧ (∃ n4 n5 : Int, ∃ (q4 : Option Addr) (l4 c4 : Nat), reads w (a2.add (J.toNat * 3)) [.int .i64 n4, .int .i64 n5, .slice q4 l4 c4] ∧ Keeps K1 w w ∧ (onPtr q fun a3 => 0 ≤ J ∧ J < ((l : Nat) : Int) ∧ Keeps K1 w w ∧ (canStore w (a3.add (J.toNat * 3)) 3 ∧ ∀ w2 : World, w2 = setCells (a3.add (J.toNat * 3)) 0 [.int .i64 n1, .int .i64 n2, .slice q1 l1 c1] w → Keeps K1 w w2 ∧ (onPtr q fun a4 => 0 ≤ I ∧ I < ((l : Nat) : Int) ∧ canStore w2 (a4.add (I.toNat * 3)) 3 ∧ ∀ w3 : World, w3 = setCells (a4.add (I.toNat * 3)) 0 [.int .i64 n4, .int .i64 n5, .slice q4 l4 c4] w2 → C w3))))) ∧ (∃ n7 n8 : Int, ∃ (q7 : Option Addr) (l7 c7 : Nat), reads w (a2.add (J.toNat * 3)) [.int .i64 n7, .int .i64 n8, .slice q7 l7 c7] ∧ Keeps K1 w w ∧ (∃ n10 n11 : Int, ∃ (q10 : Option Addr) (l10 c10 : Nat), reads w (a1.add (I.toNat * 3)) [.int .i64 n10, .int .i64 n11, .slice q10 l10 c10] ∧ Keeps K1 w w ∧ (onPtr q fun a3 => 0 ≤ J ∧ J < ((l : Nat) : Int) ∧ Keeps K1 w w ∧ (canStore w (a3.add (J.toNat * 3)) 3 ∧ ∀ w2 : World, w2 = setCells (a3.add (J.toNat * 3)) 0 [.int .i64 n10, .int .i64 n11, .slice q10 l10 c10] w → Keeps K1 w w2 ∧ (onPtr q fun a4 => 0 ≤ I ∧ I < ((l : Nat) : Int) ∧ canStore w2 (a4.add (I.toNat * 3)) 3 ∧ ∀ w3 : World, w3 = setCells (a4.add (I.toNat * 3)) 0 [.int .i64 n7, .int .i64 n8, .slice q7 l7 c7] w2 → C w3))))))) := by
  subst hI hJ
  have hl := S.len
  have hil := get_lt hi
  have hjl := get_lt hj
  obtain ⟨a, x', ha, hx', hrx⟩ := S.re.ex (i := i) (by omega)
  obtain ⟨a', y', ha', hy', hry⟩ := S.re.ex (i := j) (by omega)
  subst ha
  cases ha'
  rw [hi] at hx'; cases hx'
  rw [hj] at hy'; cases hy'
  have ti : ((i : Nat) : Int).toNat = i := by omega
  have tj : ((j : Nat) : Int).toNat = j := by omega
  rw [ti, tj]
  have go : ∀ w2, w2 = setCells (a.add (j * 3)) 0 (En.crh.enc x) w → canStore w2 (a.add (i * 3)) 3 ∧ ∀ w3, w3 = setCells (a.add (i * 3)) 0 (En.crh.enc y) w2 → C w3 := fun w2 e2 => by
    obtain ⟨S2, k2⟩ := S.set rfl (i := j) (x' := x) (by omega) e2
    obtain ⟨a2, ha2, hcan⟩ := S2.can (i := i) (by omega)
    cases ha2
    have hc := hcan 0 3 (by decide)
    rw [add_zero'] at hc
    refine ⟨hc, fun w3 e3 => ?_⟩
    obtain ⟨S3, k3⟩ := S2.set rfl (i := i) (x' := y) (by omega) e3
    exact hC w3 S3 (k2.trans k3)
  obtain ⟨a2, ha2, hcan⟩ := S.can (i := j) (by omega)
  cases ha2
  have hc := hcan 0 3 (by decide)
  rw [add_zero'] at hc
  have bi : 0 ≤ (i : Int) ∧ (i : Int) < (l : Int) := by omega
  have bj : 0 ≤ (j : Int) ∧ (j : Int) < (l : Int) := by omega
  exact ⟨fun _ => False, onPtr_mk ⟨bi.1, bi.2, onPtr_mk ⟨bj.1, bj.2, ⟨_, _, _, _, _, hrx, keeps0 _ _, _, _, _, _, _, hry, keeps0 _ _, onPtr_mk ⟨bj.1, bj.2, keeps0 _ _, hc, fun w2 e2 => ⟨keeps0 _ _, onPtr_mk ⟨bi.1, bi.2, (go w2 e2).1, (go w2 e2).2⟩⟩⟩⟩,
    ⟨_, _, _, _, _, hry, keeps0 _ _, _, _, _, _, _, hrx, keeps0 _ _, onPtr_mk ⟨bj.1, bj.2, keeps0 _ _, hc, fun w2 e2 => ⟨keeps0 _ _, onPtr_mk ⟨bi.1, bi.2, (go w2 e2).1, (go w2 e2).2⟩⟩⟩⟩⟩⟩⟩
theorem swapRange123 {w : World} {base : Nat} {q : Option Addr} {l c : Nat} {P A B D S : List T3} (h : SE En.t3 w base 37 q l c (P ++ (A ++ (B ++ (D ++ S))))) (hn : A.length = D.length) (hl : l ≤ 4611686018427387903) :
    Calls Tryd.prog 123 #[.slice q l c, .int .i64 ((P.length : Nat) : Int), .int .i64 ((P.length + A.length + B.length : Nat) : Int), .int .i64 ((A.length : Nat) : Int), .func (.func 40) #[] #[]] w (Ret fun v w' => v = .tuple #[] ∧ SE En.t3 w' base 37 q l c (P ++ (D ++ (B ++ (A ++ S)))) ∧ Chg (fun k => some k = qB q) w w') := by
  have hlen := h.len
  simp only [List.length_append] at hlen
  refine f123_40.calls _ _ _ _ _ _ ?_
  unfold f123_40.wp
  refine ⟨fun x w' => ∃ k : Nat, x = (k : Int) ∧ k ≤ A.length ∧ SE En.t3 w' base 37 q l c (P ++ (D.take k ++ (A.drop k ++ (B ++ (A.take k ++ (D.drop k ++ S)))))) ∧ Chg (fun k => some k = qB q) w w', fun x _ => A.length - x.toNat, ⟨0, rfl, Nat.zero_le _, by simpa using h, Chg.refl _ _⟩, ?_⟩
  rintro _ w1 ⟨k, rfl, hk, S1, k1⟩
  refine bc (fun g => ?_) fun g => ?_
  · have g : k < A.length := by simpa using g
    obtain ⟨x, hx⟩ := get_ex (l := A) g
    obtain ⟨y, hy⟩ := get_ex (l := D) (i := k) (by omega)
    have eA : A.drop k = x :: A.drop (k + 1) := by rw [List.drop_eq_getElem_cons g]; congr 1; rw [List.getElem?_eq_getElem g] at hx; exact Option.some.inj hx
    have eD : D.drop k = y :: D.drop (k + 1) := by rw [List.drop_eq_getElem_cons (by omega)]; congr 1; rw [List.getElem?_eq_getElem (by omega)] at hy; exact Option.some.inj hy
    have tA : A.take (k + 1) = A.take k ++ [x] := by rw [List.take_add_one, hx]; rfl
    have tD : D.take (k + 1) = D.take k ++ [y] := by rw [List.take_add_one, hy]; rfl
    have e0 : P ++ (D.take k ++ (A.drop k ++ (B ++ (A.take k ++ (D.drop k ++ S))))) = (P ++ D.take k) ++ x :: ((A.drop (k + 1) ++ (B ++ A.take k)) ++ y :: (D.drop (k + 1) ++ S)) := by rw [eA, eD]; simp
    have lA : (A.take k).length = k := by simp; omega
    have lD : (D.take k).length = k := by simp; omega
    have lA' : (A.drop (k + 1)).length = A.length - (k + 1) := by simp
    have S1d := S1.drew
    rw [e0] at S1d
    have w1' : IntKind.wrap .i64 (((P.length : Nat) : Int) + (k : Int)) = ((P.length + k : Nat) : Int) := by rw [wrapS (by omega) (by omega)]; omega
    have w2' : IntKind.wrap .i64 (((P.length + A.length + B.length : Nat) : Int) + (k : Int)) = ((P.length + A.length + B.length + k : Nat) : Int) := by rw [wrapS (by omega) (by omega)]; omega
    rw [w1', w2', wrapS (x := (k : Int) + 1) (by omega) (by omega)]
    refine swapT3 S1d (i := P.length + A.length + B.length + k) (j := P.length + k) (x := y) (y := x) rfl rfl ?_ (get_mid (by simp; omega)) fun w' S' k' => ?_
    · have : (P ++ D.take k) ++ x :: ((A.drop (k + 1) ++ (B ++ A.take k)) ++ y :: (D.drop (k + 1) ++ S)) = ((P ++ D.take k) ++ x :: (A.drop (k + 1) ++ (B ++ A.take k))) ++ y :: (D.drop (k + 1) ++ S) := by simp
      rw [this]
      exact get_mid (by simp only [List.length_append, List.length_cons, lA, lD, lA']; omega)
    · rw [sw_mid' (by simp only [List.length_append, lD]) (by simp only [List.length_append, lA, lD, lA']; omega)] at S'
      refine ⟨⟨k + 1, by omega, g, ?_, k1.trans (k'.of_drew)⟩, meas g⟩
      have e1 : P ++ (D.take (k + 1) ++ (A.drop (k + 1) ++ (B ++ (A.take (k + 1) ++ (D.drop (k + 1) ++ S))))) = (P ++ D.take k) ++ y :: ((A.drop (k + 1) ++ (B ++ A.take k)) ++ x :: (D.drop (k + 1) ++ S)) := by rw [tA, tD]; simp
      rw [e1]; exact S'
  · have : k = A.length := by simp at g; omega
    subst this
    refine ⟨rfl, ?_, k1⟩
    have : D.take A.length = D := List.take_of_length_le (by omega)
    have h2 : D.drop A.length = [] := List.drop_eq_nil_of_le (by omega)
    simpa [this, h2] using S1
theorem rotate115 {w : World} {base : Nat} {q : Option Addr} {l c : Nat} {P A B S : List T3} (h : SE En.t3 w base 37 q l c (P ++ (A ++ (B ++ S)))) (hA : A ≠ []) (hB : B ≠ []) (hl : l ≤ 4611686018427387903) :
    Calls Tryd.prog 115 #[.slice q l c, .int .i64 ((P.length : Nat) : Int), .int .i64 ((P.length + A.length : Nat) : Int), .int .i64 ((P.length + A.length + B.length : Nat) : Int), .func (.func 40) #[] #[]] w (Ret fun v w' => v = .tuple #[] ∧ SE En.t3 w' base 37 q l c (P ++ (B ++ (A ++ S))) ∧ Chg (fun k => some k = qB q) w w') := by
  have hlen := h.len
  simp only [List.length_append] at hlen
  obtain ⟨m, hm⟩ : ∃ m, m = P.length + A.length := ⟨_, rfl⟩
  refine f115_40.calls _ _ _ _ _ _ ?_
  unfold f115_40.wp
  rw [← hm]
  rw [show IntKind.wrap .i64 ((m : Int) - ((P.length : Nat) : Int)) = ((A.length : Nat) : Int) by rw [wrapS (by omega) (by omega)]; omega, show IntKind.wrap .i64 (((m + B.length : Nat) : Int) - (m : Int)) = ((B.length : Nat) : Int) by rw [wrapS (by omega) (by omega)]; omega]
  refine ⟨fun x y w' => ∃ P' A' B' S' : List T3, x = ((A'.length : Nat) : Int) ∧ y = ((B'.length : Nat) : Int) ∧ A' ≠ [] ∧ B' ≠ [] ∧ P'.length + A'.length = m ∧ SE En.t3 w' base 37 q l c (P' ++ (A' ++ (B' ++ S'))) ∧ P' ++ (B' ++ (A' ++ S')) = P ++ (B ++ (A ++ S)) ∧ Chg (fun k => some k = qB q) w w', fun x y _ => x.toNat + y.toNat, ⟨P, A, B, S, rfl, rfl, hA, hB, hm.symm, h, rfl, Chg.refl _ _⟩, ?_⟩
  clear h hA hB hlen
  rintro _ _ w1 ⟨P', A', B', S', rfl, rfl, hA, hB, hm', S1, he, k1⟩
  have hlen := S1.len
  simp only [List.length_append] at hlen
  have hA0 := List.length_pos_iff.2 hA
  have hB0 := List.length_pos_iff.2 hB
  have ew : IntKind.wrap .i64 ((m : Int) - ((A'.length : Nat) : Int)) = ((P'.length : Nat) : Int) := by rw [wrapS (by omega) (by omega)]; omega
  rw [ew]
  refine bc (fun hne => bc (fun hgt => ?_) fun hle => ?_) fun heq => ?_
  · -- the left block is longer: its head changes places with the right block
    have hgt : B'.length < A'.length := by have := of_decide_eq_true hgt; omega
    have eA : A'.take B'.length ++ A'.drop B'.length = A' := List.take_append_drop _ _
    have lT : (A'.take B'.length).length = B'.length := by simp; omega
    have lD : (A'.drop B'.length).length = A'.length - B'.length := by simp
    have S1' : SE En.t3 w1 base 37 q l c (P' ++ (A'.take B'.length ++ (A'.drop B'.length ++ (B' ++ S')))) := by rw [← List.append_assoc (A'.take _), eA]; exact S1
    have hc := swapRange123 S1' lT hl
    rw [lT, lD, show P'.length + B'.length + (A'.length - B'.length) = m by omega] at hc
    refine Calls.use hc ?_
    rintro _ w2 ⟨rfl, S2, k2⟩
    rw [show IntKind.wrap .i64 (((A'.length : Nat) : Int) - ((B'.length : Nat) : Int)) = (((A'.drop B'.length).length : Nat) : Int) by rw [wrapS (by omega) (by omega), lD]; omega]
    refine ⟨rfl, ⟨P' ++ B', A'.drop B'.length, A'.take B'.length, S', rfl, by rw [lT], ?_, ?_, by simp only [List.length_append, lD]; omega, by simpa using S2, ?_, k1.trans k2⟩, by show Int.toNat _ + Int.toNat _ < Int.toNat _ + Int.toNat _; simp only [Int.toNat_natCast]; omega⟩
    · exact fun e => by rw [e] at lD; simp at lD; omega
    · exact fun e => by rw [e] at lT; simp at lT; omega
    · rw [← he]
      have : P' ++ B' ++ (A'.take B'.length ++ (A'.drop B'.length ++ S')) = P' ++ (B' ++ ((A'.take B'.length ++ A'.drop B'.length) ++ S')) := by simp only [List.append_assoc]
      rw [this, eA]
  · have hle : A'.length < B'.length := by
      have h1 := of_decide_eq_false hle
      have h2 : ((A'.length : Nat) : Int) ≠ ((B'.length : Nat) : Int) := fun e => by rw [e] at hne; simp at hne
      omega
    obtain ⟨n, hn⟩ : ∃ n, n = B'.length - A'.length := ⟨_, rfl⟩
    have eB : B'.take n ++ B'.drop n = B' := List.take_append_drop _ _
    have lT : (B'.take n).length = n := by simp; omega
    have lD : (B'.drop n).length = A'.length := by simp; omega
    have S1' : SE En.t3 w1 base 37 q l c (P' ++ (A' ++ (B'.take n ++ (B'.drop n ++ S')))) := by rw [← List.append_assoc (B'.take _), eB]; exact S1
    have hc := swapRange123 S1' lD.symm hl
    rw [lT] at hc
    rw [show IntKind.wrap .i64 (IntKind.wrap .i64 ((m : Int) + ((B'.length : Nat) : Int)) - ((A'.length : Nat) : Int)) = ((P'.length + A'.length + n : Nat) : Int) by rw [wrapS (x := (m : Int) + _) (by omega) (by omega), wrapS (by omega) (by omega)]; omega]
    refine Calls.use hc ?_
    rintro _ w2 ⟨rfl, S2, k2⟩
    rw [show IntKind.wrap .i64 (((B'.length : Nat) : Int) - ((A'.length : Nat) : Int)) = ((n : Nat) : Int) by rw [wrapS (by omega) (by omega)]; omega]
    refine ⟨rfl, ⟨P', B'.drop n, B'.take n, A' ++ S', by rw [lD], by rw [lT], ?_, ?_, by omega, S2, ?_, k1.trans k2⟩, by show Int.toNat _ + Int.toNat _ < Int.toNat _ + Int.toNat _; simp only [Int.toNat_natCast]; omega⟩
    · exact fun e => by rw [e] at lD; simp at lD; omega
    · exact fun e => by rw [e] at lT; simp at lT; omega
    · rw [← he]
      have : P' ++ (B'.take n ++ (B'.drop n ++ (A' ++ S'))) = P' ++ ((B'.take n ++ B'.drop n) ++ (A' ++ S')) := by simp only [List.append_assoc]
      rw [this, eB]
  · have heq : A'.length = B'.length := by
      have : ((A'.length : Nat) : Int) = ((B'.length : Nat) : Int) := by simpa using heq
      omega
    have S1' : SE En.t3 w1 base 37 q l c (P' ++ (A' ++ ([] ++ (B' ++ S')))) := by simpa using S1
    have hc := swapRange123 S1' heq hl
    simp only [List.length_nil, Nat.add_zero] at hc
    rw [hm'] at hc
    refine Calls.use hc ?_
    rintro _ w2 ⟨rfl, S2, k2⟩
    exact ⟨rfl, rfl, by rw [← he]; simpa using S2, k1.trans k2⟩
theorem swapRange124 {w : World} {base : Nat} {q : Option Addr} {l c : Nat} {P A B D S : List T3} (h : SE En.t3 w base 44 q l c (P ++ (A ++ (B ++ (D ++ S))))) (hn : A.length = D.length) (hl : l ≤ 4611686018427387903) :
    Calls Tryd.prog 124 #[.slice q l c, .int .i64 ((P.length : Nat) : Int), .int .i64 ((P.length + A.length + B.length : Nat) : Int), .int .i64 ((A.length : Nat) : Int), .func (.func 63) #[] #[]] w (Ret fun v w' => v = .tuple #[] ∧ SE En.t3 w' base 44 q l c (P ++ (D ++ (B ++ (A ++ S)))) ∧ Chg (fun k => some k = qB q) w w') := by
  have hlen := h.len
  simp only [List.length_append] at hlen
  refine f124_63.calls _ _ _ _ _ _ ?_
  unfold f124_63.wp
  refine ⟨fun x w' => ∃ k : Nat, x = (k : Int) ∧ k ≤ A.length ∧ SE En.t3 w' base 44 q l c (P ++ (D.take k ++ (A.drop k ++ (B ++ (A.take k ++ (D.drop k ++ S)))))) ∧ Chg (fun k => some k = qB q) w w', fun x _ => A.length - x.toNat, ⟨0, rfl, Nat.zero_le _, by simpa using h, Chg.refl _ _⟩, ?_⟩
  rintro _ w1 ⟨k, rfl, hk, S1, k1⟩
  refine bc (fun g => ?_) fun g => ?_
  · have g : k < A.length := by simpa using g
    obtain ⟨x, hx⟩ := get_ex (l := A) g
    obtain ⟨y, hy⟩ := get_ex (l := D) (i := k) (by omega)
    have eA : A.drop k = x :: A.drop (k + 1) := by rw [List.drop_eq_getElem_cons g]; congr 1; rw [List.getElem?_eq_getElem g] at hx; exact Option.some.inj hx
    have eD : D.drop k = y :: D.drop (k + 1) := by rw [List.drop_eq_getElem_cons (by omega)]; congr 1; rw [List.getElem?_eq_getElem (by omega)] at hy; exact Option.some.inj hy
    have tA : A.take (k + 1) = A.take k ++ [x] := by rw [List.take_add_one, hx]; rfl
    have tD : D.take (k + 1) = D.take k ++ [y] := by rw [List.take_add_one, hy]; rfl
    have e0 : P ++ (D.take k ++ (A.drop k ++ (B ++ (A.take k ++ (D.drop k ++ S))))) = (P ++ D.take k) ++ x :: ((A.drop (k + 1) ++ (B ++ A.take k)) ++ y :: (D.drop (k + 1) ++ S)) := by rw [eA, eD]; simp
    have lA : (A.take k).length = k := by simp; omega
    have lD : (D.take k).length = k := by simp; omega
    have lA' : (A.drop (k + 1)).length = A.length - (k + 1) := by simp
    have S1d := S1.drew
    rw [e0] at S1d
    have w1' : IntKind.wrap .i64 (((P.length : Nat) : Int) + (k : Int)) = ((P.length + k : Nat) : Int) := by rw [wrapS (by omega) (by omega)]; omega
    have w2' : IntKind.wrap .i64 (((P.length + A.length + B.length : Nat) : Int) + (k : Int)) = ((P.length + A.length + B.length + k : Nat) : Int) := by rw [wrapS (by omega) (by omega)]; omega
    rw [w1', w2', wrapS (x := (k : Int) + 1) (by omega) (by omega)]
    refine swapT3 S1d (i := P.length + A.length + B.length + k) (j := P.length + k) (x := y) (y := x) rfl rfl ?_ (get_mid (by simp; omega)) fun w' S' k' => ?_
    · have : (P ++ D.take k) ++ x :: ((A.drop (k + 1) ++ (B ++ A.take k)) ++ y :: (D.drop (k + 1) ++ S)) = ((P ++ D.take k) ++ x :: (A.drop (k + 1) ++ (B ++ A.take k))) ++ y :: (D.drop (k + 1) ++ S) := by simp
      rw [this]
      exact get_mid (by simp only [List.length_append, List.length_cons, lA, lD, lA']; omega)
    · rw [sw_mid' (by simp only [List.length_append, lD]) (by simp only [List.length_append, lA, lD, lA']; omega)] at S'
      refine ⟨⟨k + 1, by omega, g, ?_, k1.trans (k'.of_drew)⟩, meas g⟩
      have e1 : P ++ (D.take (k + 1) ++ (A.drop (k + 1) ++ (B ++ (A.take (k + 1) ++ (D.drop (k + 1) ++ S))))) = (P ++ D.take k) ++ y :: ((A.drop (k + 1) ++ (B ++ A.take k)) ++ x :: (D.drop (k + 1) ++ S)) := by rw [tA, tD]; simp
      rw [e1]; exact S'
  · have : k = A.length := by simp at g; omega
    subst this
    refine ⟨rfl, ?_, k1⟩
    have : D.take A.length = D := List.take_of_length_le (by omega)
    have h2 : D.drop A.length = [] := List.drop_eq_nil_of_le (by omega)
    simpa [this, h2] using S1
theorem rotate117 {w : World} {base : Nat} {q : Option Addr} {l c : Nat} {P A B S : List T3} (h : SE En.t3 w base 44 q l c (P ++ (A ++ (B ++ S)))) (hA : A ≠ []) (hB : B ≠ []) (hl : l ≤ 4611686018427387903) :
    Calls Tryd.prog 117 #[.slice q l c, .int .i64 ((P.length : Nat) : Int), .int .i64 ((P.length + A.length : Nat) : Int), .int .i64 ((P.length + A.length + B.length : Nat) : Int), .func (.func 63) #[] #[]] w (Ret fun v w' => v = .tuple #[] ∧ SE En.t3 w' base 44 q l c (P ++ (B ++ (A ++ S))) ∧ Chg (fun k => some k = qB q) w w') := by
  have hlen := h.len
  simp only [List.length_append] at hlen
  obtain ⟨m, hm⟩ : ∃ m, m = P.length + A.length := ⟨_, rfl⟩
  refine f117_63.calls _ _ _ _ _ _ ?_
  unfold f117_63.wp
  rw [← hm]
  rw [show IntKind.wrap .i64 ((m : Int) - ((P.length : Nat) : Int)) = ((A.length : Nat) : Int) by rw [wrapS (by omega) (by omega)]; omega, show IntKind.wrap .i64 (((m + B.length : Nat) : Int) - (m : Int)) = ((B.length : Nat) : Int) by rw [wrapS (by omega) (by omega)]; omega]
  refine ⟨fun x y w' => ∃ P' A' B' S' : List T3, x = ((A'.length : Nat) : Int) ∧ y = ((B'.length : Nat) : Int) ∧ A' ≠ [] ∧ B' ≠ [] ∧ P'.length + A'.length = m ∧ SE En.t3 w' base 44 q l c (P' ++ (A' ++ (B' ++ S'))) ∧ P' ++ (B' ++ (A' ++ S')) = P ++ (B ++ (A ++ S)) ∧ Chg (fun k => some k = qB q) w w', fun x y _ => x.toNat + y.toNat, ⟨P, A, B, S, rfl, rfl, hA, hB, hm.symm, h, rfl, Chg.refl _ _⟩, ?_⟩
  clear h hA hB hlen
  rintro _ _ w1 ⟨P', A', B', S', rfl, rfl, hA, hB, hm', S1, he, k1⟩
  have hlen := S1.len
  simp only [List.length_append] at hlen
  have hA0 := List.length_pos_iff.2 hA
  have hB0 := List.length_pos_iff.2 hB
  have ew : IntKind.wrap .i64 ((m : Int) - ((A'.length : Nat) : Int)) = ((P'.length : Nat) : Int) := by rw [wrapS (by omega) (by omega)]; omega
  rw [ew]
  refine bc (fun hne => bc (fun hgt => ?_) fun hle => ?_) fun heq => ?_
  · -- the left block is longer: its head changes places with the right block
    have hgt : B'.length < A'.length := by have := of_decide_eq_true hgt; omega
    have eA : A'.take B'.length ++ A'.drop B'.length = A' := List.take_append_drop _ _
    have lT : (A'.take B'.length).length = B'.length := by simp; omega
    have lD : (A'.drop B'.length).length = A'.length - B'.length := by simp
    have S1' : SE En.t3 w1 base 44 q l c (P' ++ (A'.take B'.length ++ (A'.drop B'.length ++ (B' ++ S')))) := by rw [← List.append_assoc (A'.take _), eA]; exact S1
    have hc := swapRange124 S1' lT hl
    rw [lT, lD, show P'.length + B'.length + (A'.length - B'.length) = m by omega] at hc
    refine Calls.use hc ?_
    rintro _ w2 ⟨rfl, S2, k2⟩
    rw [show IntKind.wrap .i64 (((A'.length : Nat) : Int) - ((B'.length : Nat) : Int)) = (((A'.drop B'.length).length : Nat) : Int) by rw [wrapS (by omega) (by omega), lD]; omega]
    refine ⟨rfl, ⟨P' ++ B', A'.drop B'.length, A'.take B'.length, S', rfl, by rw [lT], ?_, ?_, by simp only [List.length_append, lD]; omega, by simpa using S2, ?_, k1.trans k2⟩, by show Int.toNat _ + Int.toNat _ < Int.toNat _ + Int.toNat _; simp only [Int.toNat_natCast]; omega⟩
    · exact fun e => by rw [e] at lD; simp at lD; omega
    · exact fun e => by rw [e] at lT; simp at lT; omega
    · rw [← he]
      have : P' ++ B' ++ (A'.take B'.length ++ (A'.drop B'.length ++ S')) = P' ++ (B' ++ ((A'.take B'.length ++ A'.drop B'.length) ++ S')) := by simp only [List.append_assoc]
      rw [this, eA]
  · have hle : A'.length < B'.length := by
      have h1 := of_decide_eq_false hle
      have h2 : ((A'.length : Nat) : Int) ≠ ((B'.length : Nat) : Int) := fun e => by rw [e] at hne; simp at hne
      omega
    obtain ⟨n, hn⟩ : ∃ n, n = B'.length - A'.length := ⟨_, rfl⟩
    have eB : B'.take n ++ B'.drop n = B' := List.take_append_drop _ _
    have lT : (B'.take n).length = n := by simp; omega
    have lD : (B'.drop n).length = A'.length := by simp; omega
    have S1' : SE En.t3 w1 base 44 q l c (P' ++ (A' ++ (B'.take n ++ (B'.drop n ++ S')))) := by rw [← List.append_assoc (B'.take _), eB]; exact S1
    have hc := swapRange124 S1' lD.symm hl
    rw [lT] at hc
    rw [show IntKind.wrap .i64 (IntKind.wrap .i64 ((m : Int) + ((B'.length : Nat) : Int)) - ((A'.length : Nat) : Int)) = ((P'.length + A'.length + n : Nat) : Int) by rw [wrapS (x := (m : Int) + _) (by omega) (by omega), wrapS (by omega) (by omega)]; omega]
    refine Calls.use hc ?_
    rintro _ w2 ⟨rfl, S2, k2⟩
    rw [show IntKind.wrap .i64 (((B'.length : Nat) : Int) - ((A'.length : Nat) : Int)) = ((n : Nat) : Int) by rw [wrapS (by omega) (by omega)]; omega]
    refine ⟨rfl, ⟨P', B'.drop n, B'.take n, A' ++ S', by rw [lD], by rw [lT], ?_, ?_, by omega, S2, ?_, k1.trans k2⟩, by show Int.toNat _ + Int.toNat _ < Int.toNat _ + Int.toNat _; simp only [Int.toNat_natCast]; omega⟩
    · exact fun e => by rw [e] at lD; simp at lD; omega
    · exact fun e => by rw [e] at lT; simp at lT; omega
    · rw [← he]
      have : P' ++ (B'.take n ++ (B'.drop n ++ (A' ++ S'))) = P' ++ ((B'.take n ++ B'.drop n) ++ (A' ++ S')) := by simp only [List.append_assoc]
      rw [this, eB]
  · have heq : A'.length = B'.length := by
      have : ((A'.length : Nat) : Int) = ((B'.length : Nat) : Int) := by simpa using heq
      omega
    have S1' : SE En.t3 w1 base 44 q l c (P' ++ (A' ++ ([] ++ (B' ++ S')))) := by simpa using S1
    have hc := swapRange124 S1' heq hl
    simp only [List.length_nil, Nat.add_zero] at hc
    rw [hm'] at hc
    refine Calls.use hc ?_
    rintro _ w2 ⟨rfl, S2, k2⟩
    exact ⟨rfl, rfl, by rw [← he]; simpa using S2, k1.trans k2⟩
theorem swapRange116 {w : World} {base : Nat} {q : Option Addr} {l c : Nat} {P A B D S : List CrH} (h : SE En.crh w base 42 q l c (P ++ (A ++ (B ++ (D ++ S))))) (hn : A.length = D.length) (hl : l ≤ 4611686018427387903) :
    Calls Tryd.prog 116 #[.slice q l c, .int .i64 ((P.length : Nat) : Int), .int .i64 ((P.length + A.length + B.length : Nat) : Int), .int .i64 ((A.length : Nat) : Int), .func (.func 45) #[] #[]] w (Ret fun v w' => v = .tuple #[] ∧ SE En.crh w' base 42 q l c (P ++ (D ++ (B ++ (A ++ S)))) ∧ Chg (fun k => some k = qB q) w w') := by
  have hlen := h.len
  simp only [List.length_append] at hlen
  refine f116_45.calls _ _ _ _ _ _ ?_
  unfold f116_45.wp
  refine ⟨fun x w' => ∃ k : Nat, x = (k : Int) ∧ k ≤ A.length ∧ SE En.crh w' base 42 q l c (P ++ (D.take k ++ (A.drop k ++ (B ++ (A.take k ++ (D.drop k ++ S)))))) ∧ Chg (fun k => some k = qB q) w w', fun x _ => A.length - x.toNat, ⟨0, rfl, Nat.zero_le _, by simpa using h, Chg.refl _ _⟩, ?_⟩
  rintro _ w1 ⟨k, rfl, hk, S1, k1⟩
  refine bc (fun g => ?_) fun g => ?_
  · have g : k < A.length := by simpa using g
    obtain ⟨x, hx⟩ := get_ex (l := A) g
    obtain ⟨y, hy⟩ := get_ex (l := D) (i := k) (by omega)
    have eA : A.drop k = x :: A.drop (k + 1) := by rw [List.drop_eq_getElem_cons g]; congr 1; rw [List.getElem?_eq_getElem g] at hx; exact Option.some.inj hx
    have eD : D.drop k = y :: D.drop (k + 1) := by rw [List.drop_eq_getElem_cons (by omega)]; congr 1; rw [List.getElem?_eq_getElem (by omega)] at hy; exact Option.some.inj hy
    have tA : A.take (k + 1) = A.take k ++ [x] := by rw [List.take_add_one, hx]; rfl
    have tD : D.take (k + 1) = D.take k ++ [y] := by rw [List.take_add_one, hy]; rfl
    have e0 : P ++ (D.take k ++ (A.drop k ++ (B ++ (A.take k ++ (D.drop k ++ S))))) = (P ++ D.take k) ++ x :: ((A.drop (k + 1) ++ (B ++ A.take k)) ++ y :: (D.drop (k + 1) ++ S)) := by rw [eA, eD]; simp
    have lA : (A.take k).length = k := by simp; omega
    have lD : (D.take k).length = k := by simp; omega
    have lA' : (A.drop (k + 1)).length = A.length - (k + 1) := by simp
    have S1d := S1.drew
    rw [e0] at S1d
    have w1' : IntKind.wrap .i64 (((P.length : Nat) : Int) + (k : Int)) = ((P.length + k : Nat) : Int) := by rw [wrapS (by omega) (by omega)]; omega
    have w2' : IntKind.wrap .i64 (((P.length + A.length + B.length : Nat) : Int) + (k : Int)) = ((P.length + A.length + B.length + k : Nat) : Int) := by rw [wrapS (by omega) (by omega)]; omega
    rw [w1', w2', wrapS (x := (k : Int) + 1) (by omega) (by omega)]
    refine swapCrH S1d (i := P.length + A.length + B.length + k) (j := P.length + k) (x := y) (y := x) rfl rfl ?_ (get_mid (by simp; omega)) fun w' S' k' => ?_
    · have : (P ++ D.take k) ++ x :: ((A.drop (k + 1) ++ (B ++ A.take k)) ++ y :: (D.drop (k + 1) ++ S)) = ((P ++ D.take k) ++ x :: (A.drop (k + 1) ++ (B ++ A.take k))) ++ y :: (D.drop (k + 1) ++ S) := by simp
      rw [this]
      exact get_mid (by simp only [List.length_append, List.length_cons, lA, lD, lA']; omega)
    · rw [sw_mid' (by simp only [List.length_append, lD]) (by simp only [List.length_append, lA, lD, lA']; omega)] at S'
      refine ⟨⟨k + 1, by omega, g, ?_, k1.trans (k'.of_drew)⟩, meas g⟩
      have e1 : P ++ (D.take (k + 1) ++ (A.drop (k + 1) ++ (B ++ (A.take (k + 1) ++ (D.drop (k + 1) ++ S))))) = (P ++ D.take k) ++ y :: ((A.drop (k + 1) ++ (B ++ A.take k)) ++ x :: (D.drop (k + 1) ++ S)) := by rw [tA, tD]; simp
      rw [e1]; exact S'
  · have : k = A.length := by simp at g; omega
    subst this
    refine ⟨rfl, ?_, k1⟩
    have : D.take A.length = D := List.take_of_length_le (by omega)
    have h2 : D.drop A.length = [] := List.drop_eq_nil_of_le (by omega)
    simpa [this, h2] using S1
theorem rotate107 {w : World} {base : Nat} {q : Option Addr} {l c : Nat} {P A B S : List CrH} (h : SE En.crh w base 42 q l c (P ++ (A ++ (B ++ S)))) (hA : A ≠ []) (hB : B ≠ []) (hl : l ≤ 4611686018427387903) :
    Calls Tryd.prog 107 #[.slice q l c, .int .i64 ((P.length : Nat) : Int), .int .i64 ((P.length + A.length : Nat) : Int), .int .i64 ((P.length + A.length + B.length : Nat) : Int), .func (.func 45) #[] #[]] w (Ret fun v w' => v = .tuple #[] ∧ SE En.crh w' base 42 q l c (P ++ (B ++ (A ++ S))) ∧ Chg (fun k => some k = qB q) w w') := by
  have hlen := h.len
  simp only [List.length_append] at hlen
  obtain ⟨m, hm⟩ : ∃ m, m = P.length + A.length := ⟨_, rfl⟩
  refine f107_45.calls _ _ _ _ _ _ ?_
  unfold f107_45.wp
  rw [← hm]
  rw [show IntKind.wrap .i64 ((m : Int) - ((P.length : Nat) : Int)) = ((A.length : Nat) : Int) by rw [wrapS (by omega) (by omega)]; omega, show IntKind.wrap .i64 (((m + B.length : Nat) : Int) - (m : Int)) = ((B.length : Nat) : Int) by rw [wrapS (by omega) (by omega)]; omega]
  refine ⟨fun x y w' => ∃ P' A' B' S' : List CrH, x = ((A'.length : Nat) : Int) ∧ y = ((B'.length : Nat) : Int) ∧ A' ≠ [] ∧ B' ≠ [] ∧ P'.length + A'.length = m ∧ SE En.crh w' base 42 q l c (P' ++ (A' ++ (B' ++ S'))) ∧ P' ++ (B' ++ (A' ++ S')) = P ++ (B ++ (A ++ S)) ∧ Chg (fun k => some k = qB q) w w', fun x y _ => x.toNat + y.toNat, ⟨P, A, B, S, rfl, rfl, hA, hB, hm.symm, h, rfl, Chg.refl _ _⟩, ?_⟩
  clear h hA hB hlen
  rintro _ _ w1 ⟨P', A', B', S', rfl, rfl, hA, hB, hm', S1, he, k1⟩
  have hlen := S1.len
  simp only [List.length_append] at hlen
  have hA0 := List.length_pos_iff.2 hA
  have hB0 := List.length_pos_iff.2 hB
  have ew : IntKind.wrap .i64 ((m : Int) - ((A'.length : Nat) : Int)) = ((P'.length : Nat) : Int) := by rw [wrapS (by omega) (by omega)]; omega
  rw [ew]
  refine bc (fun hne => bc (fun hgt => ?_) fun hle => ?_) fun heq => ?_
  · -- the left block is longer: its head changes places with the right block
    have hgt : B'.length < A'.length := by have := of_decide_eq_true hgt; omega
    have eA : A'.take B'.length ++ A'.drop B'.length = A' := List.take_append_drop _ _
    have lT : (A'.take B'.length).length = B'.length := by simp; omega
    have lD : (A'.drop B'.length).length = A'.length - B'.length := by simp
    have S1' : SE En.crh w1 base 42 q l c (P' ++ (A'.take B'.length ++ (A'.drop B'.length ++ (B' ++ S')))) := by rw [← List.append_assoc (A'.take _), eA]; exact S1
    have hc := swapRange116 S1' lT hl
    rw [lT, lD, show P'.length + B'.length + (A'.length - B'.length) = m by omega] at hc
    refine Calls.use hc ?_
    rintro _ w2 ⟨rfl, S2, k2⟩
    rw [show IntKind.wrap .i64 (((A'.length : Nat) : Int) - ((B'.length : Nat) : Int)) = (((A'.drop B'.length).length : Nat) : Int) by rw [wrapS (by omega) (by omega), lD]; omega]
    refine ⟨rfl, ⟨P' ++ B', A'.drop B'.length, A'.take B'.length, S', rfl, by rw [lT], ?_, ?_, by simp only [List.length_append, lD]; omega, by simpa using S2, ?_, k1.trans k2⟩, by show Int.toNat _ + Int.toNat _ < Int.toNat _ + Int.toNat _; simp only [Int.toNat_natCast]; omega⟩
    · exact fun e => by rw [e] at lD; simp at lD; omega
    · exact fun e => by rw [e] at lT; simp at lT; omega
    · rw [← he]
      have : P' ++ B' ++ (A'.take B'.length ++ (A'.drop B'.length ++ S')) = P' ++ (B' ++ ((A'.take B'.length ++ A'.drop B'.length) ++ S')) := by simp only [List.append_assoc]
      rw [this, eA]
  · have hle : A'.length < B'.length := by
      have h1 := of_decide_eq_false hle
      have h2 : ((A'.length : Nat) : Int) ≠ ((B'.length : Nat) : Int) := fun e => by rw [e] at hne; simp at hne
      omega
    obtain ⟨n, hn⟩ : ∃ n, n = B'.length - A'.length := ⟨_, rfl⟩
    have eB : B'.take n ++ B'.drop n = B' := List.take_append_drop _ _
    have lT : (B'.take n).length = n := by simp; omega
    have lD : (B'.drop n).length = A'.length := by simp; omega
    have S1' : SE En.crh w1 base 42 q l c (P' ++ (A' ++ (B'.take n ++ (B'.drop n ++ S')))) := by rw [← List.append_assoc (B'.take _), eB]; exact S1
    have hc := swapRange116 S1' lD.symm hl
    rw [lT] at hc
    rw [show IntKind.wrap .i64 (IntKind.wrap .i64 ((m : Int) + ((B'.length : Nat) : Int)) - ((A'.length : Nat) : Int)) = ((P'.length + A'.length + n : Nat) : Int) by rw [wrapS (x := (m : Int) + _) (by omega) (by omega), wrapS (by omega) (by omega)]; omega]
    refine Calls.use hc ?_
    rintro _ w2 ⟨rfl, S2, k2⟩
    rw [show IntKind.wrap .i64 (((B'.length : Nat) : Int) - ((A'.length : Nat) : Int)) = ((n : Nat) : Int) by rw [wrapS (by omega) (by omega)]; omega]
    refine ⟨rfl, ⟨P', B'.drop n, B'.take n, A' ++ S', by rw [lD], by rw [lT], ?_, ?_, by omega, S2, ?_, k1.trans k2⟩, by show Int.toNat _ + Int.toNat _ < Int.toNat _ + Int.toNat _; simp only [Int.toNat_natCast]; omega⟩
    · exact fun e => by rw [e] at lD; simp at lD; omega
    · exact fun e => by rw [e] at lT; simp at lT; omega
    · rw [← he]
      have : P' ++ (B'.take n ++ (B'.drop n ++ (A' ++ S'))) = P' ++ ((B'.take n ++ B'.drop n) ++ (A' ++ S')) := by simp only [List.append_assoc]
      rw [this, eB]
  · have heq : A'.length = B'.length := by
      have : ((A'.length : Nat) : Int) = ((B'.length : Nat) : Int) := by simpa using heq
      omega
    have S1' : SE En.crh w1 base 42 q l c (P' ++ (A' ++ ([] ++ (B' ++ S')))) := by simpa using S1
    have hc := swapRange116 S1' heq hl
    simp only [List.length_nil, Nat.add_zero] at hc
    rw [hm'] at hc
    refine Calls.use hc ?_
    rintro _ w2 ⟨rfl, S2, k2⟩
    exact ⟨rfl, rfl, by rw [← he]; simpa using S2, k1.trans k2⟩
end Go.Proofs.YtdlbmmodlkmofaaDoor
set_option maxRecDepth 20000
namespace Go.Proofs.YtdlbmmodlkmofaaDoor
open Go Go.Vc Go.RowKit
theorem half64 {i j : Nat} (h : i + j ≤ 9223372036854775807) : IntKind.wrap .i64 (Int.fdiv (IntKind.wrap .u64 (IntKind.wrap .i64 ((i : Int) + (j : Int)))) (2 ^ (min (1 : Int).toNat (IntKind.bits .u64)))) = (((i + j) / 2 : Nat) : Int) := by
  rw [wrapS (x := (i : Int) + (j : Int)) (by omega) (by omega)]
  have h1 : IntKind.wrap .u64 ((i : Int) + (j : Int)) = ((i + j : Nat) : Int) := by
    unfold IntKind.wrap
    simp [IntKind.signed, IntKind.bits]
    omega
  have h2 : ((2 : Int) ^ (min (1 : Int).toNat (IntKind.bits .u64))) = ((2 : Nat) : Int) := by decide
  rw [h1, h2, Int.fdiv_eq_ediv_of_nonneg _ (by omega), ← Int.natCast_ediv, wrapS (by omega) (by omega)]
theorem rdAt {α : Type} {E : En α} {w : World} {base : Nat} {e : TypeId} {p : Addr} {l c : Nat} {xs : List α} (S : SE E w base e (some p) l c xs) {k : Nat} {x : α} (hx : xs[k]? = some x) : reads w (p.add (k * E.k)) (E.enc x) ∧ 0 ≤ (k : Int) ∧ (k : Int) < (l : Int) := by
  obtain ⟨a, ha, hr⟩ := S.re.get k x hx
  cases ha
  have := get_lt hx
  have := S.len
  exact ⟨hr, by omega, by omega⟩
section
variable {α : Type}
theorem get_in {P X S : List α} {k t : Nat} (hk : k = P.length + t) (h : t < X.length) : (P ++ (X ++ S))[k]? = X[t]? := by
  subst hk
  rw [List.getElem?_append_right (by omega), show P.length + t - P.length = t by omega, List.getElem?_append_left h]
theorem get_in2 {P L R S : List α} {k t : Nat} (hk : k = P.length + L.length + t) (h : t < R.length) : (P ++ (L ++ (R ++ S)))[k]? = R[t]? := by
  rw [← List.append_assoc]
  exact get_in (by simpa using hk) h
theorem drop_cons {A : List α} {k : Nat} {x : α} (h : A[k]? = some x) : A.drop k = x :: A.drop (k + 1) := by
  have g := get_lt h
  rw [List.drop_eq_getElem_cons g]
  rw [List.getElem?_eq_getElem g] at h
  rw [Option.some.inj h]
theorem take_snoc {A : List α} {k : Nat} {x : α} (h : A[k]? = some x) : A.take (k + 1) = A.take k ++ [x] := by rw [List.take_add_one, h]; rfl
variable {lt : α → α → Bool}
theorem ins_ok (W : Weak lt) {X A B : List α} {z : α} (hs : Srt lt (A ++ B)) (e : Same lt X (A ++ B)) (hB : ∀ x ∈ B, lt z x = true) (hA : ∀ x ∈ A, lt z x = false) : Srt lt (A ++ z :: B) ∧ Same lt (X ++ [z]) (A ++ z :: B) := by
  refine ⟨List.pairwise_append.2 ⟨hs.left, List.pairwise_cons.2 ⟨fun x hx => W.asym _ _ (hB x hx), hs.right⟩, fun x hx y hy => ?_⟩, ?_⟩
  · rcases List.mem_cons.1 hy with rfl | hy
    · exact hA x hx
    · exact (List.pairwise_append.1 hs).2.2 x hx y hy
  · refine (e.app (Same.refl [z])).trans ?_
    have := (Same.refl (lt := lt) A).app (Same.blocks W (A := B) (B := [z]) fun x hx y hy => by simp at hy; subst hy; exact hB x hx)
    simpa using this
theorem last_ok (W : Weak lt) {A : List α} {u z : α} (hs : Srt lt (A ++ [u])) (h : lt z u = false) : ∀ x ∈ A ++ [u], lt z x = false := fun x hx => by
  rcases List.mem_append.1 hx with hx | hx
  · exact W.tr _ _ _ h ((List.pairwise_append.1 hs).2.2 x hx u (by simp))
  · simp at hx; subst hx; exact h
end
def fLt (a b : T3) : Bool := decide (fOrd a b < 0)
def tLt (a b : T3) : Bool := decide (tOrd a b < 0)
def cOrd (a b : CrH) : Int := cmpI a.step b.step
def cLt (a b : CrH) : Bool := decide (cOrd a b < 0)
theorem fLt_iff (a b : T3) : fLt a b = true ↔ a.1 < b.1 ∨ a.1 = b.1 ∧ a.2.1 < b.2.1 := by
  unfold fLt fOrd firstNZ cmpI
  simp
  split <;> split <;> (try split) <;> (try split) <;> simp_all <;> omega
theorem tLt_iff (a b : T3) : tLt a b = true ↔ a.1 < b.1 := by
  unfold tLt tOrd cmpI
  split <;> (try split) <;> simp_all <;> omega
theorem cLt_iff (a b : CrH) : cLt a b = true ↔ a.step < b.step := by
  unfold cLt cOrd cmpI
  split <;> (try split) <;> simp_all <;> omega
theorem weak_of {α : Type} {lt : α → α → Bool} (h1 : ∀ a b, lt a b = true → ¬ lt b a = true) (h2 : ∀ a b c, ¬ lt a b = true → ¬ lt b c = true → ¬ lt a c = true) : Weak lt :=
  ⟨fun a b h => by simpa using h1 a b h, fun a b c h k => by simpa using h2 a b c (by simpa using h) (by simpa using k)⟩
theorem fW : Weak fLt := weak_of (fun a b => by simp only [fLt_iff]; omega) (fun a b c => by simp only [fLt_iff]; omega)
theorem tW : Weak tLt := weak_of (fun a b => by simp only [tLt_iff]; omega) (fun a b c => by simp only [tLt_iff]; omega)
theorem cW : Weak cLt := weak_of (fun a b => by simp only [cLt_iff]; omega) (fun a b c => by simp only [cLt_iff]; omega)
theorem insertion105 {w : World} {base : Nat} {q : Option Addr} {l c : Nat} {P X S : List T3} (h : SE En.t3 w base 37 q l c (P ++ (X ++ S))) (hl : l ≤ 4611686018427387903) :
    Calls Tryd.prog 105 #[.slice q l c, .int .i64 ((P.length : Nat) : Int), .int .i64 ((P.length + X.length : Nat) : Int), .func (.func 40) #[] #[]] w (Ret fun v w' => v = .tuple #[] ∧ ∃ Y, SE En.t3 w' base 37 q l c (P ++ (Y ++ S)) ∧ Srt fLt Y ∧ Same fLt X Y ∧ Y.length = X.length ∧ Chg (fun k => some k = qB q) w w') := by
  have hlen := h.len
  simp only [List.length_append] at hlen
  refine f105_40.calls _ _ _ _ _ ?_
  unfold f105_40.wp
  refine ⟨fun x w' => ∃ (k : Nat) (Y : List T3), x = ((P.length + k : Nat) : Int) ∧ 1 ≤ k ∧ (k ≤ X.length ∨ k = 1) ∧ SE En.t3 w' base 37 q l c (P ++ (Y ++ (X.drop k ++ S))) ∧ Srt fLt Y ∧ Same fLt (X.take k) Y ∧ Y.length = (X.take k).length ∧ Chg (fun k => some k = qB q) w w', fun x _ => P.length + X.length - x.toNat, ⟨1, X.take 1, ?_, Nat.le_refl _, .inr rfl, ?_, ?_, Same.refl _, rfl, Chg.refl _ _⟩, ?_⟩
  · rw [wrapS (by omega) (by omega)]; omega
  · rw [← List.append_assoc (X.take 1), List.take_append_drop]; exact h
  · cases X with
    | nil => exact Srt.nil
    | cons x r => exact Srt.one x
  rintro _ w1 ⟨k, Y, rfl, hk1, hk, S1, sY, eY, lY, k1⟩
  refine bc (fun g => ?_) fun g => ?_
  · have g : k < X.length := by have := of_decide_eq_true g; omega
    obtain ⟨z, hz⟩ := get_ex (l := X) g
    have lY' : Y.length = k := by rw [lY, List.length_take]; omega
    have S1' : SE En.t3 w1 base 37 q l c (P ++ (Y ++ z :: (X.drop (k + 1) ++ S))) := by
      have : X.drop k ++ S = z :: (X.drop (k + 1) ++ S) := by rw [drop_cons hz]; rfl
      rw [← this]; exact S1
    have fin : ∀ {w' : World} {A B : List T3}, SE En.t3 w' base 37 q l c (P ++ (A ++ z :: (B ++ (X.drop (k + 1) ++ S)))) → A ++ B = Y → (∀ x ∈ B, fLt z x = true) → (∀ x ∈ A, fLt z x = false) → Chg (fun k => some k = qB q) w w' →
        (∃ (k' : Nat) (Y : List T3), IntKind.wrap .i64 (((P.length + k : Nat) : Int) + 1) = ((P.length + k' : Nat) : Int) ∧ 1 ≤ k' ∧ (k' ≤ X.length ∨ k' = 1) ∧ SE En.t3 w' base 37 q l c (P ++ (Y ++ (X.drop k' ++ S))) ∧ Srt fLt Y ∧ Same fLt (X.take k') Y ∧ Y.length = (X.take k').length ∧ Chg (fun k => some k = qB q) w w') ∧ P.length + X.length - (IntKind.wrap .i64 (((P.length + k : Nat) : Int) + 1)).toNat < P.length + X.length - ((P.length + k : Nat) : Int).toNat := fun {w' A B} S' hAB hB hA k' => by
      have ew : IntKind.wrap .i64 (((P.length + k : Nat) : Int) + 1) = ((P.length + (k + 1) : Nat) : Int) := by rw [wrapS (by omega) (by omega)]; omega
      rw [ew]
      obtain ⟨s1, s2⟩ := ins_ok fW (X := X.take k) (A := A) (B := B) (z := z) (by rw [hAB]; exact sY) (by rw [hAB]; exact eY) hB hA
      have e0 := congrArg List.length hAB
      simp only [List.length_append] at e0
      refine ⟨⟨k + 1, A ++ z :: B, rfl, by omega, .inl (by omega), by simpa using S', s1, by rw [take_snoc hz]; exact s2, ?_, k'⟩, by simp only [Int.toNat_natCast]; omega⟩
      simp only [List.length_append, List.length_cons, List.length_take]; omega
    refine ⟨fun x w' => ∃ A B : List T3, x = ((P.length + A.length : Nat) : Int) ∧ SE En.t3 w' base 37 q l c (P ++ (A ++ z :: (B ++ (X.drop (k + 1) ++ S)))) ∧ A ++ B = Y ∧ (∀ x ∈ B, fLt z x = true) ∧ Chg (fun k => some k = qB q) w w', fun x _ => x.toNat, ⟨Y, [], by rw [lY'], S1', by simp, fun x hx => by simp at hx, k1⟩, ?_⟩
    rintro _ w2 ⟨A, B, rfl, S2, hAB, hB, k2⟩
    have S2d := S2.drew
    have l2 := S2.len
    simp only [List.length_append, List.length_cons, List.length_drop] at l2
    refine bc (fun g1 => ?_) fun g1 => ?_
    · have g1 : 0 < A.length := by have := of_decide_eq_true g1; omega
      obtain ⟨A', u, rfl⟩ : ∃ A' u, A = A' ++ [u] := ⟨A.dropLast, A.getLast (List.length_pos_iff.1 g1), (List.dropLast_concat_getLast _).symm⟩
      have lA : (A' ++ [u]).length = A'.length + 1 := by simp
      rw [lA] at l2
      have ej : ((P.length + (A' ++ [u]).length : Nat) : Int) = ((P.length + A'.length + 1 : Nat) : Int) := by rw [lA]; omega
      have ej1 : IntKind.wrap .i64 (((P.length + A'.length + 1 : Nat) : Int) - 1) = ((P.length + A'.length : Nat) : Int) := by rw [wrapS (by omega) (by omega)]; omega
      rw [ej, ej1]
      have eL : P ++ ((A' ++ [u]) ++ z :: (B ++ (X.drop (k + 1) ++ S))) = (P ++ A') ++ u :: ([] ++ z :: (B ++ (X.drop (k + 1) ++ S))) := by simp
      rw [eL] at S2d
      have gu : ((P ++ A') ++ u :: ([] ++ z :: (B ++ (X.drop (k + 1) ++ S))))[P.length + A'.length]? = some u := get_mid (by simp)
      have gz : ((P ++ A') ++ u :: ([] ++ z :: (B ++ (X.drop (k + 1) ++ S))))[P.length + A'.length + 1]? = some z := by
        have : (P ++ A') ++ u :: ([] ++ z :: (B ++ (X.drop (k + 1) ++ S))) = (P ++ A' ++ [u]) ++ z :: (B ++ (X.drop (k + 1) ++ S)) := by simp
        rw [this]; exact get_mid (by simp; omega)
      obtain ⟨p, hp⟩ : ∃ p, q = some p := by obtain ⟨a, _, ha, _⟩ := S2.re.ex (i := 0) (by omega); exact ⟨a, ha⟩
      subst hp
      obtain ⟨rz, bz⟩ := rdAt S2d gz
      obtain ⟨ru, bu⟩ := rdAt S2d gu
      refine onPtr_mk ⟨bz.1, bz.2, _, _, _, rz, onPtr_mk ⟨bu.1, bu.2, _, _, _, ru, Calls.use (ord40 w2.drew z u) ?_⟩⟩
      rintro _ w3 ⟨rfl, k3⟩
      have S3 := (S2d.chgN k3).drew
      refine ⟨_, rfl, bc (fun hlt => ?_) fun hge => ?_⟩
      · refine swapT3 S3 (i := P.length + A'.length) (j := P.length + A'.length + 1) (x := u) (y := z) rfl rfl gu gz fun w' S' k' => ?_
        rw [sw_mid (by simp) (by simp)] at S'
        refine ⟨⟨A', u :: B, rfl, by simpa using S', by rw [← hAB]; simp, fun x hx => ?_, k2.trans (((k3.of_none _).of_drew).trans k'.of_drew)⟩, by simp only [Int.toNat_natCast]; omega⟩
        rcases List.mem_cons.1 hx with rfl | hx
        · exact hlt
        · exact hB x hx
      · refine fin (w' := w3) (A := A' ++ [u]) (B := B) ?_ hAB hB (last_ok fW (Srt.left (B := B) (by rw [hAB]; exact sY)) hge) (k2.trans ((k3.of_none _).of_drew))
        rw [eL]
        exact S2d.chgN k3
    · have : A = [] := by
        have h0 : ¬ (((P.length + A.length : Nat) : Int) > ((P.length : Nat) : Int)) := of_decide_eq_false g1
        exact List.eq_nil_of_length_eq_zero (by omega)
      subst this
      exact fin (A := []) (B := B) S2d hAB hB (fun x hx => by simp at hx) k2.drew
  · have g : X.length ≤ k := by have := of_decide_eq_false g; omega
    have e1 : X.take k = X := List.take_of_length_le g
    have e2 : X.drop k = [] := List.drop_eq_nil_of_le g
    rw [e1] at eY lY
    rw [e2] at S1
    exact ⟨rfl, Y, by simpa using S1, sY, eY, lY, k1⟩
theorem insertion108 {w : World} {base : Nat} {q : Option Addr} {l c : Nat} {P X S : List T3} (h : SE En.t3 w base 44 q l c (P ++ (X ++ S))) (hl : l ≤ 4611686018427387903) :
    Calls Tryd.prog 108 #[.slice q l c, .int .i64 ((P.length : Nat) : Int), .int .i64 ((P.length + X.length : Nat) : Int), .func (.func 63) #[] #[]] w (Ret fun v w' => v = .tuple #[] ∧ ∃ Y, SE En.t3 w' base 44 q l c (P ++ (Y ++ S)) ∧ Srt tLt Y ∧ Same tLt X Y ∧ Y.length = X.length ∧ Chg (fun k => some k = qB q) w w') := by
  have hlen := h.len
  simp only [List.length_append] at hlen
  refine f108_63.calls _ _ _ _ _ ?_
  unfold f108_63.wp
  refine ⟨fun x w' => ∃ (k : Nat) (Y : List T3), x = ((P.length + k : Nat) : Int) ∧ 1 ≤ k ∧ (k ≤ X.length ∨ k = 1) ∧ SE En.t3 w' base 44 q l c (P ++ (Y ++ (X.drop k ++ S))) ∧ Srt tLt Y ∧ Same tLt (X.take k) Y ∧ Y.length = (X.take k).length ∧ Chg (fun k => some k = qB q) w w', fun x _ => P.length + X.length - x.toNat, ⟨1, X.take 1, ?_, Nat.le_refl _, .inr rfl, ?_, ?_, Same.refl _, rfl, Chg.refl _ _⟩, ?_⟩
  · rw [wrapS (by omega) (by omega)]; omega
  · rw [← List.append_assoc (X.take 1), List.take_append_drop]; exact h
  · cases X with
    | nil => exact Srt.nil
    | cons x r => exact Srt.one x
  rintro _ w1 ⟨k, Y, rfl, hk1, hk, S1, sY, eY, lY, k1⟩
  refine bc (fun g => ?_) fun g => ?_
  · have g : k < X.length := by have := of_decide_eq_true g; omega
    obtain ⟨z, hz⟩ := get_ex (l := X) g
    have lY' : Y.length = k := by rw [lY, List.length_take]; omega
    have S1' : SE En.t3 w1 base 44 q l c (P ++ (Y ++ z :: (X.drop (k + 1) ++ S))) := by
      have : X.drop k ++ S = z :: (X.drop (k + 1) ++ S) := by rw [drop_cons hz]; rfl
      rw [← this]; exact S1
    have fin : ∀ {w' : World} {A B : List T3}, SE En.t3 w' base 44 q l c (P ++ (A ++ z :: (B ++ (X.drop (k + 1) ++ S)))) → A ++ B = Y → (∀ x ∈ B, tLt z x = true) → (∀ x ∈ A, tLt z x = false) → Chg (fun k => some k = qB q) w w' →
        (∃ (k' : Nat) (Y : List T3), IntKind.wrap .i64 (((P.length + k : Nat) : Int) + 1) = ((P.length + k' : Nat) : Int) ∧ 1 ≤ k' ∧ (k' ≤ X.length ∨ k' = 1) ∧ SE En.t3 w' base 44 q l c (P ++ (Y ++ (X.drop k' ++ S))) ∧ Srt tLt Y ∧ Same tLt (X.take k') Y ∧ Y.length = (X.take k').length ∧ Chg (fun k => some k = qB q) w w') ∧ P.length + X.length - (IntKind.wrap .i64 (((P.length + k : Nat) : Int) + 1)).toNat < P.length + X.length - ((P.length + k : Nat) : Int).toNat := fun {w' A B} S' hAB hB hA k' => by
      have ew : IntKind.wrap .i64 (((P.length + k : Nat) : Int) + 1) = ((P.length + (k + 1) : Nat) : Int) := by rw [wrapS (by omega) (by omega)]; omega
      rw [ew]
      obtain ⟨s1, s2⟩ := ins_ok tW (X := X.take k) (A := A) (B := B) (z := z) (by rw [hAB]; exact sY) (by rw [hAB]; exact eY) hB hA
      have e0 := congrArg List.length hAB
      simp only [List.length_append] at e0
      refine ⟨⟨k + 1, A ++ z :: B, rfl, by omega, .inl (by omega), by simpa using S', s1, by rw [take_snoc hz]; exact s2, ?_, k'⟩, by simp only [Int.toNat_natCast]; omega⟩
      simp only [List.length_append, List.length_cons, List.length_take]; omega
    refine ⟨fun x w' => ∃ A B : List T3, x = ((P.length + A.length : Nat) : Int) ∧ SE En.t3 w' base 44 q l c (P ++ (A ++ z :: (B ++ (X.drop (k + 1) ++ S)))) ∧ A ++ B = Y ∧ (∀ x ∈ B, tLt z x = true) ∧ Chg (fun k => some k = qB q) w w', fun x _ => x.toNat, ⟨Y, [], by rw [lY'], S1', by simp, fun x hx => by simp at hx, k1⟩, ?_⟩
    rintro _ w2 ⟨A, B, rfl, S2, hAB, hB, k2⟩
    have S2d := S2.drew
    have l2 := S2.len
    simp only [List.length_append, List.length_cons, List.length_drop] at l2
    refine bc (fun g1 => ?_) fun g1 => ?_
    · have g1 : 0 < A.length := by have := of_decide_eq_true g1; omega
      obtain ⟨A', u, rfl⟩ : ∃ A' u, A = A' ++ [u] := ⟨A.dropLast, A.getLast (List.length_pos_iff.1 g1), (List.dropLast_concat_getLast _).symm⟩
      have lA : (A' ++ [u]).length = A'.length + 1 := by simp
      rw [lA] at l2
      have ej : ((P.length + (A' ++ [u]).length : Nat) : Int) = ((P.length + A'.length + 1 : Nat) : Int) := by rw [lA]; omega
      have ej1 : IntKind.wrap .i64 (((P.length + A'.length + 1 : Nat) : Int) - 1) = ((P.length + A'.length : Nat) : Int) := by rw [wrapS (by omega) (by omega)]; omega
      rw [ej, ej1]
      have eL : P ++ ((A' ++ [u]) ++ z :: (B ++ (X.drop (k + 1) ++ S))) = (P ++ A') ++ u :: ([] ++ z :: (B ++ (X.drop (k + 1) ++ S))) := by simp
      rw [eL] at S2d
      have gu : ((P ++ A') ++ u :: ([] ++ z :: (B ++ (X.drop (k + 1) ++ S))))[P.length + A'.length]? = some u := get_mid (by simp)
      have gz : ((P ++ A') ++ u :: ([] ++ z :: (B ++ (X.drop (k + 1) ++ S))))[P.length + A'.length + 1]? = some z := by
        have : (P ++ A') ++ u :: ([] ++ z :: (B ++ (X.drop (k + 1) ++ S))) = (P ++ A' ++ [u]) ++ z :: (B ++ (X.drop (k + 1) ++ S)) := by simp
        rw [this]; exact get_mid (by simp; omega)
      obtain ⟨p, hp⟩ : ∃ p, q = some p := by obtain ⟨a, _, ha, _⟩ := S2.re.ex (i := 0) (by omega); exact ⟨a, ha⟩
      subst hp
      obtain ⟨rz, bz⟩ := rdAt S2d gz
      obtain ⟨ru, bu⟩ := rdAt S2d gu
      refine onPtr_mk ⟨bz.1, bz.2, _, _, _, rz, onPtr_mk ⟨bu.1, bu.2, _, _, _, ru, Calls.use (ord63 w2.drew z u) ?_⟩⟩
      rintro _ w3 ⟨rfl, k3⟩
      have S3 := (S2d.chgN k3).drew
      refine ⟨_, rfl, bc (fun hlt => ?_) fun hge => ?_⟩
      · refine swapT3 S3 (i := P.length + A'.length) (j := P.length + A'.length + 1) (x := u) (y := z) rfl rfl gu gz fun w' S' k' => ?_
        rw [sw_mid (by simp) (by simp)] at S'
        refine ⟨⟨A', u :: B, rfl, by simpa using S', by rw [← hAB]; simp, fun x hx => ?_, k2.trans (((k3.of_none _).of_drew).trans k'.of_drew)⟩, by simp only [Int.toNat_natCast]; omega⟩
        rcases List.mem_cons.1 hx with rfl | hx
        · exact hlt
        · exact hB x hx
      · refine fin (w' := w3) (A := A' ++ [u]) (B := B) ?_ hAB hB (last_ok tW (Srt.left (B := B) (by rw [hAB]; exact sY)) hge) (k2.trans ((k3.of_none _).of_drew))
        rw [eL]
        exact S2d.chgN k3
    · have : A = [] := by
        have h0 : ¬ (((P.length + A.length : Nat) : Int) > ((P.length : Nat) : Int)) := of_decide_eq_false g1
        exact List.eq_nil_of_length_eq_zero (by omega)
      subst this
      exact fin (A := []) (B := B) S2d hAB hB (fun x hx => by simp at hx) k2.drew
  · have g : X.length ≤ k := by have := of_decide_eq_false g; omega
    have e1 : X.take k = X := List.take_of_length_le g
    have e2 : X.drop k = [] := List.drop_eq_nil_of_le g
    rw [e1] at eY lY
    rw [e2] at S1
    exact ⟨rfl, Y, by simpa using S1, sY, eY, lY, k1⟩
theorem insertion99 {w : World} {base : Nat} {q : Option Addr} {l c : Nat} {P X S : List CrH} (h : SE En.crh w base 42 q l c (P ++ (X ++ S))) (hl : l ≤ 4611686018427387903) :
    Calls Tryd.prog 99 #[.slice q l c, .int .i64 ((P.length : Nat) : Int), .int .i64 ((P.length + X.length : Nat) : Int), .func (.func 45) #[] #[]] w (Ret fun v w' => v = .tuple #[] ∧ ∃ Y, SE En.crh w' base 42 q l c (P ++ (Y ++ S)) ∧ Srt cLt Y ∧ Same cLt X Y ∧ Y.length = X.length ∧ Chg (fun k => some k = qB q) w w') := by
  have hlen := h.len
  simp only [List.length_append] at hlen
  refine f99_45.calls _ _ _ _ _ ?_
  unfold f99_45.wp
  refine ⟨fun x w' => ∃ (k : Nat) (Y : List CrH), x = ((P.length + k : Nat) : Int) ∧ 1 ≤ k ∧ (k ≤ X.length ∨ k = 1) ∧ SE En.crh w' base 42 q l c (P ++ (Y ++ (X.drop k ++ S))) ∧ Srt cLt Y ∧ Same cLt (X.take k) Y ∧ Y.length = (X.take k).length ∧ Chg (fun k => some k = qB q) w w', fun x _ => P.length + X.length - x.toNat, ⟨1, X.take 1, ?_, Nat.le_refl _, .inr rfl, ?_, ?_, Same.refl _, rfl, Chg.refl _ _⟩, ?_⟩
  · rw [wrapS (by omega) (by omega)]; omega
  · rw [← List.append_assoc (X.take 1), List.take_append_drop]; exact h
  · cases X with
    | nil => exact Srt.nil
    | cons x r => exact Srt.one x
  rintro _ w1 ⟨k, Y, rfl, hk1, hk, S1, sY, eY, lY, k1⟩
  refine bc (fun g => ?_) fun g => ?_
  · have g : k < X.length := by have := of_decide_eq_true g; omega
    obtain ⟨z, hz⟩ := get_ex (l := X) g
    have lY' : Y.length = k := by rw [lY, List.length_take]; omega
    have S1' : SE En.crh w1 base 42 q l c (P ++ (Y ++ z :: (X.drop (k + 1) ++ S))) := by
      have : X.drop k ++ S = z :: (X.drop (k + 1) ++ S) := by rw [drop_cons hz]; rfl
      rw [← this]; exact S1
    have fin : ∀ {w' : World} {A B : List CrH}, SE En.crh w' base 42 q l c (P ++ (A ++ z :: (B ++ (X.drop (k + 1) ++ S)))) → A ++ B = Y → (∀ x ∈ B, cLt z x = true) → (∀ x ∈ A, cLt z x = false) → Chg (fun k => some k = qB q) w w' →
        (∃ (k' : Nat) (Y : List CrH), IntKind.wrap .i64 (((P.length + k : Nat) : Int) + 1) = ((P.length + k' : Nat) : Int) ∧ 1 ≤ k' ∧ (k' ≤ X.length ∨ k' = 1) ∧ SE En.crh w' base 42 q l c (P ++ (Y ++ (X.drop k' ++ S))) ∧ Srt cLt Y ∧ Same cLt (X.take k') Y ∧ Y.length = (X.take k').length ∧ Chg (fun k => some k = qB q) w w') ∧ P.length + X.length - (IntKind.wrap .i64 (((P.length + k : Nat) : Int) + 1)).toNat < P.length + X.length - ((P.length + k : Nat) : Int).toNat := fun {w' A B} S' hAB hB hA k' => by
      have ew : IntKind.wrap .i64 (((P.length + k : Nat) : Int) + 1) = ((P.length + (k + 1) : Nat) : Int) := by rw [wrapS (by omega) (by omega)]; omega
      rw [ew]
      obtain ⟨s1, s2⟩ := ins_ok cW (X := X.take k) (A := A) (B := B) (z := z) (by rw [hAB]; exact sY) (by rw [hAB]; exact eY) hB hA
      have e0 := congrArg List.length hAB
      simp only [List.length_append] at e0
      refine ⟨⟨k + 1, A ++ z :: B, rfl, by omega, .inl (by omega), by simpa using S', s1, by rw [take_snoc hz]; exact s2, ?_, k'⟩, by simp only [Int.toNat_natCast]; omega⟩
      simp only [List.length_append, List.length_cons, List.length_take]; omega
    refine ⟨fun x w' => ∃ A B : List CrH, x = ((P.length + A.length : Nat) : Int) ∧ SE En.crh w' base 42 q l c (P ++ (A ++ z :: (B ++ (X.drop (k + 1) ++ S)))) ∧ A ++ B = Y ∧ (∀ x ∈ B, cLt z x = true) ∧ Chg (fun k => some k = qB q) w w', fun x _ => x.toNat, ⟨Y, [], by rw [lY'], S1', by simp, fun x hx => by simp at hx, k1⟩, ?_⟩
    rintro _ w2 ⟨A, B, rfl, S2, hAB, hB, k2⟩
    have S2d := S2.drew
    have l2 := S2.len
    simp only [List.length_append, List.length_cons, List.length_drop] at l2
    refine bc (fun g1 => ?_) fun g1 => ?_
    · have g1 : 0 < A.length := by have := of_decide_eq_true g1; omega
      obtain ⟨A', u, rfl⟩ : ∃ A' u, A = A' ++ [u] := ⟨A.dropLast, A.getLast (List.length_pos_iff.1 g1), (List.dropLast_concat_getLast _).symm⟩
      have lA : (A' ++ [u]).length = A'.length + 1 := by simp
      rw [lA] at l2
      have ej : ((P.length + (A' ++ [u]).length : Nat) : Int) = ((P.length + A'.length + 1 : Nat) : Int) := by rw [lA]; omega
      have ej1 : IntKind.wrap .i64 (((P.length + A'.length + 1 : Nat) : Int) - 1) = ((P.length + A'.length : Nat) : Int) := by rw [wrapS (by omega) (by omega)]; omega
      rw [ej, ej1]
      have eL : P ++ ((A' ++ [u]) ++ z :: (B ++ (X.drop (k + 1) ++ S))) = (P ++ A') ++ u :: ([] ++ z :: (B ++ (X.drop (k + 1) ++ S))) := by simp
      rw [eL] at S2d
      have gu : ((P ++ A') ++ u :: ([] ++ z :: (B ++ (X.drop (k + 1) ++ S))))[P.length + A'.length]? = some u := get_mid (by simp)
      have gz : ((P ++ A') ++ u :: ([] ++ z :: (B ++ (X.drop (k + 1) ++ S))))[P.length + A'.length + 1]? = some z := by
        have : (P ++ A') ++ u :: ([] ++ z :: (B ++ (X.drop (k + 1) ++ S))) = (P ++ A' ++ [u]) ++ z :: (B ++ (X.drop (k + 1) ++ S)) := by simp
        rw [this]; exact get_mid (by simp; omega)
      obtain ⟨p, hp⟩ : ∃ p, q = some p := by obtain ⟨a, _, ha, _⟩ := S2.re.ex (i := 0) (by omega); exact ⟨a, ha⟩
      subst hp
      obtain ⟨rz, bz⟩ := rdAt S2d gz
      obtain ⟨ru, bu⟩ := rdAt S2d gu
      refine onPtr_mk ⟨bz.1, bz.2, _, _, _, _, _, rz, onPtr_mk ⟨bu.1, bu.2, _, _, _, _, _, ru, Calls.use (ord45 w2.drew z u) ?_⟩⟩
      rintro _ w3 ⟨rfl, k3⟩
      have S3 := (S2d.chgN k3).drew
      refine ⟨_, rfl, bc (fun hlt => ?_) fun hge => ?_⟩
      · refine swapCrH S3 (i := P.length + A'.length) (j := P.length + A'.length + 1) (x := u) (y := z) rfl rfl gu gz fun w' S' k' => ?_
        rw [sw_mid (by simp) (by simp)] at S'
        refine ⟨⟨A', u :: B, rfl, by simpa using S', by rw [← hAB]; simp, fun x hx => ?_, k2.trans (((k3.of_none _).of_drew).trans k'.of_drew)⟩, by simp only [Int.toNat_natCast]; omega⟩
        rcases List.mem_cons.1 hx with rfl | hx
        · exact hlt
        · exact hB x hx
      · refine fin (w' := w3) (A := A' ++ [u]) (B := B) ?_ hAB hB (last_ok cW (Srt.left (B := B) (by rw [hAB]; exact sY)) hge) (k2.trans ((k3.of_none _).of_drew))
        rw [eL]
        exact S2d.chgN k3
    · have : A = [] := by
        have h0 : ¬ (((P.length + A.length : Nat) : Int) > ((P.length : Nat) : Int)) := of_decide_eq_false g1
        exact List.eq_nil_of_length_eq_zero (by omega)
      subst this
      exact fin (A := []) (B := B) S2d hAB hB (fun x hx => by simp at hx) k2.drew
  · have g : X.length ≤ k := by have := of_decide_eq_false g; omega
    have e1 : X.take k = X := List.take_of_length_le g
    have e2 : X.drop k = [] := List.drop_eq_nil_of_le g
    rw [e1] at eY lY
    rw [e2] at S1
    exact ⟨rfl, Y, by simpa using S1, sY, eY, lY, k1⟩
end Go.Proofs.YtdlbmmodlkmofaaDoor
