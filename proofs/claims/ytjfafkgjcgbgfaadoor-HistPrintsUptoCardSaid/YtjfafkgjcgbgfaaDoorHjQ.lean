import Derived.Test.YtjfafkgjcgbgfaaDoorHjP
set_option maxRecDepth 20000
namespace Go.Proofs.YtjfafkgjcgbgfaaDoor
open Go Go.Vc Go.RowKit
/-- what was told of a life -/
structure Tl where
  es : List Ev
  an : List (List An)
  steps : Int
def allX (strict : Bool) (kp : Int → Bool) : List (List (List Cl) × Tl) → Int → Int → Option (List Mv)
  | [], _, _ => some []
  | l :: r, i, b => (lifeX ⟨strict, kp, i, b, l.2.steps, l.1, l.2.an⟩ l.2.es).bind fun o => (allX strict kp r (i + 1) (b + l.2.steps)).map (o ++ ·)
def tot (ts : List Tl) : Nat := (ts.map fun t => t.es.length).sum
theorem tot_take (ts : List Tl) (n : Nat) : tot (ts.take n) ≤ tot ts := by
  unfold tot
  have : ts = ts.take n ++ ts.drop n := (List.take_append_drop n ts).symm
  conv => rhs; rw [this]
  rw [List.map_append, List.sum_append]
  omega
theorem tot_next {ts : List Tl} {n : Nat} {t : Tl} (h : ts[n]? = some t) : tot (ts.take (n + 1)) = tot (ts.take n) + t.es.length := by
  unfold tot
  rw [List.take_add_one, h, List.map_append, List.sum_append]
  simp
theorem tot_at {ts : List Tl} {n : Nat} {t : Tl} (h : ts[n]? = some t) : t.es.length ≤ tot ts := by
  have h1 := tot_next h
  have h2 := tot_take ts (n + 1)
  omega
theorem lifeX_steps {p : P} {es : List Ev} {o : List Mv} (h : lifeX p es = some o) : 0 ≤ p.steps ∧ p.steps ≤ 1048576 := by
  unfold lifeX at h
  split at h
  · cases h
  · omega
theorem getElem_of_some {α : Type} {l : List α} {i : Nat} {x : α} (h : l[i]? = some x) {hi : i < l.length} : l[i] = x := by
  rw [List.getElem?_eq_getElem hi] at h
  exact Option.some.inj h
/-- a script's lives, to be read -/
structure SL (w : World) (q : Option Addr) (l : Nat) (css : List (List (List Cl))) : Prop where
  len : css.length = l
  get : ∀ i cs, css[i]? = some cs → ∃ a qc lc cc qx lx cx qy ly cy p1 p2 qz lz cz, q = some a ∧ reads w (a.add (i * 6)) [.slice qc lc cc, .slice qx lx cx, .slice qy ly cy, .int .i64 p1, .int .i64 p2, .slice qz lz cz] ∧ RRs En.cl w qc lc cs ∧ lc ≤ 1048576
/-- what was told, to be read -/
structure TL (w : World) (q : Option Addr) (l : Nat) (ts : List Tl) : Prop where
  len : ts.length = l
  get : ∀ i (t : Tl), ts[i]? = some t → ∃ a qe le ce qa la ca b1 j1 j2 j3 j4 j5 j6 j7 b2 j8 j9 j10 j11 j12 qu lu cu, q = some a ∧ reads w (a.add (i * 18)) [.slice qe le ce, .slice qa la ca, .int .i64 t.steps, .bool b1, .int .u64 j1, .int .u64 j2, .int .u64 j3, .int .i64 j4, .int .i64 j5, .int .i64 j6, .int .i64 j7, .bool b2, .int .i64 j8, .int .i64 j9, .int .i64 j10, .int .i64 j11, .int .i64 j12, .slice qu lu cu] ∧ RE En.ev w qe le t.es ∧ RRs En.an w qa la t.an ∧ le ≤ 1048576
theorem SL.chg {w w' : World} {q : Option Addr} {l : Nat} {css : List (List (List Cl))} (h : SL w q l css) (k : Chg none_ w w') : SL w' q l css :=
  ⟨h.len, fun i cs hi => by
    obtain ⟨a, qc, lc, cc, qx, lx, cx, qy, ly, cy, p1, p2, qz, lz, cz, h1, h2, h3, h4⟩ := h.get i cs hi
    exact ⟨a, qc, lc, cc, qx, lx, cx, qy, ly, cy, p1, p2, qz, lz, cz, h1, k.readsN h2, h3.chg k, h4⟩⟩
theorem TL.chg {w w' : World} {q : Option Addr} {l : Nat} {ts : List Tl} (h : TL w q l ts) (k : Chg none_ w w') : TL w' q l ts :=
  ⟨h.len, fun i t hi => by
    obtain ⟨a, qe, le, ce, qa, la, ca, b1, j1, j2, j3, j4, j5, j6, j7, b2, j8, j9, j10, j11, j12, qu, lu, cu, h1, h2, h3, h4, h5⟩ := h.get i t hi
    exact ⟨a, qe, le, ce, qa, la, ca, b1, j1, j2, j3, j4, j5, j6, j7, b2, j8, j9, j10, j11, j12, qu, lu, cu, h1, k.readsN h2, h3.chg k, h4.chg k, h5⟩⟩
/-- what Moves tells -/
def MovR (strict : Bool) (kp : Int → Bool) (css : List (List (List Cl))) (ts : List Tl) (w : World) (v : Value) (w' : World) : Prop := Chg none_ w w' ∧
  ((∃ q l c out, v = .tuple #[.slice q l c, .int .i64 0] ∧ SE En.mv w' w.heap.size 33 q l c out ∧ css.length = ts.length ∧ allX strict kp (css.zip ts) 0 0 = some out ∧ Chk out 0 0) ∨
    (v = .tuple #[.slice none 0 0, .int .i64 240] ∧ ¬ (css.length = ts.length ∧ ∃ out, allX strict kp (css.zip ts) 0 0 = some out ∧ Chk out 0 0)))
theorem moves8 {w : World} {q1 q2 q3 : Option Addr} {l1 c1 l2 c2 l3 c3 : Nat} {css : List (List (List Cl))} {ts : List Tl} {i1 i2 i3 i4 i5 i6 i7 i8 i9 i10 i11 i12 i13 i14 i15 i16 : Int} (hS : SL w q1 l1 css) (hT : TL w q2 l2 ts) (ht : tot ts ≤ 1048576) (hl2 : l2 ≤ 1048576) :
    Calls Tryd.prog 19 #[.agg #[.int .i64 i1, .int .i64 i2, .int .i64 i3, .int .i64 i4, .int .i64 i5, .int .i64 i6, .int .i64 i7, .int .i64 i8, .int .i64 i9, .int .i64 i10, .int .i64 i11, .int .i64 i12, .int .i64 i13, .int .i64 i14, .int .i64 i15, .int .i64 i16, .slice q1 l1 c1], .agg #[.slice q2 l2 c2, .slice q3 l3 c3]] w (Ret (MovR true kpP css ts w)) := by
  have el1 := hS.len
  have el2 := hT.len
  refine f19.calls _ _ _ _ _ _ _ _ _ _ _ _ _ _ _ _ _ _ _ _ _ _ _ _ _ ?_
  unfold f19.wp
  refine newBox fun w1 B1 k1 s1 => newBox fun w2 B2 k2 s2 => ?_
  have B12 := k2.blk B1 (fun x => x)
  have k02 := k1.trans k2
  have bad : ∀ w', Chg none_ w w' → ¬ (css.length = ts.length ∧ ∃ out, allX true kpP (css.zip ts) 0 0 = some out ∧ Chk out 0 0) → MovR true kpP css ts w (.tuple #[.slice none 0 0, .int .i64 240]) w' := fun w' k h => ⟨k, .inr ⟨rfl, h⟩⟩
  refine ⟨_, l1, c1, (B12.cell0 16).trans rfl, _, l2, c2, (B2.cell 0).trans rfl, bc (fun h => bad _ k02 fun g => ?_) fun h => ⟨q2, l2, c2, (B2.cell 0).trans rfl, ?_⟩⟩
  · simp at h; omega
  have e12 : l1 = l2 := by simp at h; omega
  subst e12
  clear h
  have ez : (css.zip ts).length = l1 := by rw [List.length_zip]; omega
  refine ⟨fun q4 l4 c4 x1 x2 w3 => ∃ (i : Nat) (out : List Mv), x2 = (i : Int) ∧ i ≤ l1 ∧ 0 ≤ x1 ∧ x1 ≤ (i : Int) * 1048576 ∧ Chg none_ w2 w3 ∧ SE En.mv w3 w2.heap.size 33 q4 l4 c4 out ∧ out.length ≤ tot (ts.take i) ∧ allX true kpP (css.zip ts) 0 0 = (allX true kpP ((css.zip ts).drop i) i x1).map (out ++ ·),
    fun _ _ _ _ x2 _ => l1 - x2.toNat, ⟨0, [], rfl, by omega, by omega, by omega, Chg.refl _ _, SE.nil _ _ _ _, by simp, by simp⟩, ?_⟩
  rintro q4 l4 c4 x1 _ w3 ⟨i, out, rfl, hi, hx0, hx1, k3, S3, hol, hall⟩
  have hlo := S3.len
  have htk := tot_take ts i
  refine bc (fun h => ?_) fun h => ?_
  · have hil : i < l1 := by simp at h; omega
    clear h
    obtain ⟨tl, htl⟩ := get_ex (l := ts) (i := i) (by omega)
    obtain ⟨cs, hcs⟩ := get_ex (l := css) (i := i) (by omega)
    have hz : (css.zip ts)[i]? = some (cs, tl) := by rw [List.getElem?_zip_eq_some]; exact ⟨hcs, htl⟩
    obtain ⟨a1, qe, le, ce, qa, la, ca, b1, j1, j2, j3, j4, j5, j6, j7, b2, j8, j9, j10, j11, j12, qu, lu, cu, ha1, hr1, hes, han, hle⟩ := (hT.chg (k02.trans k3)).get i tl htl
    obtain ⟨a2, qc, lc, cc, qx, lx, cx, qy, ly, cy, p1, p2, qz, lz, cz, ha2, hr2, hrc, hlc⟩ := (hS.chg (k02.trans k3)).get i cs hcs
    subst ha1
    subst ha2
    have hes' := hes.len
    have htot := tot_next htl
    refine onPtr_mk ⟨by omega, by omega, _, le, ce, _, la, ca, tl.steps, b1, j1, j2, j3, j4, j5, j6, j7, b2, j8, j9, j10, j11, j12, _, lu, cu, hr1, boxed rfl rfl fun w5 B5 k5 s5 => ?_⟩
    have k25 : Chg none_ w2 w5 := k3.trans k5
    have k5d : Chg none_ w5 w5.drew := (Chg.refl _ _).drew
    have C5 := (k25.blk B12 (fun x => x)).drew
    have z5 : w5.drew.heap.size = w5.heap.size := rfl
    have z25 := k25.size
    have hr2' := k5.readsN hr2
    refine ⟨fun p => p.block < w5.drew.heap.size, _, l1, c1, cell_some ((C5.cell0 16).trans rfl), (C5.cell0 16).trans rfl, onPtr_mk ⟨by omega, by omega, _, lc, cc, _, lx, cx, _, ly, cy, p1, p2, _, lz, cz, fun j _ => reads_block hr2' j, hr2', _, le, ce, _, la, ca, tl.steps, b1, j1, j2, j3, j4, j5, j6, j7, b2, j8, j9, j10, j11, j12, _, lu, cu, fun j _ => by show (Addr.add _ _).block < _; rw [add_block]; show w3.heap.size < _; omega, B5.drew.reads0, Calls.use (life11 (hrc.chg (k5.drew)) (hes.chg (k5.drew)) (han.chg (k5.drew)) hlc hle hx0 (by omega)) ?_⟩⟩
    rintro _ w6 ⟨k6, ⟨q, l, c, o, rfl, hlx, S6, hol6⟩ | ⟨rfl, hlx⟩⟩
    · have k26 : Chg none_ w2 w6 := k25.drew.trans k6
      have hst : 0 ≤ tl.steps ∧ tl.steps ≤ 1048576 := lifeX_steps hlx
      have hl6 := S6.len
      refine ⟨q, l, c, true, rfl, Chg.keeps k6, bcF rfl ?_⟩
      obtain ⟨q', c', w7, hrun, S7, k7, _⟩ := (S3.chgN (k5.drew.trans k6)).append (t := 23) (ty := 23) (c2 := c) elemMove S6.re (by simp only [maxLen]; omega) (by omega) k26.size
      have k27 : Chg none_ w2 w7 := k26.up k7 fun g hg => (S3.lt hg.symm).2
      have B7 := k7.blk (k6.blk B5.drew (fun x => x)) (fun hg => by have := (S3.lt hg.symm).1; omega)
      have hwx : IntKind.wrap .i64 (x1 + tl.steps) = x1 + tl.steps := wrapS (by omega) (by omega)
      have hall' : allX true kpP (css.zip ts) 0 0 = (allX true kpP ((css.zip ts).drop (i + 1)) ((i + 1 : Nat) : Int) (x1 + tl.steps)).map ((out ++ o) ++ ·) := by
        rw [show ((i + 1 : Nat) : Int) = (i : Int) + 1 by omega, hall, List.drop_eq_getElem_cons (by omega), getElem_of_some hz, allX, hlx]
        cases allX true kpP ((css.zip ts).drop (i + 1)) ((i : Int) + 1) (x1 + tl.steps) with
        | none => simp
        | some r => simp
      refine ⟨q', _, c', w7, hrun, tl.steps, (B7.cell0 2).trans rfl, ?_⟩
      rw [hwx, wrapN (by omega)]
      exact ⟨⟨i + 1, out ++ o, rfl, by omega, by omega, by omega, k27, S7, by rw [List.length_append, htot]; omega, hall'⟩, by simp only [Int.toNat_natCast]; omega⟩
    · refine ⟨none, 0, 0, false, rfl, Chg.keeps k6, bcT rfl (bad _ (k02.trans (k25.drew.trans k6)) fun g => ?_)⟩
      obtain ⟨_, fin, hfin, _⟩ := g
      rw [hall, List.drop_eq_getElem_cons (by omega), getElem_of_some hz, allX, hlx] at hfin
      simp at hfin
  · have hil : i = l1 := by simp at h; omega
    subst hil
    rw [List.drop_of_length_le (by omega), allX] at hall
    simp at hall
    subst hlo
    refine Calls.use (check12 S3.re) ?_
    rintro _ w8 ⟨a, b, rfl, hck, k8⟩
    refine ⟨a, b, rfl, bc (fun g => bad _ (k02.trans (k3.trans k8)) fun h => ?_) fun g => ⟨k02.trans (k3.trans k8), .inl ⟨q4, _, c4, out, ?_, (S3.chgN k8).lower (by have := k02.size; omega), by omega, hall, ?_⟩⟩⟩
    · obtain ⟨_, fin, hfin, hc⟩ := h
      rw [hall] at hfin
      cases hfin
      have := (hck.eq hc).2
      simp at g; omega
    · rfl
    · have : b = 0 := by simpa using g
      subst this
      have : a = 0 := by cases hck; rfl
      subst this
      exact hck
end Go.Proofs.YtjfafkgjcgbgfaaDoor
