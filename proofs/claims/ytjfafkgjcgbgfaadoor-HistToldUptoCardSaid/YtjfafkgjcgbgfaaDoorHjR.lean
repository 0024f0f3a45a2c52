import Derived.Test.YtjfafkgjcgbgfaaDoorHjQ
import Derived.Test.YtjfafkgjcgbgfaaDoorHjM
set_option maxRecDepth 20000
namespace Go.Proofs.YtjfafkgjcgbgfaaDoor
open Go Go.Vc Go.RowKit
/-! # each begin has its move, in order -/
def fl (m : Mv) : Int × Int := (m.frm, m.life)
def begs (b i : Int) (es : List Ev) : List (Int × Int) := (es.filter fun e => !e.ret).map fun e => (b + e.step, i)
theorem begs_cons (b i : Int) (e : Ev) (es : List Ev) : begs b i (e :: es) = if e.ret then begs b i es else (b + e.step, i) :: begs b i es := by
  unfold begs
  cases h : e.ret <;> simp [h]
theorem map_set_same {α β : Type} (f : α → β) {l : List α} {j : Nat} {x y : α} (h : l[j]? = some x) (e : f y = f x) : (l.set j y).map f = l.map f := by
  rw [List.map_set, e, set_same (by simp [h])]
theorem step_fl {p : P} {s t : S} {e : Ev} (h : stepX p s e = some t) : t.out.map fl = s.out.map fl ++ begs p.base p.life [e] ∧ s.last ≤ e.step ∧ e.step < p.steps ∧ t.last = e.step := by
  unfold stepX at h
  split at h
  · cases h
  · rename_i h0
    split at h
    · rename_i n cur calls anss h1 h2 h3
      unfold stepC at h
      split at h
      · cases h
      · split at h
        · cases h
        · cases hr : e.ret <;> cases cur <;> (rw [hr] at h; simp only at h)
          · split at h
            · cases h
            · cases h
              refine ⟨?_, by omega, by omega, rfl⟩
              rw [begs_cons, hr, List.map_append]
              simp [begs, fl, begM]
          · cases h
          · cases h
          · split at h
            · rename_i a m h6 h7
              cases h
              refine ⟨?_, by omega, by omega, rfl⟩
              rw [begs_cons, hr]
              show (s.out.set _ (endM m (p.base + e.step) a)).map fl = _
              rw [map_set_same fl h7 (show fl (endM m (p.base + e.step) a) = fl m from rfl)]
              simp [begs]
            · cases h
    · cases h
theorem run_fl {p : P} : ∀ (es : List Ev) {s t : S}, runX p es s = some t → 0 ≤ s.last → t.out.map fl = s.out.map fl ++ begs p.base p.life es ∧ ∀ e ∈ es, 0 ≤ e.step ∧ e.step < p.steps
  | [], s, t, h, _ => by cases h; exact ⟨by simp [begs], fun e he => by cases he⟩
  | e :: es, s, t, h, h0 => by
    rw [runX] at h
    cases hs : stepX p s e with
    | none => rw [hs] at h; cases h
    | some u =>
      rw [hs] at h
      obtain ⟨h1, h2, h3, h4⟩ := step_fl hs
      obtain ⟨g1, g2⟩ := run_fl es h (by omega)
      refine ⟨?_, fun x hx => ?_⟩
      · rw [g1, h1, List.append_assoc]
        congr 1
        rw [begs_cons, begs_cons]
        cases e.ret <;> simp [begs]
      · rcases List.mem_cons.1 hx with rfl | hx
        · exact ⟨by omega, h3⟩
        · exact g2 x hx
theorem life_fl {p : P} {es : List Ev} {o : List Mv} (h : lifeX p es = some o) : o.map fl = begs p.base p.life es ∧ ∀ e ∈ es, 0 ≤ e.step ∧ e.step < p.steps := by
  unfold lifeX at h
  split at h
  · cases h
  · cases hr : runX p es (S0 p.cs.length) with
    | none => rw [hr] at h; cases h
    | some s =>
      rw [hr] at h
      simp only at h
      split at h
      · cases h
        have := run_fl es hr (Int.le_refl _)
        exact ⟨by rw [this.1]; simp [S0], this.2⟩
      · cases h
def flA : List (List (List Cl) × Tl) → Int → Int → List (Int × Int)
  | [], _, _ => []
  | z :: r, i, b => begs b i z.2.es ++ flA r (i + 1) (b + z.2.steps)
theorem all_fl : ∀ (zs : List (List (List Cl) × Tl)) {i b : Int} {o : List Mv}, allX true kpP zs i b = some o → o.map fl = flA zs i b ∧ ∀ z ∈ zs, (0 ≤ z.2.steps ∧ z.2.steps ≤ 1048576) ∧ ∀ e ∈ z.2.es, 0 ≤ e.step ∧ e.step ≤ 1048576
  | [], i, b, o, h => by cases h; exact ⟨rfl, fun z hz => by cases hz⟩
  | z :: zs, i, b, o, h => by
    rw [allX] at h
    cases hl : lifeX ⟨true, kpP, i, b, z.2.steps, z.1, z.2.an⟩ z.2.es with
    | none => rw [hl] at h; cases h
    | some a =>
      rw [hl] at h
      cases hr : allX true kpP zs (i + 1) (b + z.2.steps) with
      | none => rw [hr] at h; cases h
      | some r =>
        rw [hr] at h
        cases h
        obtain ⟨h1, h2⟩ := life_fl hl
        obtain ⟨g1, g2⟩ := all_fl zs hr
        have h3 : 0 ≤ z.2.steps ∧ z.2.steps ≤ 1048576 := lifeX_steps hl
        refine ⟨by rw [List.map_append, h1, g1]; rfl, fun y hy => ?_⟩
        rcases List.mem_cons.1 hy with rfl | hy
        · refine ⟨h3, fun e he => ?_⟩
          have h4 : 0 ≤ e.step ∧ e.step < y.2.steps := h2 e he
          omega
        · exact g2 y hy
theorem blk_part {w : World} {b : Nat} {t : TypeId} {cs : Array Value} (h : Blk w b t cs) {pre vs post : List Value} (e : cs.toList = pre ++ (vs ++ post)) {n : Nat} (hn : n = pre.length) : reads w ((⟨b, 0, none⟩ : Addr).add n) vs := fun j v hj => by
  subst hn
  rw [Addr.add_add, h.cell0, ← Array.getElem?_toList, e, List.getElem?_append_right (by omega), show pre.length + j - pre.length = j by omega, List.getElem?_append_left (get_lt hj)]
  exact hj
theorem blk_part0 {w : World} {b : Nat} {t : TypeId} {cs : Array Value} (h : Blk w b t cs) {vs post : List Value} (e : cs.toList = vs ++ post) : reads w (⟨b, 0, none⟩ : Addr) vs := by
  have := blk_part h (pre := []) (vs := vs) (post := post) (n := 0) e rfl
  rwa [add_zero'] at this
theorem told7 {w : World} {q1 q2 q3 : Option Addr} {l1 c1 l2 c2 l3 c3 : Nat} {css : List (List (List Cl))} {ts : List Tl} {i1 i2 i3 i4 i5 i6 i7 i8 i9 i10 i11 i12 i13 i14 i15 i16 : Int} (hS : w.ShapedOpen Tryd.prog) (hC : SL w q1 l1 css) (hT : TL w q2 l2 ts) (ht : tot ts ≤ 1048576) (hl2 : l2 ≤ 1048576) :
    Calls Tryd.prog 7 #[.agg #[.int .i64 i1, .int .i64 i2, .int .i64 i3, .int .i64 i4, .int .i64 i5, .int .i64 i6, .int .i64 i7, .int .i64 i8, .int .i64 i9, .int .i64 i10, .int .i64 i11, .int .i64 i12, .int .i64 i13, .int .i64 i14, .int .i64 i15, .int .i64 i16, .slice q1 l1 c1, .slice q2 l2 c2, .slice q3 l3 c3]] w (Ret fun v w' => v = .bool true ∧ Chg none_ w w') := by
  have hSt : ∀ {w' : World}, Chg none_ w w' → w'.ShapedOpen Tryd.prog := fun h => World.ShapedOpen.keptBut hS (h.below.frame (fun _ => False)) (fun _ h => h.elim)
  have el1 := hC.len
  have el2 := hT.len
  refine f7.calls _ _ _ _ _ _ _ _ _ _ _ _ _ _ _ _ _ _ _ _ _ _ _ _ _ ?_
  unfold f7.wp
  refine newBox fun w1 B1 k1 s1 => Calls.use (awake10 (hSt k1)) ?_
  rintro _ w2 ⟨rfl, k2⟩
  have B2 := k2.blk B1 (fun x => x)
  have k02 := k1.trans k2
  refine ⟨_, rfl, bcF rfl ⟨i1, i2, i3, i4, i5, i6, i7, i8, i9, i10, i11, i12, i13, i14, i15, i16, q1, l1, c1, blk_part0 B2 (post := [.slice q2 l2 c2, .slice q3 l3 c3]) rfl, q2, l2, c2, q3, l3, c3, blk_part B2 (pre := [.int .i64 i1, .int .i64 i2, .int .i64 i3, .int .i64 i4, .int .i64 i5, .int .i64 i6, .int .i64 i7, .int .i64 i8, .int .i64 i9, .int .i64 i10, .int .i64 i11, .int .i64 i12, .int .i64 i13, .int .i64 i14, .int .i64 i15, .int .i64 i16, .slice q1 l1 c1]) (post := []) rfl rfl, Calls.use (moves8 (hC.chg k02) (hT.chg k02) ht hl2) ?_⟩⟩
  rintro v w3 ⟨k3, ⟨q, l, c, out, rfl, S3, hlen, hall, hck⟩ | ⟨rfl, _⟩⟩
  · obtain ⟨hfl, hbd⟩ := all_fl _ hall
    have hlo := S3.len
    refine ⟨q, l, c, 0, rfl, bcF rfl (Calls.use (check12 S3.re) ?_)⟩
    rintro _ w4 ⟨a, b, rfl, hck4, k4⟩
    obtain ⟨rfl, rfl⟩ := hck4.eq hck
    have S4 := S3.chgN k4
    have k24 := k3.trans k4
    have B4 := k24.blk B2 (fun x => x)
    have k04 := k02.trans k24
    have el : l1 = l2 := by omega
    subst el
    have hl4 := hck.alive.1
    have ez : (css.zip ts).length = l1 := by rw [List.length_zip]; omega
    refine ⟨_, _, rfl, bcF rfl ⟨q2, l1, c2, (B4.cell0 17).trans rfl, q1, l1, c1, (B4.cell0 16).trans rfl, bcF (by simp) ⟨q2, l1, c2, (B4.cell0 17).trans rfl, fun x1 x2 x3 w5 => ∃ (i : Nat) (pre : List (Int × Int)), x3 = (i : Int) ∧ i ≤ l1 ∧ Chg none_ w4 w5 ∧ out.map fl = pre ++ flA ((css.zip ts).drop i) i x2 ∧ (pre.length : Int) = x1 ∧ 0 ≤ x2 ∧ x2 ≤ (i : Int) * 1048576, fun _ _ x3 _ => l1 - x3.toNat, ⟨0, [], rfl, by omega, Chg.refl _ _, by simpa using hfl, rfl, by omega, by omega⟩, ?_⟩⟩⟩
    rintro x1 x2 _ w5 ⟨i, pre, rfl, hi, k5, hpre, hx1, hx20, hx2⟩
    refine bc (fun g => ?_) fun g => ?_
    · have hil : i < l1 := by simp at g; omega
      obtain ⟨tl, htl⟩ := get_ex (l := ts) (i := i) (by omega)
      obtain ⟨cs, hcs⟩ := get_ex (l := css) (i := i) (by omega)
      have hz : (css.zip ts)[i]? = some (cs, tl) := by rw [List.getElem?_zip_eq_some]; exact ⟨hcs, htl⟩
      obtain ⟨hst, hev⟩ := hbd _ (List.mem_of_getElem? hz)
      simp only at hst hev
      obtain ⟨a1, qe, le, ce, qa, la, ca, b1, j1, j2, j3, j4, j5, j6, j7, b2, j8, j9, j10, j11, j12, qu, lu, cu, ha1, hr1, hes, han, hle⟩ := (hT.chg (k04.trans k5)).get i tl htl
      subst ha1
      have hes' := hes.len
      rw [List.drop_eq_getElem_cons (by omega), getElem_of_some hz, flA] at hpre
      refine onPtr_mk ⟨by omega, by omega, qe, le, ce, qa, la, ca, tl.steps, b1, j1, j2, j3, j4, j5, j6, j7, b2, j8, j9, j10, j11, j12, qu, lu, cu, hr1, boxed rfl rfl fun w7 B7 k7 s7 => ⟨qe, le, ce, (B7.cell 0).trans rfl, fun x4 x5 w8 => ∃ (k : Nat) (pr : List (Int × Int)), x5 = (k : Int) ∧ k ≤ le ∧ Chg none_ w7 w8 ∧ out.map fl = pr ++ (begs x2 i (tl.es.drop k) ++ flA ((css.zip ts).drop (i + 1)) ((i : Int) + 1) (x2 + tl.steps)) ∧ (pr.length : Int) = x4, fun _ x5 _ => le - x5.toNat, ⟨0, pre, rfl, by omega, Chg.refl _ _, by simpa using hpre, hx1⟩, ?_⟩⟩
      rintro x4 _ w8 ⟨k, pr, rfl, hk, k8, hpr, hx4⟩
      have k48 : Chg none_ w4 w8 := k5.trans (k7.trans k8)
      refine bc (fun g1 => ?_) fun g1 => ?_
      · have hkl : k < le := by simp at g1; omega
        obtain ⟨a2, e, ha2, he, hre⟩ := (hes.chg (k7.trans k8)).ex hkl
        subst ha2
        have hes2 := hev e (List.mem_of_getElem? he)
        rw [List.drop_eq_getElem_cons (by omega), getElem_of_some he, begs_cons] at hpr
        rw [wrapN (by omega)]
        refine onPtr_mk ⟨by omega, by omega, e.step, e.task, e.call, e.ret, hre, boxed rfl rfl fun w10 B10 k10 s10 => ⟨e.ret, (B10.cell0 3).trans rfl, bc (fun g2 => ?_) fun g2 => ?_⟩⟩
        · rw [if_pos g2] at hpr
          exact ⟨⟨k + 1, pr, rfl, by omega, k8.trans k10, hpr, hx4⟩, by simp only [Int.toNat_natCast]; omega⟩
        · rw [if_neg (by rw [g2]; simp)] at hpr
          have hlt : pr.length < out.length := by
            have := congrArg List.length hpr
            simp at this
            omega
          obtain ⟨m, hm⟩ := get_ex hlt
          have hf : fl m = (x2 + e.step, (i : Int)) := by
            have h1 : (out.map fl)[pr.length]? = some (fl m) := by simp [hm]
            rw [hpr, List.getElem?_append_right (Nat.le_refl _), Nat.sub_self] at h1
            simp at h1
            exact h1.symm
          have hf1 : m.frm = x2 + e.step := congrArg Prod.fst hf
          have hf2 : m.life = (i : Int) := congrArg Prod.snd hf
          have S10 := (S4.chgN (k48.trans k10)).re
          obtain ⟨a3, ha3, hr3⟩ := S10.drew.get pr.length m hm
          have hx4' : x4 = (pr.length : Int) := hx4.symm
          subst hx4'
          subst ha3
          have B10d := B10.drew
          refine bcF (by simp; omega) (onPtr_mk ⟨by omega, by omega, m.frm, hr3 6 _ rfl, e.step, (B10d.cell 0).trans rfl, bcF ?_ (onPtr_mk ⟨by omega, by omega, m.life, hr3 5 _ rfl, bcF ?_ ?_⟩)⟩)
          · rw [wrapS (by omega) (by omega), hf1]; simp
          · rw [hf2]; simp
          · rw [wrapN (by omega)]
            exact ⟨⟨k + 1, pr ++ [(x2 + e.step, (i : Int))], rfl, by omega, (k8.trans k10).drew, by rw [hpr]; simp, by simp⟩, by simp only [Int.toNat_natCast]; omega⟩
      · have hke : k = le := by simp at g1; omega
        subst hke
        rw [List.drop_of_length_le (by omega)] at hpr
        have B8 := k8.blk B7 (fun x => x)
        rw [wrapN (by omega)]
        refine ⟨tl.steps, (B8.cell0 2).trans rfl, ?_⟩
        rw [wrapS (by omega) (by omega)]
        exact ⟨⟨i + 1, pr, rfl, by omega, k48, by rw [hpr]; simp [begs], hx4, by omega, by omega⟩, by simp only [Int.toNat_natCast]; omega⟩
    · have hie : i = l1 := by simp at g; omega
      subst hie
      rw [List.drop_of_length_le (by omega), flA, List.append_nil] at hpre
      have hlp := congrArg List.length hpre
      simp at hlp
      refine ⟨?_, k04.trans k5⟩
      rw [← hx1]
      simp; omega
  · exact ⟨none, 0, 0, 240, rfl, bcT rfl ⟨by simp, k02.trans k3⟩⟩
end Go.Proofs.YtjfafkgjcgbgfaaDoor
