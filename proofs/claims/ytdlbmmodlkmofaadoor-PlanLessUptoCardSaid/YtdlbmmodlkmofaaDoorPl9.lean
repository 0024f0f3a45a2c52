import Derived.Test.YtdlbmmodlkmofaaDoorPl6
import Derived.Test.YtdlbmmodlkmofaaDoorPlU
set_option maxRecDepth 20000
namespace Go.Proofs.YtdlbmmodlkmofaaDoor
open Go Go.Vc Go.RowKit
/-! # the list in order -/
section
variable {α : Type} {lt : α → α → Bool}
def ins (lt : α → α → Bool) (x : α) : List α → List α
  | [] => [x]
  | y :: r => if lt y x then y :: ins lt x r else x :: y :: r
def sortOf (lt : α → α → Bool) : List α → List α
  | [] => []
  | x :: r => ins lt x (sortOf lt r)
theorem ins_mem {x z : α} : ∀ {ys : List α}, z ∈ ins lt x ys → z = x ∨ z ∈ ys
  | [], h => .inl (by simpa [ins] using h)
  | y :: r, h => by
    unfold ins at h
    split at h
    · rcases List.mem_cons.1 h with h | h
      · exact .inr (by simp [h])
      · rcases ins_mem h with h | h
        · exact .inl h
        · exact .inr (List.mem_cons_of_mem _ h)
    · exact (List.mem_cons.1 h)
theorem ins_srt (W : Weak lt) {x : α} : ∀ {ys : List α}, Srt lt ys → Srt lt (ins lt x ys)
  | [], _ => Srt.one x
  | y :: r, h => by
    obtain ⟨h1, h2⟩ := List.pairwise_cons.1 h
    unfold ins
    split
    · rename_i g
      refine List.pairwise_cons.2 ⟨fun z hz => ?_, ins_srt W h2⟩
      rcases ins_mem hz with rfl | hz
      · exact W.asym _ _ g
      · exact h1 z hz
    · rename_i g
      have g : lt y x = false := by simpa using g
      refine List.pairwise_cons.2 ⟨fun z hz => ?_, h⟩
      rcases List.mem_cons.1 hz with rfl | hz
      · exact g
      · exact W.tr _ _ _ (h1 z hz) g
theorem ins_same (W : Weak lt) {x : α} : ∀ {ys : List α}, Same lt (x :: ys) (ins lt x ys)
  | [] => Same.refl _
  | y :: r => by
    unfold ins
    split
    · rename_i g
      have h1 : Same lt ([x] ++ [y]) ([y] ++ [x]) := Same.blocks W fun a ha b hb => by
        simp at ha hb; subst ha; subst hb; exact g
      have h2 := h1.app (Same.refl r)
      have h3 := (Same.refl (lt := lt) [y]).app (ins_same W (x := x) (ys := r))
      exact h2.trans h3
    · exact Same.refl _
theorem sort_ok (W : Weak lt) : ∀ xs : List α, Srt lt (sortOf lt xs) ∧ Same lt xs (sortOf lt xs)
  | [] => ⟨Srt.nil, Same.refl _⟩
  | x :: r => by
    obtain ⟨h1, h2⟩ := sort_ok W r
    exact ⟨ins_srt W h1, ((Same.refl (lt := lt) [x]).app h2).trans (ins_same W)⟩
theorem sortOf_eq (W : Weak lt) {xs ys : List α} (h : Srt lt ys) (e : Same lt xs ys) : ys = sortOf lt xs :=
  Srt.uniq W h (sort_ok W xs).1 (e.symm.trans (sort_ok W xs).2)
theorem sort_srt (W : Weak lt) {xs : List α} (h : Srt lt xs) : sortOf lt xs = xs := (sortOf_eq W h (Same.refl xs)).symm
/-- each ahead of all behind it -/
def Str (lt : α → α → Bool) (xs : List α) : Prop := xs.Pairwise fun a b => lt a b = true
theorem Str.srt (W : Weak lt) {xs : List α} (h : Str lt xs) : Srt lt xs := List.Pairwise.imp (fun {a b} h => W.asym a b h) h
theorem ddp_strict (W : Weak lt) : ∀ {p : α} {r : List α}, Srt lt (p :: r) → (∀ z ∈ ddp lt p r, lt p z = true) ∧ Str lt (ddp lt p r)
  | _, [], _ => ⟨fun z hz => by simp [ddp] at hz, List.Pairwise.nil⟩
  | p, y :: r, h => by
    obtain ⟨h1, h2⟩ := List.pairwise_cons.1 h
    obtain ⟨k1, k2⟩ := ddp_strict W h2
    have hyp : lt y p = false := h1 y (by simp)
    unfold ddp
    split
    · refine ⟨fun z hz => ?_, k2⟩
      cases e : lt p z with
      | true => rfl
      | false => have := W.tr _ _ _ hyp e; rw [k1 z hz] at this; cases this
    · rename_i g
      have hpy : lt p y = true := by
        cases e : lt p y with
        | true => rfl
        | false => exact absurd (by simp [alk, hyp, e]) g
      refine ⟨fun z hz => ?_, List.pairwise_cons.2 ⟨k1, k2⟩⟩
      rcases List.mem_cons.1 hz with rfl | hz
      · exact hpy
      · cases e : lt p z with
        | true => rfl
        | false => have := W.tr _ _ _ e (W.asym _ _ (k1 z hz)); rw [hpy] at this; cases this
theorem dd_strict (W : Weak lt) {xs : List α} (h : Srt lt xs) : Str lt (dd lt xs) := by
  cases xs with
  | nil => exact List.Pairwise.nil
  | cons x r => obtain ⟨h1, h2⟩ := ddp_strict W h; exact List.pairwise_cons.2 ⟨h1, h2⟩
theorem ddp_id : ∀ {p : α} {r : List α}, Str lt (p :: r) → ddp lt p r = r
  | _, [], _ => rfl
  | p, y :: r, h => by
    obtain ⟨h1, h2⟩ := List.pairwise_cons.1 h
    have := h1 y (by simp)
    unfold ddp
    rw [if_neg (by simp [alk, this]), ddp_id h2]
theorem dd_id {xs : List α} (h : Str lt xs) : dd lt xs = xs := by
  cases xs with
  | nil => rfl
  | cons x r => exact congrArg (x :: ·) (ddp_id h)
end
/-! # the norm -/
def rLt (a b : Cr) : Bool := decide (a.step < b.step)
theorem rLt_iff (a b : Cr) : rLt a b = true ↔ a.step < b.step := by simp [rLt]
theorem rW : Weak rLt := weak_of (fun a b => by simp only [rLt_iff]; omega) (fun a b c => by simp only [rLt_iff]; omega)
def normF (fs : List T3) : List T3 := dd fLt (sortOf fLt fs)
def normT (ts : List T3) : List T3 := dd tLt (sortOf tLt ts)
def normK (c : Cr) : Cr := ⟨c.step, c.rest, normT c.fates⟩
def normC (cs : List Cr) : List Cr := (sortOf rLt cs).map normK
def normP (p : Pn) : Pn := ⟨normF p.faults, normC p.crashes⟩
theorem norm_str {α : Type} {lt : α → α → Bool} (W : Weak lt) {xs : List α} (h : Str lt xs) : dd lt (sortOf lt xs) = xs := by rw [sort_srt W (h.srt W), dd_id h]
theorem normF_idem (fs : List T3) : normF (normF fs) = normF fs := norm_str fW (dd_strict fW (sort_ok fW fs).1)
theorem normT_idem (fs : List T3) : normT (normT fs) = normT fs := norm_str tW (dd_strict tW (sort_ok tW fs).1)
theorem normC_srt (cs : List Cr) : Srt rLt (normC cs) := List.pairwise_map.2 (sort_ok rW cs).1
theorem normC_idem (cs : List Cr) : normC (normC cs) = normC cs := by
  have := sort_srt rW (normC_srt cs)
  unfold normC at this ⊢
  rw [this, List.map_map]
  congr 1
  funext c
  simp [normK, normT_idem]
theorem normP_idem (p : Pn) : normP (normP p) = normP p := by simp [normP, normF_idem, normC_idem]
theorem normT_le (ts : List T3) : (normT ts).length ≤ (sortOf tLt ts).length := dd_le _
theorem re_uniq {w : World} {q : Option Addr} {l : Nat} {xs ys : List T3} (h : RE En.t3 w q l xs) (k : RE En.t3 w q l ys) : xs = ys := by
  have h1 := h.len
  have h2 := k.len
  apply List.ext_getElem?
  intro i
  rcases Nat.lt_or_ge i l with g | g
  · obtain ⟨x, hx⟩ := get_ex (l := xs) (i := i) (by omega)
    obtain ⟨y, hy⟩ := get_ex (l := ys) (i := i) (by omega)
    obtain ⟨a, ha, ra⟩ := h.get i x hx
    obtain ⟨b, hb, rb⟩ := k.get i y hy
    rw [ha] at hb; cases hb
    obtain ⟨x1, x2, x3⟩ := x
    obtain ⟨y1, y2, y3⟩ := y
    have e0 := (reads_at ra (i := 0) rfl).symm.trans (reads_at rb (i := 0) rfl)
    have e1 := (reads_at ra (i := 1) rfl).symm.trans (reads_at rb (i := 1) rfl)
    have e2 := (reads_at ra (i := 2) rfl).symm.trans (reads_at rb (i := 2) rfl)
    simp only [Option.some.injEq, Value.int.injEq, true_and] at e0 e1 e2
    rw [hx, hy, e0, e1, e2]
  · rw [List.getElem?_eq_none (by omega), List.getElem?_eq_none (by omega)]
/-- a reading of headers as crashes -/
theorem crF (w : World) : ∃ F : CrH → Cr, ∀ h, (F h).step = h.step ∧ (F h).rest = h.rest ∧ ∀ xs, RE En.t3 w h.q h.l xs → (F h).fates = xs := by
  refine Classical.axiomOfChoice (r := fun (h : CrH) (c : Cr) => c.step = h.step ∧ c.rest = h.rest ∧ ∀ xs, RE En.t3 w h.q h.l xs → c.fates = xs) fun h => ?_
  by_cases hx : ∃ xs, RE En.t3 w h.q h.l xs
  · obtain ⟨xs, hx⟩ := hx
    exact ⟨⟨h.step, h.rest, xs⟩, rfl, rfl, fun ys hy => re_uniq hx hy⟩
  · exact ⟨⟨h.step, h.rest, []⟩, rfl, rfl, fun ys hy => absurd ⟨ys, hy⟩ hx⟩
theorem alk_step {F : CrH → Cr} (hF : ∀ h, (F h).step = h.step) (c : Cr) (z : CrH) : alk rLt c (F z) = alk cLt ⟨c.step, 0, none, 0, 0⟩ z := by
  rw [Bool.eq_iff_iff]
  simp only [alk, Bool.and_eq_true, Bool.not_eq_true', ← Bool.not_eq_true, rLt_iff, cLt_iff, hF]
theorem sort_heads {F : CrH → Cr} (hF : ∀ h, (F h).step = h.step) {hs ys : List CrH} (h : Srt cLt ys) (e : Same cLt hs ys) : ys.map F = sortOf rLt (hs.map F) := by
  refine sortOf_eq rW (List.pairwise_map.2 (List.Pairwise.imp (fun {a b} h => ?_) h)) fun c => ?_
  · rw [← Bool.not_eq_true, cLt_iff] at h
    rw [← Bool.not_eq_true, rLt_iff, hF, hF]
    exact h
  · have : alk rLt c ∘ F = alk cLt ⟨c.step, 0, none, 0, 0⟩ := funext fun z => alk_step hF c z
    rw [List.filter_map, List.filter_map, this, e]
end Go.Proofs.YtdlbmmodlkmofaaDoor
set_option maxRecDepth 20000
namespace Go.Proofs.YtdlbmmodlkmofaaDoor
open Go Go.Vc Go.RowKit
/-! # Norm, of the program -/
theorem onceF59 {w : World} {q : Option Addr} {l c : Nat} {xs : List T3} (h : RE En.t3 w q l xs) (hl : l * 24 ≤ 140737488351232) :
    Calls Tryd.prog 59 #[.slice q l c, .func (.func 40) #[] #[]] w (Ret fun v w' => ∃ q' l' c', v = .slice q' l' c' ∧ l' ≤ l ∧ SE En.t3 w' w.heap.size 37 q' l' c' (normF xs) ∧ Chg none_ w w') := by
  refine Calls.use (once59 h hl) ?_
  rintro _ w' ⟨q', l', c', ys, rfl, hl', S, s, e, k⟩
  rw [sortOf_eq fW s e] at S
  exact ⟨_, rfl, q', l', c', rfl, hl', S, k⟩
theorem onceT62 {w : World} {q : Option Addr} {l c : Nat} {xs : List T3} (h : RE En.t3 w q l xs) (hl : l * 24 ≤ 140737488351232) :
    Calls Tryd.prog 62 #[.slice q l c, .func (.func 63) #[] #[]] w (Ret fun v w' => ∃ q' l' c', v = .slice q' l' c' ∧ l' ≤ l ∧ SE En.t3 w' w.heap.size 44 q' l' c' (normT xs) ∧ Chg none_ w w') := by
  refine Calls.use (once62 h hl) ?_
  rintro _ w' ⟨q', l', c', ys, rfl, hl', S, s, e, k⟩
  rw [sortOf_eq tW s e] at S
  exact ⟨_, rfl, q', l', c', rfl, hl', S, k⟩
theorem norm30 {w : World} {q1 q2 : Option Addr} {l1 c1 l2 c2 : Nat} {fs : List T3} {cs : List Cr} (h1 : RE En.t3 w q1 l1 fs) (h2 : CrsR w q2 l2 cs) (hl1 : l1 * 24 ≤ 140737488351232) (hl2 : l2 * 40 ≤ 140737488351232) :
    Calls Tryd.prog 30 #[.agg #[.slice q1 l1 c1, .slice q2 l2 c2]] w (Ret fun v w' => ∃ q3 l3 c3 q4 c4, v = .agg #[.slice q3 l3 c3, .slice q4 l2 c4] ∧ l3 ≤ l1 ∧ SE En.t3 w' w.heap.size 37 q3 l3 c3 (normF fs) ∧ CrsD w' w.heap.size q4 l2 c4 (normC cs) ∧ Chg none_ w w') := by
  obtain ⟨hs, hh1, hh2, hh3⟩ := h2.ex
  have hhl := hh1.len
  refine f30.calls _ _ _ _ _ _ ?_
  unfold f30.wp
  refine newBox fun w1 B1 k1 z1 => newBox fun w2 B2 k2 z2 => ?_
  have A2 := k2.blk B1 (fun x => x)
  have k02 := k1.trans k2
  refine ⟨fun x w3 => ∃ (b : Nat) (q3 : Option Addr) (l3 c3 : Nat) (q4 : Option Addr) (c4 : Nat), x = some ⟨b, 0, none⟩ ∧ l3 ≤ l1 ∧ w.heap.size ≤ b ∧ b ≠ w1.heap.size ∧ Blk w3 b 28 #[.slice q3 l3 c3, .slice q4 l2 c4] ∧ SE En.t3 w3 w.heap.size 37 q3 l3 c3 (normF fs) ∧ SE En.crh w3 w.heap.size 42 q4 l2 c4 hs ∧ Blk w3 w1.heap.size 28 #[.slice none 0 0, .slice none 0 0] ∧ Chg none_ w w3, ?_, ?_⟩
  case refine_2 =>
    have A2d := A2.drew
    have B2d := B2.drew
    have k02d := k02.drew
    generalize w2.drew = W at *
    have zW := A2d.lt
    have zW2 := B2d.lt
    have hW := k02d.size
    have fin : ∀ {w' w'' : World} {b : Nat} {q3 q4 : Option Addr} {l3 c3 c4 : Nat}, Blk w' b 28 #[.slice none 0 0, .slice none 0 0] → SE En.t3 w' w.heap.size 37 q3 l3 c3 (normF fs) → SE En.crh w' w.heap.size 42 q4 l2 c4 hs → Chg none_ W w' → W.heap.size ≤ b → l3 ≤ l1 → w'' = setCells (⟨b, 0, none⟩ : Addr) 0 [.slice q3 l3 c3, .slice q4 l2 c4] w' →
        (∃ (b' : Nat) (q3 : Option Addr) (l3 c3 : Nat) (q4 : Option Addr) (c4 : Nat), some (⟨b, 0, none⟩ : Addr) = some ⟨b', 0, none⟩ ∧ l3 ≤ l1 ∧ w.heap.size ≤ b' ∧ b' ≠ w1.heap.size ∧ Blk w'' b' 28 #[.slice q3 l3 c3, .slice q4 l2 c4] ∧ SE En.t3 w'' w.heap.size 37 q3 l3 c3 (normF fs) ∧ SE En.crh w'' w.heap.size 42 q4 l2 c4 hs ∧ Blk w'' w1.heap.size 28 #[.slice none 0 0, .slice none 0 0] ∧ Chg none_ w w'') := fun {w' w'' b q3 q4 l3 c3 c4} B S T k hb hl3 e => by
      have k' : Chg (fun k => k = b) w' w'' := (Chg.refl _ w').sets' e (.inl rfl)
      exact ⟨b, q3, l3, c3, q4, c4, rfl, hl3, by omega, by omega, B.over e rfl, S.chg k' (fun g hg h => SE.ne S B (by decide) g hg h), T.chg k' (fun g hg h => SE.ne T B (by decide) g hg h), k'.blk (k.blk B2d (fun x => x)) (by omega), (k02d.trans k).up k' fun k hk => by omega⟩
    have r1 := h1.chg k02d
    have r2 := hh1.chg k02d
    refine ⟨fun p => p.block < W.heap.size, q1, l1, c1, zW, (A2d.cell 0).trans rfl, q2, l2, c2, (by show (Addr.add _ _).block < _; rw [add_block]; exact zW), (A2d.cell0 1).trans rfl, Calls.use (onceF59 r1 hl1) ?_, fun w13 e13 => ?_⟩
    · rintro _ w4 ⟨q3, l3, c3, rfl, hl3, S4, k4⟩
      have S4' := S4.lower hW
      refine ⟨q3, l3, c3, rfl, k4.keeps, Calls.use (clone60 (r2.chg k4) hl2) ?_, fun w10 e10 => ?_⟩
      · rintro _ w5 ⟨q4, c4, rfl, T5, k5⟩
        have T5' := T5.lower (Nat.le_trans hW k4.size)
        have k45 := k4.trans k5
        have go : ∀ w6, w6 = w5.alloc (.cells #[.slice none 0 0, .slice none 0 0] 28) → Blk w6 w5.heap.size 28 #[.slice none 0 0, .slice none 0 0] ∧ Chg none_ W w6 ∧ SE En.t3 w6 w.heap.size 37 q3 l3 c3 (normF fs) ∧ SE En.crh w6 w.heap.size 42 q4 l2 c4 hs := fun w6 e6 => by
          have k6 := (Chg.refl none_ w5).new' e6
          exact ⟨new_blk e6, k45.trans k6, S4'.chgN (k5.trans k6), T5'.chgN k6⟩
        refine ⟨q4, l2, c4, rfl, k45.keeps, ⟨k45.keeps, fun w6 e6 => ?_⟩, fun w6 e6 => ?_⟩
        · obtain ⟨B6, k6, S6, T6⟩ := go w6 e6
          exact ⟨k6.keeps, B6.canStore (by show 0 + 2 ≤ 2; decide), fun w7 e7 => fin B6 S6 T6 k6 k45.size hl3 e7⟩
        · obtain ⟨B6, k6, S6, T6⟩ := go w6 e6
          exact ⟨k6.keeps, k6.keeps, B6.canStore (by show 0 + 2 ≤ 2; decide), fun w7 e7 => fin B6 S6 T6 k6 k45.size hl3 e7⟩
      · have B10 := new_blk e10
        have k10 := (Chg.refl none_ w4).new' e10
        have k410 := k4.trans k10
        refine ⟨k410.keeps, Calls.use (clone60 (r2.chg k410) hl2) ?_⟩
        rintro _ w11 ⟨q4, c4, rfl, T11, k11⟩
        have k411 := k410.trans k11
        have B11 := k11.blk B10 (fun x => x)
        exact ⟨q4, l2, c4, rfl, k411.keeps, k411.keeps, B11.canStore (by show 0 + 2 ≤ 2; decide), fun w12 e12 => fin B11 (S4'.chgN (k10.trans k11)) (T11.lower (Nat.le_trans hW k410.size)) k411 k4.size hl3 e12⟩
    · have B13 := new_blk e13
      have k13 := (Chg.refl none_ W).new' e13
      refine ⟨k13.keeps, Calls.use (onceF59 (r1.chg k13) hl1) ?_⟩
      rintro _ w14 ⟨q3, l3, c3, rfl, hl3, S14, k14⟩
      have k1314 := k13.trans k14
      refine ⟨q3, l3, c3, rfl, k1314.keeps, Calls.use (clone60 (r2.chg k1314) hl2) ?_⟩
      rintro _ w15 ⟨q4, c4, rfl, T15, k15⟩
      have k1315 := k1314.trans k15
      have B15 := (k14.trans k15).blk B13 (fun x => x)
      exact ⟨q4, l2, c4, rfl, k1315.keeps, k1315.keeps, B15.canStore (by show 0 + 2 ≤ 2; decide), fun w16 e16 => fin B15 ((S14.lower (Nat.le_trans hW k13.size)).chgN k15) (T15.lower (Nat.le_trans hW k1314.size)) k1315 (Nat.le_refl _) hl3 e16⟩
  rintro x w3 ⟨b, q3, l3, c3, q4, c4, rfl, hl3, hb, hb1, P3, S3, T3', R3, k3⟩
  obtain ⟨F, hF⟩ := crF w
  have hread : ∀ x ∈ hs, RE En.t3 w x.q x.l (F x).fates ∧ x.l * 24 ≤ 140737488351232 := fun x hx => by
    obtain ⟨j, hj⟩ := List.getElem?_of_mem hx
    obtain ⟨f, hf⟩ := get_ex (l := cs) (i := j) (by have := get_lt hj; omega)
    obtain ⟨_, _, hfa, hub, _⟩ := hh3 j x f hj hf
    rw [(hF x).2.2 _ hfa]
    exact ⟨hfa, hub⟩
  have hmap : hs.map F = cs := by
    apply List.ext_getElem?
    intro j
    rw [List.getElem?_map]
    cases hx : hs[j]? with
    | none => rw [List.getElem?_eq_none (by have := List.getElem?_eq_none_iff.1 hx; omega)]; rfl
    | some x =>
      obtain ⟨f, hf⟩ := get_ex (l := cs) (i := j) (by have := get_lt hx; omega)
      obtain ⟨e1, e2, hfa, _⟩ := hh3 j x f hx hf
      obtain ⟨a1, a2, a3⟩ := hF x
      rw [hf, Option.map_some]
      have e3 := a3 _ hfa
      cases f with
      | mk s r fa =>
        generalize hy : F x = y at *
        cases y with
        | mk s' r' fa' => simp_all
  refine onPtr_mk ⟨q4, l2, c4, (P3.cell0 1).trans rfl, Calls.use (sort61 T3' (by omega)) ?_⟩
  rintro _ w17 ⟨rfl, ys, T17, sY, eY, k17⟩
  have hyread : ∀ x ∈ ys, RE En.t3 w x.q x.l (F x).fates ∧ x.l * 24 ≤ 140737488351232 := fun x hx => hread x (eY.mem cW hx)
  have ec : normC cs = ys.map fun x => normK (F x) := by
    unfold normC
    rw [← hmap, ← sort_heads (fun h => (hF h).1) sY eY, List.map_map]
    rfl
  have P17 := k17.blk P3 (fun e => SE.ne T3' P3 (by decide) _ e.symm rfl)
  have R17 := k17.blk R3 (fun e => SE.ne T3' R3 (by decide) _ e.symm rfl)
  have S17 := S3.chg k17 fun g hg hk => SE.ne2 S3 T3' (by decide) g hg hk
  have k017 : Chg none_ w w17 := k3.up k17 fun k hk => (T3'.lt hk.symm).2
  have ylen : ys.length = l2 := T17.len

  refine ⟨rfl, onPtr_mk ⟨q4, l2, c4, (P17.cell0 1).trans rfl, fun x w' => ∃ (i : Nat) (hs' : List CrH), x = (i : Int) ∧ i ≤ l2 ∧ Blk w' b 28 #[.slice q3 l3 c3, .slice q4 l2 c4] ∧ SE En.t3 w' w.heap.size 37 q3 l3 c3 (normF fs) ∧ SE En.crh w' w.heap.size 42 q4 l2 c4 hs' ∧ (∀ j, i ≤ j → hs'[j]? = ys[j]?) ∧
      (∀ (j : Nat) (h : CrH) (c : Cr), j < i → hs'[j]? = some h → (normC cs)[j]? = some c → OwnP w' w.heap.size h c) ∧ (∀ (j k : Nat) (x y : CrH), j < k → k < i → hs'[j]? = some x → hs'[k]? = some y → ∀ g, qB x.q = some g → qB y.q ≠ some g) ∧ Blk w' w1.heap.size 28 #[.slice none 0 0, .slice none 0 0] ∧ Chg none_ w w', fun x _ => l2 - x.toNat,
    ⟨0, ys, rfl, by omega, P17, S17, T17, fun _ _ => rfl, fun j h c hj => by omega, fun j k x y _ hk => by omega, R17, k017⟩, ?_⟩⟩
  rintro _ w18' ⟨i, hs', rfl, hi, P, S, T, hsame, hown, hdst, R, k⟩
  have hTl := T.len
  refine bc (fun g => ?_) fun g => ?_
  · have g : i < l2 := by simp at g; omega
    have Pd := P.drew
    have Sd := S.drew
    have Td := T.drew
    have Rd := R.drew
    have kd := k.drew
    have hownd : ∀ (j : Nat) (h : CrH) (c : Cr), j < i → hs'[j]? = some h → (normC cs)[j]? = some c → OwnP w18'.drew w.heap.size h c := fun j h c a b d => (hown j h c a b d).chg (Chg.refl none_ w18').drew fun _ _ x => x
    generalize w18'.drew = W at *
    obtain ⟨a, x, ha, hx, hr⟩ := Td.re.ex g
    have hx' : ys[i]? = some x := by rw [← hsame i (Nat.le_refl _)]; exact hx
    obtain ⟨hfa, hub⟩ := hyread x (List.mem_of_getElem? hx')
    have hf : (normC cs)[i]? = some (normK (F x)) := by rw [ec, List.getElem?_map, hx']; rfl
    have e1 : x.step = (normK (F x)).step := (hF x).1.symm
    have e2 : x.rest = (normK (F x)).rest := (hF x).2.1.symm
    have hP := Pd.lt
    obtain ⟨a', ha', hcan⟩ := Td.can g
    rw [ha] at ha'; cases ha'
    have hblk : ∀ n, ((a.add n).add 2).block < W.heap.size := fun n => by
      rw [add_block, add_block]
      exact (Td.lt (by rw [ha]; rfl)).1
    refine ⟨fun p => p.block < W.heap.size, onPtr_mk ⟨q4, l2, c4, (by show (Addr.add _ _).block < _; rw [add_block]; exact hP), (Pd.cell0 1).trans rfl, onPtr_mk ⟨q4, l2, c4, (by show (Addr.add _ _).block < _; rw [add_block]; exact hP), (Pd.cell0 1).trans rfl, onPtr_eq ha ⟨by omega, by omega, x.q, x.l, x.c, hblk _, hr 2 _ rfl, Calls.use (onceT62 (hfa.chg kd) hub) ?_⟩⟩⟩⟩
    rintro _ w18 ⟨q12, l12, c12, rfl, hl12, S18, k18⟩
    have T18 := Td.chgN k18
    obtain ⟨a'', ha'', hcan18⟩ := T18.can g
    rw [ha] at ha''; cases ha''
    refine ⟨q12, l12, c12, rfl, k18.keeps, onPtr_eq ha ⟨by omega, by omega, hcan18 2 1 (by decide), fun w19 e19 => ?_⟩⟩
    obtain ⟨T19, k19⟩ := T18.setAt (w' := w19) ha (i := i) (o := 2) (x' := ⟨x.step, x.rest, q12, l12, c12⟩) (vs := [.slice q12 l12 c12]) hx (Nat.le_of_ble_eq_true rfl) (fun j => by rcases j with _ | _ | _ | j <;> rfl) e19
    rw [wrapS (x := (i : Int) + 1) (by omega) (by omega)]
    have hW := kd.size
    have far : ∀ {b0 : Nat} {q : Option Addr} {l c : Nat} {e : TypeId} {xs : List T3}, e ≠ 42 → SE En.t3 w18 b0 e q l c xs → SE En.t3 w19 b0 e q l c xs := fun he hS => hS.chg k19 fun g hg hk => SE.ne2 hS T18 (Ne.symm he) g hg hk
    refine ⟨⟨i + 1, _, by omega, by omega, k19.blk (k18.blk Pd (fun x => x)) (fun e => SE.ne T18 (k18.blk Pd (fun x => x)) (by decide) _ e.symm rfl), far (by decide) (Sd.chgN k18), T19, fun j hj => ?_, fun j h c hj hh hc => ?_, fun j k y z hjk hk hy hz g hg => ?_, k19.blk (k18.blk Rd (fun x => x)) (fun e => SE.ne T18 (k18.blk Rd (fun x => x)) (by decide) _ e.symm rfl), (kd.trans k18).up k19 fun k hk => (T18.lt hk.symm).2⟩, by simp only [Int.toNat_natCast]; omega⟩
    · rw [List.getElem?_set_ne (by omega)]; exact hsame j (by omega)
    · by_cases hji : j = i
      · subst hji
        rw [List.getElem?_set_self (get_lt hx)] at hh
        cases hh
        rw [hf] at hc; cases hc
        exact ⟨e1, e2, far (by decide) (S18.lower hW), by show l12 * 24 ≤ _; omega⟩
      · rw [List.getElem?_set_ne (Ne.symm hji)] at hh
        have o := hownd j h c (by omega) hh hc
        exact ⟨o.1, o.2.1, far (by decide) (o.2.2.1.chgN k18), o.2.2.2⟩
    · rw [List.getElem?_set_ne (by omega)] at hy
      by_cases hki : k = i
      · subst hki
        rw [List.getElem?_set_self (get_lt hx)] at hz
        cases hz
        obtain ⟨cj, hcj⟩ := get_ex (l := normC cs) (i := j) (by rw [ec, List.length_map]; have := get_lt hy; omega)
        intro e
        have := ((hownd j y cj (by omega) hy hcj).2.2.1.lt hg).1
        have := (S18.lt e).2
        omega
      · rw [List.getElem?_set_ne (Ne.symm hki)] at hz
        exact hdst j k y z hjk (by omega) hy hz g hg
  · have hie : i = l2 := by simp at g; omega
    subst hie
    refine onPtr_mk ⟨_, _, _, _, _, _, P.reads0, R.canStore (by show 0 + 2 ≤ 2; decide), fun w20 e20 => ?_⟩
    have R20 := R.over e20 rfl
    have k20 : Chg (fun k => k = w1.heap.size) _ w20 := (Chg.refl _ _).sets' e20 (.inl rfl)
    refine ⟨_, _, _, _, _, _, R20.reads0, q3, l3, c3, q4, c4, rfl, hl3, S.chg k20 fun g hg hk => SE.ne S R (by decide) g hg hk, ⟨hs', T.chg k20 fun g hg hk => SE.ne T R (by decide) g hg hk, by rw [ec, List.length_map]; omega, fun j h c hj hc => ?_, fun j k x y hjk hx hy => hdst j k x y hjk (by have := get_lt hy; omega) hx hy⟩, k.up k20 fun g hg => by omega⟩
    have o := hown j h c (by have := get_lt hj; omega) hj hc
    exact o.chg k20 fun g hg hk => SE.ne o.2.2.1 R (by decide) g hg hk
end Go.Proofs.YtdlbmmodlkmofaaDoor
set_option maxRecDepth 20000
namespace Go.Proofs.YtdlbmmodlkmofaaDoor
open Go Go.Vc Go.RowKit
/-! # the reference's sorts -/
theorem rsort64 {w : World} {q : Option Addr} {l c : Nat} {xs : List T3} (h : RE En.t3 w q l xs) (hl : l * 24 ≤ 140737488351232) :
    Calls Tryd.prog 64 #[.slice q l c] w (Ret fun v w' => ∃ q' c', v = .slice q' l c' ∧ SE En.t3 w' w.heap.size 37 q' l c' (sortOf fLt xs) ∧ Chg none_ w w') := by
  have hlen := h.len
  obtain ⟨base, hbase⟩ : ∃ b, b = w.heap.size := ⟨_, rfl⟩
  rw [← hbase]
  refine f64.calls _ _ _ ?_
  unfold f64.wp
  refine newBox fun w1 B1 k1 z1 => ?_
  have S1 : SE En.t3 w1 base 37 (some ⟨w.heap.size, 0, none⟩) 0 0 [] := SE.lit B1 (Nat.le_of_eq hbase) (fun n v hv => by simp [En.flat] at hv) rfl (Nat.le_refl _) (by decide) (by simp)
  obtain ⟨q1, c1, w2, hrun, S2, k2, _, _, _, _⟩ := S1.append (t := 25) (ty := 25) (c2 := c) elemFault (h.chg k1) (by simp only [maxLen]; omega) (by omega) (by have := k1.size; omega)
  simp only [Nat.zero_add, List.nil_append] at S2 hrun
  have k02 : Chg none_ w w2 := k1.up k2 fun k hk => by simp [qB] at hk; omega
  refine ⟨q1, l, c1, w2, hrun, fun x w' => ∃ (k : Nat) (Y : List T3), x = (k : Int) ∧ 1 ≤ k ∧ (k ≤ l ∨ k = 1) ∧ SE En.t3 w' base 37 q1 l c1 (Y ++ xs.drop k) ∧ Srt fLt Y ∧ Same fLt (xs.take k) Y ∧ Y.length = (xs.take k).length ∧ Chg none_ w w', fun x _ => l - x.toNat, ⟨1, xs.take 1, rfl, Nat.le_refl _, .inr rfl, ?_, ?_, Same.refl _, rfl, k02⟩, ?_⟩
  · rw [List.take_append_drop]; exact S2
  · cases xs with
    | nil => exact Srt.nil
    | cons x r => exact Srt.one x
  rintro _ w3 ⟨k, Y, rfl, hk1, hk, S3, sY, eY, lY, k3⟩
  refine bc (fun g => ?_) fun g => ?_
  · have g : k < l := by have := of_decide_eq_true g; omega
    obtain ⟨z, hz⟩ := get_ex (l := xs) (i := k) (by omega)
    have lY' : Y.length = k := by rw [lY, List.length_take]; omega
    rw [drop_cons hz] at S3
    have fin : ∀ {w' : World} {A B : List T3}, SE En.t3 w' base 37 q1 l c1 (A ++ z :: (B ++ xs.drop (k + 1))) → A ++ B = Y → (∀ x ∈ B, fLt z x = true) → (∀ x ∈ A, fLt z x = false) → Chg none_ w w' →
        (∃ (k' : Nat) (Y : List T3), IntKind.wrap .i64 ((k : Int) + 1) = (k' : Int) ∧ 1 ≤ k' ∧ (k' ≤ l ∨ k' = 1) ∧ SE En.t3 w' base 37 q1 l c1 (Y ++ xs.drop k') ∧ Srt fLt Y ∧ Same fLt (xs.take k') Y ∧ Y.length = (xs.take k').length ∧ Chg none_ w w') ∧ l - (IntKind.wrap .i64 ((k : Int) + 1)).toNat < l - ((k : Nat) : Int).toNat := fun {w' A B} S' hAB hB hA k' => by
      have ew : IntKind.wrap .i64 ((k : Int) + 1) = ((k + 1 : Nat) : Int) := by rw [wrapS (by omega) (by omega)]; omega
      rw [ew]
      obtain ⟨s1, s2⟩ := ins_ok fW (X := xs.take k) (A := A) (B := B) (z := z) (by rw [hAB]; exact sY) (by rw [hAB]; exact eY) hB hA
      have e0 := congrArg List.length hAB
      simp only [List.length_append] at e0
      refine ⟨⟨k + 1, A ++ z :: B, rfl, by omega, .inl (by omega), by simpa using S', s1, by rw [take_snoc hz]; exact s2, ?_, k'⟩, by simp only [Int.toNat_natCast]; omega⟩
      simp only [List.length_append, List.length_cons, List.length_take]; omega
    refine ⟨fun x w' => ∃ A B : List T3, x = (A.length : Int) ∧ SE En.t3 w' base 37 q1 l c1 (A ++ z :: (B ++ xs.drop (k + 1))) ∧ A ++ B = Y ∧ (∀ x ∈ B, fLt z x = true) ∧ Chg none_ w w', fun x _ => x.toNat, ⟨Y, [], by rw [lY'], S3, by simp, fun x hx => by simp at hx, k3⟩, ?_⟩
    rintro _ w4 ⟨A, B, rfl, S4, hAB, hB, k4⟩
    have S4d := S4.drew
    have k4d : Chg none_ w w4.drew := k4.drew
    have l4 := S4.len
    simp only [List.length_append, List.length_cons, List.length_drop] at l4
    have parts : ∀ {A' : List T3} {u : T3}, A = A' ++ [u] → ∃ p, q1 = some p ∧ ((A.length : Nat) : Int) = ((A'.length + 1 : Nat) : Int) ∧ IntKind.wrap .i64 (((A'.length + 1 : Nat) : Int) - 1) = ((A'.length : Nat) : Int) ∧ reads w4.drew (p.add ((A'.length + 1) * 3)) (En.t3.enc z) ∧ reads w4.drew (p.add (A'.length * 3)) (En.t3.enc u) ∧ A'.length + 1 < l ∧
        (A ++ z :: (B ++ xs.drop (k + 1)))[A'.length + 1]? = some z ∧ (A ++ z :: (B ++ xs.drop (k + 1)))[A'.length]? = some u := fun {A' u} hA => by
      subst hA
      have lA : (A' ++ [u]).length = A'.length + 1 := by simp
      rw [lA] at l4
      obtain ⟨p, hp⟩ : ∃ p, q1 = some p := by obtain ⟨a, _, ha, _⟩ := S4.re.ex (i := 0) (by omega); exact ⟨a, ha⟩
      have gz : ((A' ++ [u]) ++ z :: (B ++ xs.drop (k + 1)))[A'.length + 1]? = some z := get_mid (by simp)
      have gu : ((A' ++ [u]) ++ z :: (B ++ xs.drop (k + 1)))[A'.length]? = some u := by
        rw [List.append_assoc]; exact get_mid rfl
      subst hp
      exact ⟨p, rfl, by rw [lA], by rw [wrapS (by omega) (by omega)]; omega, (rdAt S4d gz).1, (rdAt S4d gu).1, by omega, gz, gu⟩
    have swapped : ∀ {A' : List T3} {u : T3} {w' : World}, A = A' ++ [u] → fLt z u = true → SE En.t3 w' base 37 q1 l c1 (sw (A ++ z :: (B ++ xs.drop (k + 1))) (A'.length + 1) A'.length z u) → Chg none_ w w' →
        (∃ A B : List T3, ((A'.length : Nat) : Int) = (A.length : Int) ∧ SE En.t3 w' base 37 q1 l c1 (A ++ z :: (B ++ xs.drop (k + 1))) ∧ A ++ B = Y ∧ (∀ x ∈ B, fLt z x = true) ∧ Chg none_ w w') ∧ ((A'.length : Nat) : Int).toNat < ((A'.length + 1 : Nat) : Int).toNat := fun {A' u w'} hA hlt S' k' => by
      subst hA
      have e : (A' ++ [u]) ++ z :: (B ++ xs.drop (k + 1)) = A' ++ u :: ([] ++ z :: (B ++ xs.drop (k + 1))) := by simp
      rw [e, sw_mid' rfl (by simp)] at S'
      refine ⟨⟨A', u :: B, rfl, by simpa using S', by rw [← hAB]; simp, fun x hx => ?_, k'⟩, by simp only [Int.toNat_natCast]; omega⟩
      rcases List.mem_cons.1 hx with rfl | hx
      · exact hlt
      · exact hB x hx
    have stop : ∀ {A' : List T3} {u : T3}, A = A' ++ [u] → fLt z u = false → _ := fun {A' u} hA hge => fin (A := A) (B := B) S4d hAB hB (by subst hA; exact last_ok fW (Srt.left (B := B) (by rw [hAB]; exact sY)) hge) k4d
    have empty : A = [] → _ := fun hA => fin (A := A) (B := B) S4d hAB hB (fun x hx => by rw [hA] at hx; simp at hx) k4d
    have last : 0 < A.length → ∃ A' u, A = A' ++ [u] := fun g1 => ⟨A.dropLast, A.getLast (List.length_pos_iff.1 g1), (List.dropLast_concat_getLast _).symm⟩
    refine ⟨fun w' => w' = w4.drew ∧ ∃ A' u, A = A' ++ [u] ∧ fLt z u = true, ?_, ?_⟩
    · rintro _ ⟨rfl, A', u, hA, hlt⟩
      obtain ⟨p, hp, eA, ej, _, _, hlt', gz, gu⟩ := parts hA
      rw [eA, ej]
      refine swapT3 S4d.drew (i := A'.length + 1) (j := A'.length) (x := z) (y := u) rfl rfl gz gu fun w' S' k' => swapped hA hlt S' (k4d.drew.up k' fun k hk => by have := (S4d.drew.lt hk.symm).2; omega)
    · refine bc (fun g1 => ?_) fun g1 => empty (by have h0 : ¬ ((A.length : Int) > 0) := of_decide_eq_false g1; exact List.eq_nil_of_length_eq_zero (by omega))
      obtain ⟨A', u, hA⟩ := last (by have := of_decide_eq_true g1; omega)
      obtain ⟨p, hp, eA, ej, rz, ru, hlt', gz, gu⟩ := parts hA
      subst hp
      rw [eA, ej]
      have cz0 := reads_at rz (i := 0) rfl
      have cu0 := reads_at ru (i := 0) rfl
      rw [add_zero'] at cz0 cu0
      have b1 : 0 ≤ ((A'.length : Nat) : Int) ∧ ((A'.length : Nat) : Int) < ((l : Nat) : Int) := by omega
      have b2 : 0 ≤ ((A'.length + 1 : Nat) : Int) ∧ ((A'.length + 1 : Nat) : Int) < ((l : Nat) : Int) := by omega
      refine onPtr_mk ⟨b1.1, b1.2, _, cu0, onPtr_mk ⟨b2.1, b2.2, _, cz0, bc (fun g2 => ⟨rfl, A', u, hA, ?_⟩) fun g2 => onPtr_mk ⟨b1.1, b1.2, _, cu0, onPtr_mk ⟨b2.1, b2.2, _, cz0, bc (fun g3 => ?_) fun g3 => stop hA ?_⟩⟩⟩⟩
      · have := of_decide_eq_true g2
        exact (fLt_iff z u).2 (.inl this)
      · refine onPtr_mk ⟨b1.1, b1.2, _, reads_at ru (i := 1) rfl, onPtr_mk ⟨b2.1, b2.2, _, reads_at rz (i := 1) rfl, bc (fun g4 => ⟨rfl, A', u, hA, ?_⟩) fun g4 => stop hA ?_⟩⟩
        · have := of_decide_eq_true g4
          have e3 := eq_of_beq g3
          exact (fLt_iff z u).2 (.inr ⟨e3.symm, this⟩)
        · have h2 := of_decide_eq_false g2
          have h4 := of_decide_eq_false g4
          rw [← Bool.not_eq_true, fLt_iff]
          omega
      · have h2 := of_decide_eq_false g2
        have h3 : u.1 ≠ z.1 := fun e => by rw [e] at g3; simp at g3
        rw [← Bool.not_eq_true, fLt_iff]
        omega
  · have g : l ≤ k := by have := of_decide_eq_false g; omega
    have e1 : xs.take k = xs := List.take_of_length_le (by omega)
    have e2 : xs.drop k = [] := List.drop_eq_nil_of_le (by omega)
    rw [e1] at eY
    rw [e2, List.append_nil] at S3
    rw [← sortOf_eq fW sY eY]
    exact ⟨q1, c1, rfl, S3, k3⟩
theorem rsort65 {w : World} {q : Option Addr} {l c : Nat} {xs : List T3} (h : RE En.t3 w q l xs) (hl : l * 24 ≤ 140737488351232) :
    Calls Tryd.prog 65 #[.slice q l c] w (Ret fun v w' => ∃ q' c', v = .slice q' l c' ∧ SE En.t3 w' w.heap.size 44 q' l c' (sortOf tLt xs) ∧ Chg none_ w w') := by
  have hlen := h.len
  obtain ⟨base, hbase⟩ : ∃ b, b = w.heap.size := ⟨_, rfl⟩
  rw [← hbase]
  refine f65.calls _ _ _ ?_
  unfold f65.wp
  refine newBox fun w1 B1 k1 z1 => ?_
  have S1 : SE En.t3 w1 base 44 (some ⟨w.heap.size, 0, none⟩) 0 0 [] := SE.lit B1 (Nat.le_of_eq hbase) (fun n v hv => by simp [En.flat] at hv) rfl (Nat.le_refl _) (by decide) (by simp)
  obtain ⟨q1, c1, w2, hrun, S2, k2, _, _, _, _⟩ := S1.append (t := 40) (ty := 40) (c2 := c) elemFate (h.chg k1) (by simp only [maxLen]; omega) (by omega) (by have := k1.size; omega)
  simp only [Nat.zero_add, List.nil_append] at S2 hrun
  have k02 : Chg none_ w w2 := k1.up k2 fun k hk => by simp [qB] at hk; omega
  refine ⟨q1, l, c1, w2, hrun, fun x w' => ∃ (k : Nat) (Y : List T3), x = (k : Int) ∧ 1 ≤ k ∧ (k ≤ l ∨ k = 1) ∧ SE En.t3 w' base 44 q1 l c1 (Y ++ xs.drop k) ∧ Srt tLt Y ∧ Same tLt (xs.take k) Y ∧ Y.length = (xs.take k).length ∧ Chg none_ w w', fun x _ => l - x.toNat, ⟨1, xs.take 1, rfl, Nat.le_refl _, .inr rfl, ?_, ?_, Same.refl _, rfl, k02⟩, ?_⟩
  · rw [List.take_append_drop]; exact S2
  · cases xs with
    | nil => exact Srt.nil
    | cons x r => exact Srt.one x
  rintro _ w3 ⟨k, Y, rfl, hk1, hk, S3, sY, eY, lY, k3⟩
  refine bc (fun g => ?_) fun g => ?_
  · have g : k < l := by have := of_decide_eq_true g; omega
    obtain ⟨z, hz⟩ := get_ex (l := xs) (i := k) (by omega)
    have lY' : Y.length = k := by rw [lY, List.length_take]; omega
    rw [drop_cons hz] at S3
    have fin : ∀ {w' : World} {A B : List T3}, SE En.t3 w' base 44 q1 l c1 (A ++ z :: (B ++ xs.drop (k + 1))) → A ++ B = Y → (∀ x ∈ B, tLt z x = true) → (∀ x ∈ A, tLt z x = false) → Chg none_ w w' →
        (∃ (k' : Nat) (Y : List T3), IntKind.wrap .i64 ((k : Int) + 1) = (k' : Int) ∧ 1 ≤ k' ∧ (k' ≤ l ∨ k' = 1) ∧ SE En.t3 w' base 44 q1 l c1 (Y ++ xs.drop k') ∧ Srt tLt Y ∧ Same tLt (xs.take k') Y ∧ Y.length = (xs.take k').length ∧ Chg none_ w w') ∧ l - (IntKind.wrap .i64 ((k : Int) + 1)).toNat < l - ((k : Nat) : Int).toNat := fun {w' A B} S' hAB hB hA k' => by
      have ew : IntKind.wrap .i64 ((k : Int) + 1) = ((k + 1 : Nat) : Int) := by rw [wrapS (by omega) (by omega)]; omega
      rw [ew]
      obtain ⟨s1, s2⟩ := ins_ok tW (X := xs.take k) (A := A) (B := B) (z := z) (by rw [hAB]; exact sY) (by rw [hAB]; exact eY) hB hA
      have e0 := congrArg List.length hAB
      simp only [List.length_append] at e0
      refine ⟨⟨k + 1, A ++ z :: B, rfl, by omega, .inl (by omega), by simpa using S', s1, by rw [take_snoc hz]; exact s2, ?_, k'⟩, by simp only [Int.toNat_natCast]; omega⟩
      simp only [List.length_append, List.length_cons, List.length_take]; omega
    refine ⟨fun x w' => ∃ A B : List T3, x = (A.length : Int) ∧ SE En.t3 w' base 44 q1 l c1 (A ++ z :: (B ++ xs.drop (k + 1))) ∧ A ++ B = Y ∧ (∀ x ∈ B, tLt z x = true) ∧ Chg none_ w w', fun x _ => x.toNat, ⟨Y, [], by rw [lY'], S3, by simp, fun x hx => by simp at hx, k3⟩, ?_⟩
    rintro _ w4 ⟨A, B, rfl, S4, hAB, hB, k4⟩
    have S4d := S4.drew
    have k4d : Chg none_ w w4.drew := k4.drew
    have l4 := S4.len
    simp only [List.length_append, List.length_cons, List.length_drop] at l4
    have parts : ∀ {A' : List T3} {u : T3}, A = A' ++ [u] → ∃ p, q1 = some p ∧ ((A.length : Nat) : Int) = ((A'.length + 1 : Nat) : Int) ∧ IntKind.wrap .i64 (((A'.length + 1 : Nat) : Int) - 1) = ((A'.length : Nat) : Int) ∧ reads w4.drew (p.add ((A'.length + 1) * 3)) (En.t3.enc z) ∧ reads w4.drew (p.add (A'.length * 3)) (En.t3.enc u) ∧ A'.length + 1 < l ∧
        (A ++ z :: (B ++ xs.drop (k + 1)))[A'.length + 1]? = some z ∧ (A ++ z :: (B ++ xs.drop (k + 1)))[A'.length]? = some u := fun {A' u} hA => by
      subst hA
      have lA : (A' ++ [u]).length = A'.length + 1 := by simp
      rw [lA] at l4
      obtain ⟨p, hp⟩ : ∃ p, q1 = some p := by obtain ⟨a, _, ha, _⟩ := S4.re.ex (i := 0) (by omega); exact ⟨a, ha⟩
      have gz : ((A' ++ [u]) ++ z :: (B ++ xs.drop (k + 1)))[A'.length + 1]? = some z := get_mid (by simp)
      have gu : ((A' ++ [u]) ++ z :: (B ++ xs.drop (k + 1)))[A'.length]? = some u := by
        rw [List.append_assoc]; exact get_mid rfl
      subst hp
      exact ⟨p, rfl, by rw [lA], by rw [wrapS (by omega) (by omega)]; omega, (rdAt S4d gz).1, (rdAt S4d gu).1, by omega, gz, gu⟩
    have swapped : ∀ {A' : List T3} {u : T3} {w' : World}, A = A' ++ [u] → tLt z u = true → SE En.t3 w' base 44 q1 l c1 (sw (A ++ z :: (B ++ xs.drop (k + 1))) (A'.length + 1) A'.length z u) → Chg none_ w w' →
        (∃ A B : List T3, ((A'.length : Nat) : Int) = (A.length : Int) ∧ SE En.t3 w' base 44 q1 l c1 (A ++ z :: (B ++ xs.drop (k + 1))) ∧ A ++ B = Y ∧ (∀ x ∈ B, tLt z x = true) ∧ Chg none_ w w') ∧ ((A'.length : Nat) : Int).toNat < ((A'.length + 1 : Nat) : Int).toNat := fun {A' u w'} hA hlt S' k' => by
      subst hA
      have e : (A' ++ [u]) ++ z :: (B ++ xs.drop (k + 1)) = A' ++ u :: ([] ++ z :: (B ++ xs.drop (k + 1))) := by simp
      rw [e, sw_mid' rfl (by simp)] at S'
      refine ⟨⟨A', u :: B, rfl, by simpa using S', by rw [← hAB]; simp, fun x hx => ?_, k'⟩, by simp only [Int.toNat_natCast]; omega⟩
      rcases List.mem_cons.1 hx with rfl | hx
      · exact hlt
      · exact hB x hx
    have stop : ∀ {A' : List T3} {u : T3}, A = A' ++ [u] → tLt z u = false → _ := fun {A' u} hA hge => fin (A := A) (B := B) S4d hAB hB (by subst hA; exact last_ok tW (Srt.left (B := B) (by rw [hAB]; exact sY)) hge) k4d
    have empty : A = [] → _ := fun hA => fin (A := A) (B := B) S4d hAB hB (fun x hx => by rw [hA] at hx; simp at hx) k4d
    have last : 0 < A.length → ∃ A' u, A = A' ++ [u] := fun g1 => ⟨A.dropLast, A.getLast (List.length_pos_iff.1 g1), (List.dropLast_concat_getLast _).symm⟩
    refine bc (fun g1 => ?_) fun g1 => empty (by have h0 : ¬ ((A.length : Int) > 0) := of_decide_eq_false g1; exact List.eq_nil_of_length_eq_zero (by omega))
    obtain ⟨A', u, hA⟩ := last (by have := of_decide_eq_true g1; omega)
    obtain ⟨p, hp, eA, ej, rz, ru, hlt', gz, gu⟩ := parts hA
    have eq1 := hp
    subst hp
    rw [eA, ej]
    have cz0 := reads_at rz (i := 0) rfl
    have cu0 := reads_at ru (i := 0) rfl
    rw [add_zero'] at cz0 cu0
    have b1 : 0 ≤ ((A'.length : Nat) : Int) ∧ ((A'.length : Nat) : Int) < ((l : Nat) : Int) := by omega
    have b2 : 0 ≤ ((A'.length + 1 : Nat) : Int) ∧ ((A'.length + 1 : Nat) : Int) < ((l : Nat) : Int) := by omega
    refine onPtr_mk ⟨b1.1, b1.2, _, cu0, onPtr_mk ⟨b2.1, b2.2, _, cz0, bc (fun g2 => ?_) fun g2 => stop hA ?_⟩⟩
    · have hlt : tLt z u = true := (tLt_iff z u).2 (of_decide_eq_true g2)
      refine swapT3 S4d.drew (i := A'.length + 1) (j := A'.length) (x := z) (y := u) rfl rfl gz gu fun w' S' k' => swapped hA hlt S' (k4d.drew.up k' fun k hk => by have := (S4d.drew.lt hk.symm).2; omega)
    · have h2 := of_decide_eq_false g2
      rw [← Bool.not_eq_true, tLt_iff]
      exact h2
  · have g : l ≤ k := by have := of_decide_eq_false g; omega
    have e1 : xs.take k = xs := List.take_of_length_le (by omega)
    have e2 : xs.drop k = [] := List.drop_eq_nil_of_le (by omega)
    rw [e1] at eY
    rw [e2, List.append_nil] at S3
    rw [← sortOf_eq tW sY eY]
    exact ⟨q1, c1, rfl, S3, k3⟩
end Go.Proofs.YtdlbmmodlkmofaaDoor
