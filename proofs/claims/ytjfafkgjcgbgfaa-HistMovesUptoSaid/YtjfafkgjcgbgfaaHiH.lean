import Derived.Test.YtjfafkgjcgbgfaaHiG
set_option maxRecDepth 20000
namespace Go.Proofs.Ytjfafkgjcgbgfaa
open Go Go.Vc Go.RowKit
def Tells (strict : Bool) (kp : Int → Bool) (css : List (List (List Cl))) (ts : List Tl) (out : List Mv) : Prop := css.length = ts.length ∧ allX strict kp (css.zip ts) 0 0 = some out ∧ Chk out 0 0
theorem tells_iff {css : List (List (List Cl))} {ts : List Tl} {out : List Mv} : Tells true kpP css ts out ↔ Tells false kpR css ts out := by
  unfold Tells
  have := both_tell (zs := css.zip ts) (o := out)
  exact ⟨fun ⟨h1, h2⟩ => ⟨h1, this.1 h2⟩, fun ⟨h1, h2⟩ => ⟨h1, this.2 h2⟩⟩
theorem Tells.eq {s : Bool} {kp : Int → Bool} {css : List (List (List Cl))} {ts : List Tl} {a b : List Mv} (h : Tells s kp css ts a) (k : Tells s kp css ts b) : a = b := Option.some.inj (h.2.1.symm.trans k.2.1)
/-- what is told: a history and no error, or nothing and the error -/
def Out (s : Bool) (kp : Int → Bool) (css : List (List (List Cl))) (ts : List Tl) (out : List Mv) (e : Int) : Prop := (e = 0 ∧ Tells s kp css ts out) ∨ (e = 240 ∧ out = [] ∧ ∀ o, ¬ Tells s kp css ts o)
theorem Out.both {css : List (List (List Cl))} {ts : List Tl} {a b : List Mv} {e f : Int} (h : Out true kpP css ts a e) (k : Out false kpR css ts b f) : a = b ∧ e = f := by
  rcases h with ⟨rfl, h⟩ | ⟨rfl, rfl, h⟩ <;> rcases k with ⟨rfl, k⟩ | ⟨rfl, rfl, k⟩
  · exact ⟨(tells_iff.1 h).eq k, rfl⟩
  · exact absurd (tells_iff.1 h) (k _)
  · exact absurd (tells_iff.2 k) (h _)
  · exact ⟨rfl, rfl⟩
theorem Out.same {s : Bool} {kp : Int → Bool} {css : List (List (List Cl))} {ts : List Tl} {a b : List Mv} {e f : Int} (h : Out s kp css ts a e) (k : Out s kp css ts b f) : a = b ∧ e = f := by
  rcases h with ⟨rfl, h⟩ | ⟨rfl, rfl, h⟩ <;> rcases k with ⟨rfl, k⟩ | ⟨rfl, rfl, k⟩
  · exact ⟨h.eq k, rfl⟩
  · exact absurd h (k _)
  · exact absurd k (h _)
  · exact ⟨rfl, rfl⟩
theorem MovR.uni {s : Bool} {kp : Int → Bool} {css : List (List (List Cl))} {ts : List Tl} {w w' : World} {v : Value} (h : MovR s kp css ts w v w') :
    Chg none_ w w' ∧ ∃ q l c out e, v = .tuple #[.slice q l c, .int .i64 e] ∧ SE En.mv w' w.heap.size 24 q l c out ∧ l ≤ 4096 ∧ Out s kp css ts out e := by
  obtain ⟨k, ⟨q, l, c, out, rfl, h1, h2, h3, h4⟩ | ⟨rfl, h1⟩⟩ := h
  · exact ⟨k, q, l, c, out, 0, rfl, h1, by have := h4.alive.1; have := h1.len; omega, .inl ⟨rfl, h2, h3, h4⟩⟩
  · exact ⟨k, none, 0, 0, [], 240, rfl, SE.nil _ _ _ _, by omega, .inr ⟨rfl, rfl, fun o ho => h1 ⟨ho.1, o, ho.2⟩⟩⟩
theorem Blk.part {w : World} {b : Nat} {t : TypeId} {cs : Array Value} (h : Blk w b t cs) {pre vs post : List Value} (e : cs.toList = pre ++ (vs ++ post)) {n : Nat} (hn : n = pre.length) : reads w ((⟨b, 0, none⟩ : Addr).add n) vs := fun j v hj => by
  subst hn
  rw [Addr.add_add, h.cell0, ← Array.getElem?_toList, e, List.getElem?_append_right (by omega), show pre.length + j - pre.length = j by omega, List.getElem?_append_left (get_lt hj)]
  exact hj
theorem Blk.part0 {w : World} {b : Nat} {t : TypeId} {cs : Array Value} (h : Blk w b t cs) {vs post : List Value} (e : cs.toList = vs ++ post) : reads w (⟨b, 0, none⟩ : Addr) vs := by
  have := Blk.part h (pre := []) (vs := vs) (post := post) (n := 0) e rfl
  rwa [add_zero'] at this
/-! # the run of one call -/
def kB : ByteArray := ⟨#[107]⟩
def vB : ByteArray := ⟨#[118]⟩
def css1 : List (List (List Cl)) := [[[⟨2, kB, vB⟩]]]
def ts1 : List Tl := [⟨[⟨0, 0, 0, false⟩, ⟨4, 0, 0, true⟩], [[⟨0, false, e0⟩]], 5⟩]
def out1 : List Mv := [⟨2, kB, vB, 0, false, 0, 0, 4⟩]
theorem one_tells : Tells true kpP css1 ts1 out1 := by
  refine ⟨rfl, by rfl, .ok (by decide) fun i m hi hm => ?_⟩
  simp only [out1, List.length_cons, List.length_nil] at hi
  obtain rfl : i = 0 := by omega
  simp only [out1, List.getElem?_cons_zero, Option.some.injEq] at hm
  subst hm
  exact ⟨⟨by decide, by decide, by decide, by decide, by decide, by decide, by decide, by decide, by decide, by decide, by decide, (fun h => by cases h), .inr (.inl rfl), .inl (by decide)⟩, fun j p h => by omega, fun j p h => by omega⟩
theorem RR.one {α : Type} {E : En α} {w : World} {b b' : Nat} {t t' : TypeId} {x : α} {h : Hd} (hh : h = (some ⟨b, 0, none⟩, 1, 1)) (B : Blk w b t (E.enc x).toArray) (B' : Blk w b' t' #[.slice h.1 h.2.1 h.2.2]) : RR E w (some ⟨b', 0, none⟩) 1 [[x]] := by
  refine ⟨[h], RE.of_flat rfl (by rw [En.flat_one]; exact B'.reads0), rfl, fun i y ys hy hys => ?_⟩
  cases i with
  | zero =>
    simp at hy hys
    subst hy; subst hys; subst hh
    exact RE.of_flat rfl (by rw [En.flat_one]; exact B.reads0)
  | succ i => simp at hy
theorem one7 {w : World} : Calls Try.prog 7 #[] w (Ret fun v w' => ∃ a b, v = .agg #[.int .i64 0, .int .i64 0, .int .i64 0, .int .i64 0, .int .i64 0, .int .i64 0, .int .i64 0, .int .i64 0, .int .i64 0, .int .i64 0, .int .i64 0, .int .i64 0, .int .i64 0, .int .i64 0, .int .i64 0, .int .i64 0, .slice (some a) 1 1, .slice (some b) 1 1, .slice none 0 0] ∧ SL w' (some a) 1 css1 ∧ TL w' (some b) 1 ts1 ∧ Chg none_ w w') := by
  refine f7.calls ?_
  unfold f7.wp
  refine newBox fun w1 B1 k1 s1 => newBox fun w2 B2 k2 s2 => newBox fun w3 B3 k3 s3 => newBox fun w4 B4 k4 s4 => boxed rfl rfl fun w6 B6 k6 s6 => newBox fun w7 B7 k7 s7 => newBox fun w8 B8 k8 s8 => newBox fun w9 B9 k9 s9 => newBox fun w10 B10 k10 s10 => ?_
  have k610 := k7.trans (k8.trans (k9.trans k10))
  have B6' := k610.blk B6 (fun x => x)
  have k410 := k6.trans k610
  refine ⟨B6'.canStore0 (Nat.le_of_ble_eq_true rfl), fun w11 e11 => ?_⟩
  obtain ⟨B11, k11⟩ := B6'.put e11
  have k210 : Chg none_ w2 w10 := k3.trans (k4.trans k410)
  have k110 : Chg none_ w1 w10 := k2.trans k210
  have ne : ∀ b, b ≠ w4.heap.size → ¬ b = w4.heap.size := fun b h => h
  have z2 := k2.size
  have z3 := k3.size
  have z4 := k4.size
  have z6 := k6.size
  have z7 := k7.size
  have z8 := k8.size
  have z9 := k9.size
  have z10 := k10.size
  have A2 := k11.blk (k210.blk B2 (fun x => x)) (by omega)
  have A3 := k11.blk ((k4.trans k410).blk B3 (fun x => x)) (by omega)
  have A4 := k11.blk (k410.blk B4 (fun x => x)) (by omega)
  have A7 := k11.blk ((k8.trans (k9.trans k10)).blk B7 (fun x => x)) (by omega)
  have A8 := k11.blk ((k9.trans k10).blk B8 (fun x => x)) (by omega)
  have A9 := k11.blk (k10.blk B9 (fun x => x)) (by omega)
  have A10 := k11.blk B10 (by omega)
  have A1 := k11.blk (k110.blk B1 (fun x => x)) (by omega)
  refine ⟨_, _, _, _, _, _, _, _, _, _, _, _, _, _, _, _, _, _, _, _, _, _, _, _, _, B11.reads0, A1.store rfl rfl fun w12 B12 k12 s12 => ⟨_, _, _, _, _, _, _, _, _, _, _, _, _, _, _, _, _, _, _, _, _, _, _, _, _, B12.reads0, ⟨w3.heap.size, 0, none⟩, ⟨w9.heap.size, 0, none⟩, rfl, ⟨rfl, fun i cs hi => ?_⟩, ⟨rfl, fun i t hi => ?_⟩, ?_⟩⟩
  · cases i with
    | zero =>
      simp [css1] at hi
      subst hi
      exact ⟨_, some ⟨w2.heap.size, 0, none⟩, 1, 1, none, 0, 0, none, 0, 0, 0, 0, none, 0, 0, rfl, by rw [Nat.zero_mul, add_zero']; exact (k12.blk A4 (by omega)).reads0, RR.one (E := En.cl) (x := ⟨2, kB, vB⟩) (h := (some ⟨w1.heap.size, 0, none⟩, 1, 1)) rfl (k12.blk A2 (by omega)) (k12.blk A3 (by omega)), by decide⟩
    | succ i => simp [css1] at hi
  · cases i with
    | zero =>
      simp [ts1] at hi
      subst hi
      exact ⟨_, some ⟨w6.heap.size, 0, none⟩, 2, 2, some ⟨w8.heap.size, 0, none⟩, 1, 1, _, _, _, _, _, _, _, _, _, _, _, _, _, _, none, 0, 0, rfl, by rw [Nat.zero_mul, add_zero']; exact (k12.blk A10 (by omega)).reads0, RE.of_flat rfl (k12.blk A7 (by omega)).reads0, RR.one (E := En.an) (x := ⟨0, false, e0⟩) (h := (some ⟨w7.heap.size, 0, none⟩, 1, 1)) rfl (k12.blk A8 (by omega)) (k12.blk A9 (by omega)), by decide⟩
    | succ i => simp [ts1] at hi
  · exact ((k1.trans k110).up k11 fun k hk => by have := k1.size; omega).up k12 fun k hk => by omega
theorem moves4 {w : World} {q1 q2 q3 : Option Addr} {l1 c1 l2 c2 l3 c3 : Nat} {css : List (List (List Cl))} {ts : List Tl} {i1 i2 i3 i4 i5 i6 i7 i8 i9 i10 i11 i12 i13 i14 i15 i16 : Int} (hS : SL w q1 l1 css) (hT : TL w q2 l2 ts) (ht : tot ts ≤ 1048576) (hl2 : l2 ≤ 1048576) :
    Calls Try.prog 4 #[.agg #[.int .i64 i1, .int .i64 i2, .int .i64 i3, .int .i64 i4, .int .i64 i5, .int .i64 i6, .int .i64 i7, .int .i64 i8, .int .i64 i9, .int .i64 i10, .int .i64 i11, .int .i64 i12, .int .i64 i13, .int .i64 i14, .int .i64 i15, .int .i64 i16, .slice q1 l1 c1, .slice q2 l2 c2, .slice q3 l3 c3]] w (Ret fun v w' => v = .bool true ∧ Chg none_ w w') := by
  refine f4.calls _ _ _ _ _ _ _ _ _ _ _ _ _ _ _ _ _ _ _ _ _ _ _ _ _ ?_
  unfold f4.wp
  refine newBox fun w1 B1 k1 s1 => Calls.use one7 ?_
  rintro _ w2 ⟨a, b, rfl, hS1, hT1, k2⟩
  refine ⟨_, _, _, _, _, _, _, _, _, _, _, _, _, _, _, _, _, _, _, _, _, _, _, _, _, rfl, boxed rfl rfl fun w4 B4 k4 s4 => ?_⟩
  refine ⟨_, _, _, _, _, _, _, _, _, _, _, _, _, _, _, _, _, _, _, Blk.part0 B4 (post := [.slice (some b) 1 1, .slice none 0 0]) rfl, _, _, _, _, _, _, Blk.part B4 (pre := [.int .i64 0, .int .i64 0, .int .i64 0, .int .i64 0, .int .i64 0, .int .i64 0, .int .i64 0, .int .i64 0, .int .i64 0, .int .i64 0, .int .i64 0, .int .i64 0, .int .i64 0, .int .i64 0, .int .i64 0, .int .i64 0, .slice (some a) 1 1]) (vs := [.slice (some b) 1 1, .slice none 0 0]) (post := []) rfl rfl, Calls.use (moves8 (hS1.chg k4) (hT1.chg k4) (by decide) (by decide)) ?_⟩
  intro v w5 h5
  obtain ⟨k5, q7, l7, c7, out, e, rfl, S5, hl5, ho⟩ := h5.uni
  have he : out = out1 ∧ e = 0 := ho.same (.inl ⟨rfl, one_tells⟩)
  obtain ⟨rfl, rfl⟩ := he
  refine ⟨_, _, _, _, rfl, bcF rfl (newBox fun w6 B6 k6 s6 => Calls.use (same14 (S5.chgN k6).re (RE.of_flat (a := ⟨w5.heap.size, 0, none⟩) (l := 1) (xs := out1) rfl B6.reads0) (by omega)) ?_)⟩
  rintro _ w7 ⟨b7, rfl, h7, k7⟩
  obtain rfl := h7 rfl
  have k17 : Chg none_ w1 w7 := k2.trans (k4.trans (k5.trans (k6.trans k7)))
  have B7 := k17.blk B1 (fun x => x)
  have k07 := k1.trans k17
  have rd1 : ∀ {w' : World}, Chg none_ w7 w' → reads w' (⟨w.heap.size, 0, none⟩ : Addr) [.int .i64 i1, .int .i64 i2, .int .i64 i3, .int .i64 i4, .int .i64 i5, .int .i64 i6, .int .i64 i7, .int .i64 i8, .int .i64 i9, .int .i64 i10, .int .i64 i11, .int .i64 i12, .int .i64 i13, .int .i64 i14, .int .i64 i15, .int .i64 i16, .slice q1 l1 c1] := fun k => Blk.part0 (k.blk B7 (fun x => x)) (post := [.slice q2 l2 c2, .slice q3 l3 c3]) rfl
  have rd2 : ∀ {w' : World}, Chg none_ w7 w' → reads w' ((⟨w.heap.size, 0, none⟩ : Addr).add 17) [.slice q2 l2 c2, .slice q3 l3 c3] := fun k => Blk.part (k.blk B7 (fun x => x)) (pre := [.int .i64 i1, .int .i64 i2, .int .i64 i3, .int .i64 i4, .int .i64 i5, .int .i64 i6, .int .i64 i7, .int .i64 i8, .int .i64 i9, .int .i64 i10, .int .i64 i11, .int .i64 i12, .int .i64 i13, .int .i64 i14, .int .i64 i15, .int .i64 i16, .slice q1 l1 c1]) (post := []) rfl rfl
  refine ⟨_, rfl, bcF rfl ⟨_, _, _, _, _, _, _, _, _, _, _, _, _, _, _, _, _, _, _, rd1 (Chg.refl _ _), _, _, _, _, _, _, rd2 (Chg.refl _ _), Calls.use (moves8 (hS.chg k07) (hT.chg k07) ht hl2) ?_⟩⟩
  intro v8 w8 h8
  obtain ⟨k8, q11, l11, c11, o8, e8, rfl, S8, hl8, ho8⟩ := h8.uni
  refine ⟨_, _, _, _, rfl, _, _, _, _, _, _, _, _, _, _, _, _, _, _, _, _, _, _, _, rd1 k8, _, _, _, _, _, _, rd2 k8, Calls.use (moves10 (hS.chg (k07.trans k8)) (hT.chg (k07.trans k8)) ht hl2) ?_⟩
  intro v9 w9 h9
  obtain ⟨k9, q15, l15, c15, o9, e9, rfl, S9, hl9, ho9⟩ := h9.uni
  obtain ⟨rfl, rfl⟩ := ho8.both ho9
  refine ⟨_, _, _, _, rfl, Calls.use (same14 (S8.chgN k9).re S9.re (by omega)) ?_⟩
  rintro _ w10 ⟨b10, rfl, h10, k10⟩
  obtain rfl := h10 rfl
  have k810 := k9.trans k10
  refine ⟨_, rfl, bcF rfl (bcF (by simp) ⟨fun x w' => ∃ n : Nat, x = (n : Int) ∧ n ≤ l11 ∧ Chg none_ w7 w' ∧ SE En.mv w' w8.heap.size 24 q15 l15 c15 o8 ∧ ∃ ys, SE En.mv w' w7.heap.size 24 q11 l11 c11 ys, fun x _ => l11 - x.toNat, ⟨0, rfl, by omega, k8.trans k810, S9.chgN k10, _, S8.chgN k810⟩, ?_⟩)⟩
  rintro _ w11 ⟨n, rfl, hn, k11, S11, ys, T11⟩
  refine bc (fun g => ?_) fun g => ?_
  · have g : n < l11 := by simp at g; omega
    obtain ⟨a', ha, hcan⟩ := T11.can g
    subst ha
    refine onPtr_mk ⟨by omega, by omega, ?_, fun w12 e12 => ?_⟩
    · have := hcan 0 8 (by decide)
      rwa [add_zero'] at this
    · obtain ⟨T12, k12⟩ := T11.set rfl (x' := ⟨IntKind.wrap .i64 ((-1) - n), e0, e0, 0, false, 0, 0, 0⟩) g e12
      rw [wrapN (by omega)]
      have hlt := S8.lt (g := a'.block) rfl
      exact ⟨⟨n + 1, rfl, by omega, k11.up k12 fun k hk => by simp [qB] at hk; omega, S11.chg k12 (fun g hg h => by simp [qB] at h; have := (S11.lt hg).2; omega), _, T12⟩, by simp only [Int.toNat_natCast]; omega⟩
  · refine ⟨_, _, _, _, _, _, _, _, _, _, _, _, _, _, _, _, _, _, _, rd1 k11, _, _, _, _, _, _, rd2 k11, Calls.use (moves8 (hS.chg (k07.trans k11)) (hT.chg (k07.trans k11)) ht hl2) ?_⟩
    intro v13 w13 h13
    obtain ⟨k13, q19, l19, c19, o13, e13, rfl, S13, hl13, ho13⟩ := h13.uni
    obtain ⟨rfl, rfl⟩ := ho13.both ho9
    refine ⟨_, _, _, _, rfl, Calls.use (same14 S13.re (S11.chgN k13).re (by omega)) ?_⟩
    rintro _ w14 ⟨b14, rfl, h14, k14⟩
    obtain rfl := h14 rfl
    exact ⟨_, rfl, bcT rfl ⟨by simp, ((k07.trans k11).trans k13).trans k14⟩⟩
end Go.Proofs.Ytjfafkgjcgbgfaa
