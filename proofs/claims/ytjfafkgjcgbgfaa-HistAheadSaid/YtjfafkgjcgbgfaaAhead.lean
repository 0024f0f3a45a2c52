import Derived.Test.YtjfafkgjcgbgfaaRows
import Derived.Test.YtjfafkgjcgbgfaaChecked
import Derived.Test.YtjfafkgjcgbgfaaW
import Derived.Test.YtjfafkgjcgbgfaaFr
set_option maxRecDepth 20000
namespace Go.Proofs.Ytjfafkgjcgbgfaa
open Go Go.Vc Go.RowKit Go.ChangeShapes Go.WideShapes Go.ChangeAt
def ahead (la ta lb fb : Int) : Bool := decide (la < lb) || (la == lb && (decide (ta ≥ 0) && decide (ta < fb)))
abbrev mvl (k : Int) (s t : ByteArray) (e : Int) (h : Bool) (l f u : Int) : List Value := [.int .i64 k, .string s, .string t, .int .i64 e, .bool h, .int .i64 l, .int .i64 f, .int .i64 u]
abbrev mv (k : Int) (s t : ByteArray) (e : Int) (h : Bool) (l f u : Int) : Value := .agg #[.int .i64 k, .string s, .string t, .int .i64 e, .bool h, .int .i64 l, .int .i64 f, .int .i64 u]
theorem ahead5 (k : Int) (s t : ByteArray) (e : Int) (h : Bool) (l f u k' : Int) (s' t' : ByteArray) (e' : Int) (h' : Bool) (l' f' u' : Int) (w : World) :
    Calls Try.prog 5 #[mv k s t e h l f u, mv k' s' t' e' h' l' f' u'] w (Ret fun v w' => v = .bool (ahead l u l' f') ∧ Chg none_ w w') := by
  refine f5.calls _ _ _ _ _ _ _ _ _ _ _ _ _ _ _ _ ?_
  unfold f5.wp
  intro w1 h1 w2 h2
  have a := (new_blk h1).new' h2
  have b := new_blk h2
  have c := ((Chg.refl none_ w).new' h1).new' h2
  clear h1 h2
  simp only [a.cell0, b.cell0, List.getElem?_toArray, List.getElem?_cons_succ, List.getElem?_cons_zero, Option.some.injEq, Value.int.injEq, true_and, exists_eq_left']
  simp only [bcase_iff, ahead]
  refine ⟨fun h => ?_, fun h => ⟨fun h1 => ⟨fun h2 => ?_, fun h2 => ?_⟩, fun h1 => ?_⟩⟩ <;> refine ⟨?_, c⟩ <;> simp_all <;> omega
theorem ahead6 (k : Int) (s t : ByteArray) (e : Int) (h : Bool) (l f u k' : Int) (s' t' : ByteArray) (e' : Int) (h' : Bool) (l' f' u' : Int) (w : World) :
    Calls Try.prog 6 #[mv k s t e h l f u, mv k' s' t' e' h' l' f' u'] w (Ret fun v w' => v = .bool (ahead l u l' f') ∧ Chg none_ w w') := by
  refine f6.calls _ _ _ _ _ _ _ _ _ _ _ _ _ _ _ _ ?_
  unfold f6.wp
  intro w1 h1 w2 h2
  have a := (new_blk h1).new' h2
  have b := new_blk h2
  have c := ((Chg.refl none_ w).new' h1).new' h2
  clear h1 h2
  simp only [a.cell0, b.cell0, List.getElem?_toArray, List.getElem?_cons_succ, List.getElem?_cons_zero, Option.some.injEq, Value.int.injEq, true_and, exists_eq_left']
  simp only [bcase_iff, ahead]
  refine ⟨fun h => ?_, fun h => ⟨fun h1 => ?_, fun h1 => ?_⟩⟩ <;> refine ⟨?_, c⟩ <;> simp_all <;> omega
structure I3 (A B C : Nat) (a b c : List Value) (w0 w : World) : Prop where
  a : Blk w A 24 a.toArray
  b : Blk w B 24 b.toArray
  c : Blk w C 24 c.toArray
  g : Chg none_ w0 w
theorem I3.of {A B C : Nat} {a b c : List Value} {w0 w w' : World} (h : I3 A B C a b c w0 w) (k : Chg none_ w w') : I3 A B C a b c w0 w' :=
  ⟨k.blk h.a id, k.blk h.b id, k.blk h.c id, h.g.trans k⟩
theorem I3.dr {A B C : Nat} {a b c : List Value} {w0 w : World} (h : I3 A B C a b c w0 w) : I3 A B C a b c w0 w.drew := ⟨h.a, h.b, h.c, h.g.drew⟩
theorem ahead3 (k : Int) (s t : ByteArray) (e : Int) (h : Bool) (l f u k' : Int) (s' t' : ByteArray) (e' : Int) (h' : Bool) (l' f' u' k'' : Int) (s'' t'' : ByteArray) (e'' : Int) (h'' : Bool) (l'' f'' u'' : Int) (w : World) :
    Calls Try.prog 3 #[mv k s t e h l f u, mv k' s' t' e' h' l' f' u', mv k'' s'' t'' e'' h'' l'' f'' u''] w (Ret fun v w' => v = .bool true ∧ Chg none_ w w') := by
  refine f3.calls _ _ _ _ _ _ _ _ _ _ _ _ _ _ _ _ _ _ _ _ _ _ _ _ ?_
  unfold f3.wp
  intro w1 h1 w2 h2 w3 h3 w4 h4 w5 h5
  have x := (new_blk h4).new' h5
  have y := new_blk h5
  have i : I3 w.heap.size w1.heap.size w2.heap.size (mvl k s t e h l f u) (mvl k' s' t' e' h' l' f' u') (mvl k'' s'' t'' e'' h'' l'' f'' u'') w w5 :=
    ⟨((((new_blk h1).new' h2).new' h3).new' h4).new' h5, (((new_blk h2).new' h3).new' h4).new' h5, ((new_blk h3).new' h4).new' h5, (((((Chg.refl none_ w).new' h1).new' h2).new' h3).new' h4).new' h5⟩
  have s1 := new_size h1; have s2 := new_size h2; have s3 := new_size h3; have s4 := new_size h4
  have g5 := Chg.refl none_ w5
  generalize hA : w.heap.size = A at *
  generalize hB : w1.heap.size = B at *
  generalize hC : w2.heap.size = C at *
  generalize w3.heap.size = X at *
  generalize w4.heap.size = Y at *
  clear h1 h2 h3 h4 h5
  refine ⟨x.canStore (by decide), fun w6 h6 => ?_⟩
  have x6 := x.over h6 rfl
  have y6 := y.far' h6 (show Y ≠ X by omega)
  have i6 : I3 A B C _ _ _ w w6 := ⟨i.a.far' h6 (show A ≠ X by omega), i.b.far' h6 (show B ≠ X by omega), i.c.far' h6 (show C ≠ X by omega), i.g.sets' h6 (.inr (show w.heap.size ≤ X by omega))⟩
  clear i x y h6
  refine ⟨y6.canStore (by decide), fun w7 h7 => ?_⟩
  have x7 := x6.far' h7 (show X ≠ Y by omega)
  have y7 := y6.over h7 rfl
  have i7 : I3 A B C _ _ _ w w7 := ⟨i6.a.far' h7 (show A ≠ Y by omega), i6.b.far' h7 (show B ≠ Y by omega), i6.c.far' h7 (show C ≠ Y by omega), i6.g.sets' h7 (.inr (show w.heap.size ≤ Y by omega))⟩
  clear i6 x6 y6 h7
  refine ⟨_, _, _, _, _, _, _, _, x7.reads0, _, _, _, _, _, _, _, _, y7.reads0, ?_⟩
  refine Calls.use (ahead5 _ _ _ _ _ _ _ _ _ _ _ _ _ _ _ _ _) ?_
  rintro v w8 ⟨rfl, c⟩
  refine ⟨_, rfl, ?_⟩
  replace x7 := c.blk x7 id; replace y7 := c.blk y7 id; replace i7 := i7.of c; clear c
  simp only [show ahead 0 3 0 4 = true by decide, Bool.not_true, bcase_false]
  refine ⟨_, _, _, _, _, _, _, _, y7.reads0, _, _, _, _, _, _, _, _, x7.reads0, ?_⟩
  refine Calls.use (ahead5 _ _ _ _ _ _ _ _ _ _ _ _ _ _ _ _ _) ?_
  rintro v w9 ⟨rfl, c⟩
  refine ⟨_, rfl, ?_⟩
  replace i7 := i7.of c; clear c x7 y7
  simp only [show ahead 0 9 0 0 = false by decide, bcase_false]
  replace i7 := i7.dr
  generalize w9.drew = w9 at *
  refine ⟨fun p => p.block < w9.heap.size, ?_⟩
  have K : ∀ {b : Nat} {cs : List Value}, Blk w9 b 24 cs.toArray → ∀ j : Nat, j < 8 → (fun p : Addr => p.block < w9.heap.size) ((⟨b, 0, none⟩ : Addr).add j) := fun hb => hb.keepsAll rfl 0 8
  have i9 := i7
  refine ⟨_, _, _, _, _, _, _, _, K i9.a, i9.a.reads0, _, _, _, _, _, _, _, _, K i9.b, i9.b.reads0, _, _, _, _, _, _, _, _, K i9.a, i9.a.reads0, _, _, _, _, _, _, _, _, K i9.b, i9.b.reads0, ?_⟩
  refine Calls.use (ahead5 _ _ _ _ _ _ _ _ _ _ _ _ _ _ _ _ _) ?_
  rintro v w10 ⟨rfl, c⟩
  have c9 := c
  refine ⟨_, rfl, c9.keeps, ?_⟩
  replace i7 := i7.of c; clear c
  refine Calls.use (ahead6 _ _ _ _ _ _ _ _ _ _ _ _ _ _ _ _ _) ?_
  rintro v w11 ⟨rfl, c⟩
  replace c9 := c9.trans c
  refine ⟨_, rfl, c9.keeps, ?_⟩
  replace i7 := i7.of c; clear c
  simp only [beq_self_eq_true, Bool.not_true, bcase_false]
  refine ⟨_, _, _, _, _, _, _, _, K i9.b, i9.b.reads0, _, _, _, _, _, _, _, _, K i9.c, i9.c.reads0, _, _, _, _, _, _, _, _, K i9.b, i9.b.reads0, _, _, _, _, _, _, _, _, K i9.c, i9.c.reads0, ?_⟩
  refine Calls.use (ahead5 _ _ _ _ _ _ _ _ _ _ _ _ _ _ _ _ _) ?_
  rintro v w12 ⟨rfl, c⟩
  replace c9 := c9.trans c
  refine ⟨_, rfl, c9.keeps, ?_⟩
  replace i7 := i7.of c; clear c
  refine Calls.use (ahead6 _ _ _ _ _ _ _ _ _ _ _ _ _ _ _ _ _) ?_
  rintro v w13 ⟨rfl, c⟩
  replace c9 := c9.trans c
  refine ⟨_, rfl, c9.keeps, ?_⟩
  replace i7 := i7.of c; clear c
  simp only [beq_self_eq_true, Bool.not_true, bcase_false]
  refine ⟨_, _, _, _, _, _, _, _, K i9.a, i9.a.reads0, _, _, _, _, _, _, _, _, K i9.c, i9.c.reads0, _, _, _, _, _, _, _, _, K i9.a, i9.a.reads0, _, _, _, _, _, _, _, _, K i9.c, i9.c.reads0, ?_⟩
  refine Calls.use (ahead5 _ _ _ _ _ _ _ _ _ _ _ _ _ _ _ _ _) ?_
  rintro v w14 ⟨rfl, c⟩
  replace c9 := c9.trans c
  refine ⟨_, rfl, c9.keeps, ?_⟩
  replace i7 := i7.of c; clear c
  refine Calls.use (ahead6 _ _ _ _ _ _ _ _ _ _ _ _ _ _ _ _ _) ?_
  rintro v w15 ⟨rfl, c⟩
  refine ⟨_, rfl, ?_⟩
  replace i7 := i7.of c; clear c c9 i9 K
  simp only [beq_self_eq_true, Bool.not_true, bcase_false]
  refine ⟨fun w16 => I3 A B C (mvl k s t e h l f u) (mvl k' s' t' e' h' l' f' u') (mvl k'' s'' t'' e'' h'' l'' f'' u'') w w16 ∧ ¬ (u ≥ 0 ∧ u < f) ∧ ¬ (u' ≥ 0 ∧ u' < f') ∧ ¬ (u'' ≥ 0 ∧ u'' < f''), ?_, ?_⟩
  · clear i7
    rintro w16 ⟨i, n1, n2, n3⟩
    refine ⟨_, _, _, _, _, _, _, _, i.a.reads0, _, _, _, _, _, _, _, _, i.a.reads0, ?_⟩
    refine Calls.use (ahead5 _ _ _ _ _ _ _ _ _ _ _ _ _ _ _ _ _) ?_
    rintro v w17 ⟨rfl, c⟩
    refine ⟨_, rfl, ?_⟩
    replace i := i.of c; clear c
    have e1 : ahead l u l f = false := by simp [ahead]; omega
    rw [e1]; simp only [Bool.not_false, bcase_true]
    refine ⟨_, _, _, _, _, _, _, _, i.a.reads0, _, _, _, _, _, _, _, _, i.b.reads0, ?_⟩
    refine Calls.use (ahead5 _ _ _ _ _ _ _ _ _ _ _ _ _ _ _ _ _) ?_
    rintro v w18 ⟨rfl, c⟩
    refine ⟨_, rfl, ?_⟩
    replace i := i.of c; clear c
    rw [bcase_iff]
    refine ⟨fun _ => ⟨trivial, i.g⟩, fun a1 => ?_⟩
    refine ⟨_, _, _, _, _, _, _, _, i.b.reads0, _, _, _, _, _, _, _, _, i.c.reads0, ?_⟩
    refine Calls.use (ahead5 _ _ _ _ _ _ _ _ _ _ _ _ _ _ _ _ _) ?_
    rintro v w19 ⟨rfl, c⟩
    refine ⟨_, rfl, ?_⟩
    replace i := i.of c; clear c
    rw [bcase_iff]
    refine ⟨fun _ => ⟨trivial, i.g⟩, fun a2 => ?_⟩
    refine ⟨_, _, _, _, _, _, _, _, i.a.reads0, _, _, _, _, _, _, _, _, i.c.reads0, ?_⟩
    refine Calls.use (ahead5 _ _ _ _ _ _ _ _ _ _ _ _ _ _ _ _ _) ?_
    rintro v w20 ⟨rfl, c⟩
    refine ⟨_, rfl, ?_, i.g.trans c⟩
    simp [ahead] at a1 a2 ⊢
    omega
  · simp only [i7.a.cell0, i7.b.cell0, i7.c.cell0, List.getElem?_toArray, List.getElem?_cons_succ, List.getElem?_cons_zero, Option.some.injEq, Value.int.injEq, true_and, exists_eq_left']
    simp only [bcase_iff, decide_eq_true_eq, decide_eq_false_iff_not]
    have g := i7.g
    repeat' (first | exact g | exact ⟨rfl, g⟩ | exact ⟨trivial, g⟩ | (refine ⟨i7, ?_⟩; omega) | (refine ⟨fun _ => ?_, fun _ => ?_⟩))


theorem own : ownKnob Try.prog.godebug = none := by kernel_rfl
theorem laid : laidOutB Try.prog = true := by kernel_rfl
theorem aheadContract (H : Type) (enc : TypeId × Value → H) (W : World) (base : Nat) (args : Array Value) (ds gs : List (DataW H)) (before : List MemPlace)
    (hval : ∀ (j : Nat) t v, Try.f3.params[j]? = some t → args[j]? = some v → Value.okWide Try.prog W .any base t v)
    (hW : DataW.Whole enc Try.prog Try.f3.params.toList Rows.histAheadSpec.vars false W args.toList ds gs before) :
    Calls Try.prog 3 args W fun e W' => ∃ v, e = .returned v ∧ Rows.histAheadSpec.post enc Try.prog Try.f3 false true false false W args v W' := by
  have hW' := hW
  obtain ⟨p, q, hA0, hV, rfl, hfz, hnd⟩ := hW
  have hA : DataW.TrodAll enc Try.prog W 0 (fun _ => true) true Try.f3.params.toList args.toList ds p := hA0
  rw [Try.params3] at hA hval
  obtain ⟨v0, vs0, d0, ds0, p0, q0, e0, rfl, rfl, h0, r0⟩ := trodAll_cons hA
  obtain ⟨v1, vs1, d1, ds1, p1, q1, rfl, rfl, rfl, h1, r1⟩ := trodAll_cons r0
  obtain ⟨v2, vs2, d2, ds2, p2, q2, rfl, rfl, rfl, h2, r2⟩ := trodAll_cons r1
  obtain ⟨rfl, rfl, rfl⟩ := trodAll_nil r2
  obtain rfl : args = #[v0, v1, v2] := by cases args; simp_all
  obtain ⟨rfl, rfl⟩ := trodVars_none hV
  have hk : flatK Try.prog 4 24 = some [.int .i64, .str, .str, .int .i64, .bool, .int .i64, .int .i64, .int .i64] := by kernel_rfl
  have open_ : ∀ {v : Value} {d : DataW H} {p : List MemPlace}, Value.okWide Try.prog W .any base 24 v → DataW.Trod enc Try.prog W 0 (fun _ => true) true 24 v d p → ∃ k s t e h l f u, v = mv k s t e h l f u := fun ho ht => by
    exact kinds_agg' Try.underlying24 ho ht 4 hk
  obtain ⟨k, s, t, e, h, l, f, u, rfl⟩ := open_ (hval 0 24 v0 rfl rfl) h0
  obtain ⟨k', s', t', e', h', l', f', u', rfl⟩ := open_ (hval 1 24 v1 rfl rfl) h1
  obtain ⟨k'', s'', t'', e'', h'', l'', f'', u'', rfl⟩ := open_ (hval 2 24 v2 rfl rfl) h2
  refine Calls.mono (ahead3 _ _ _ _ _ _ _ _ _ _ _ _ _ _ _ _ _ _ _ _ _ _ _ _ _) fun e W' he => ?_
  obtain ⟨v, rfl, rfl, hg⟩ := he
  exact ⟨_, rfl, post_true laid (by kernel_rfl) (tb := 4) (by kernel_rfl) Try.underlying4 rfl hW' ⟨rfl, rfl, rfl⟩ hg.below⟩

set_option maxRecDepth 100000 in
theorem aheadLifted (os : Os) (started : os.Started) (H : Type) (enc : TypeId × Value → H) :
    ReturnsInHanded {} Try.checked os 3 .any (Rows.histAheadSpec.pre6 enc Try.prog Try.f3 Rows.histAheadRow.domain false) (Rows.histAheadSpec.post enc Try.prog Try.f3 false true false false) := by
  refine returnsInHanded_of_change (C := Try.checked) own started (by kernel_rfl) Try.func3
    (ChangeSpec.witness6 (enc := enc) (C := Try.checked) false ⟨#[], #[mv 0 ⟨#[]⟩ ⟨#[]⟩ 0 false 0 0 0, mv 0 ⟨#[]⟩ ⟨#[]⟩ 0 false 0 0 0, mv 0 ⟨#[]⟩ ⟨#[]⟩ 0 false 0 0 0], []⟩ 8 (by kernel_rfl) (by kernel_rfl) (by kernel_rfl) (by kernel_rfl)) ?_
  intro W base args ds gs before hval hW _ _
  exact aheadContract H enc W base args ds gs before hval hW

theorem histAhead_holds : Rows.HistAheadSaid :=
  OpenClaim.holds_of_wide 3 Try.f3 rfl rfl rfl rfl rfl rfl rfl ⟨rfl, rfl, rfl, rfl, rfl⟩ rfl rfl rfl rfl rfl (by kernel_rfl) Try.func3 (by kernel_rfl)
    (of_decide_eq_true (by kernel_rfl)) (by unfold Func.isWrapper; first | (rw [if_pos (by decide +kernel)]; kernel_rfl) | (rw [if_neg (by decide +kernel)]; exact ⟨rfl, rfl⟩))
    (fun os started H enc _ => aheadLifted os started H enc)
end Go.Proofs.Ytjfafkgjcgbgfaa
