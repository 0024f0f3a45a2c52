/- HistMoves: for every input of bulk at most 1048576 the law's function returns true and leaves its arguments as they were. -/
import Derived.Test.YtjfafkgjcgbgfaaRow
import Derived.Test.YtjfafkgjcgbgfaaHiH
set_option maxRecDepth 20000
namespace Go.Proofs.Ytjfafkgjcgbgfaa
open Go Go.Vc Go.RowKit Go.ChangeShapes Go.WideShapes Go.ChangeAt

theorem histMovesContract (H : Type) (enc : TypeId × Value → H) (W : World) (base : Nat) (args : Array Value) (ds gs : List (DataW H)) (before : List MemPlace)
    (hval : ∀ (j : Nat) t v, Try.f4.params[j]? = some t → args[j]? = some v → Value.okWide Try.prog W .any base t v)
    (hW : DataW.Whole enc Try.prog Try.f4.params.toList Rows.histMovesSpec.vars false W args.toList ds gs before)
    (hcond : ∀ k, (Rows.OpenSpec.upto Rows.histMovesSpec).cond = some k → k H (ds ++ gs) = true)
    (hreach : (DataW.weightsEach Try.prog (Try.f4.params.toList ++ (Rows.OpenSpec.upto Rows.histMovesSpec).bare.plain.varTypes Try.prog) (ds ++ gs)).all (· ≤ reachBytes) = true)
    (hL : laidMetH Try.prog Rows.histMovesUptoRow.laid W) :
    Calls Try.prog 4 args W fun e W' => ∃ v, e = .returned v ∧ Rows.histMovesSpec.post enc Try.prog Try.f4 false true false false W args v W' := by
  have hW' := hW
  have _hL := hL
  have _hc := hcond
  obtain ⟨p, q, hA0, hV, rfl, hfz, hnd⟩ := hW
  have hA : DataW.TrodAll enc Try.prog W 0 (fun _ => true) true Try.f4.params.toList args.toList ds p := hA0
  rw [Try.params4] at hA hval hreach
  obtain ⟨v0, vs0, d0, ds0, p0, q0, e0, rfl, rfl, h0, r0⟩ := trodAll_cons hA
  obtain ⟨rfl, rfl, rfl⟩ := trodAll_nil r0
  obtain rfl : args = #[v0] := by cases args; simp_all
  obtain ⟨rfl, rfl⟩ := trodVars_none hV
  have g0 : Rdg enc Try.prog W 41 v0.cells.toList := Rdg.of h0 (weights_at (i := 0) hreach rfl rfl)
  clear hreach hA0 hA
  have hB : Rows.uptoBulkAll ([d0] ++ ([] : List (DataW H))) ≤ 1048576 := of_decide_eq_true (_hc _ rfl)
  have hB0 : Rows.uptoBulk d0 ≤ 1048576 := by simp only [List.append_nil, Rows.uptoBulkAll] at hB; omega
  have r0 := Rb.of h0 hB0
  have kk0 : flatK Try.prog 6 41 = some [.int .i64, .int .i64, .int .i64, .int .i64, .int .i64, .int .i64, .int .i64, .int .i64, .int .i64, .int .i64, .int .i64, .int .i64, .int .i64, .int .i64, .int .i64, .int .i64, .sl, .sl, .sl] := by kernel_rfl
  obtain ⟨i1, i2, i3, i4, i5, i6, i7, i8, i9, i10, i11, i12, i13, i14, i15, i16, q1, l1, c1, q2, l2, c2, q3, l3, c3, rfl⟩ := kinds_agg' Try.underlying41 (hval 0 41 v0 rfl rfl) h0 6 kk0
  have y1 : Try.prog.cellsOf 35 = 17 := by kernel_rfl
  have y2 : Try.prog.cellsOf 39 = 2 := by kernel_rfl
  have y3 : Try.prog.cellsOf 33 = 1 := by kernel_rfl
  have y4 : Try.prog.cellsOf 36 = 1 := by kernel_rfl
  have f1 : Rb enc Try.prog W 35 ((([.int .i64 i1, .int .i64 i2, .int .i64 i3, .int .i64 i4, .int .i64 i5, .int .i64 i6, .int .i64 i7, .int .i64 i8, .int .i64 i9, .int .i64 i10, .int .i64 i11, .int .i64 i12, .int .i64 i13, .int .i64 i14, .int .i64 i15, .int .i64 i16, .slice q1 l1 c1, .slice q2 l2 c2, .slice q3 l3 c3] : List Value).drop 0).take (Try.prog.cellsOf 35)) 1048576 := Rb.field (vs := [.int .i64 i1, .int .i64 i2, .int .i64 i3, .int .i64 i4, .int .i64 i5, .int .i64 i6, .int .i64 i7, .int .i64 i8, .int .i64 i9, .int .i64 i10, .int .i64 i11, .int .i64 i12, .int .i64 i13, .int .i64 i14, .int .i64 i15, .int .i64 i16, .slice q1 l1 c1, .slice q2 l2 c2, .slice q3 l3 c3]) r0 Try.underlying41 (i := 0) rfl
  have f2 : Rb enc Try.prog W 39 ((([.int .i64 i1, .int .i64 i2, .int .i64 i3, .int .i64 i4, .int .i64 i5, .int .i64 i6, .int .i64 i7, .int .i64 i8, .int .i64 i9, .int .i64 i10, .int .i64 i11, .int .i64 i12, .int .i64 i13, .int .i64 i14, .int .i64 i15, .int .i64 i16, .slice q1 l1 c1, .slice q2 l2 c2, .slice q3 l3 c3] : List Value).drop 17).take (Try.prog.cellsOf 39)) 1048576 := Rb.field (vs := [.int .i64 i1, .int .i64 i2, .int .i64 i3, .int .i64 i4, .int .i64 i5, .int .i64 i6, .int .i64 i7, .int .i64 i8, .int .i64 i9, .int .i64 i10, .int .i64 i11, .int .i64 i12, .int .i64 i13, .int .i64 i14, .int .i64 i15, .int .i64 i16, .slice q1 l1 c1, .slice q2 l2 c2, .slice q3 l3 c3]) r0 Try.underlying41 (i := 1) rfl
  rw [y1] at f1
  rw [y2] at f2
  have f3 := f1.field Try.underlying35 (i := 1) rfl
  have f4 := f2.field Try.underlying39 (i := 0) rfl
  obtain ⟨_, css, p1⟩ := lives_open (q := q1) (l := l1) (c := c1) (by simpa [y3] using f3)
  obtain ⟨u2, ts, p2, p3⟩ := told_open (q := q2) (l := l2) (c := c2) (by simpa [y4] using f4)
  refine Calls.mono (moves4 p1 p2 p3 u2) fun e W' he => ?_
  obtain ⟨v, rfl, rfl, hg⟩ := he
  exact ⟨_, rfl, post_true laid (by kernel_rfl) (tb := 4) (by kernel_rfl) Try.underlying4 rfl hW' ⟨rfl, rfl, rfl⟩ hg.below⟩
theorem histMovesMet (os : Os) : laidMet Try.prog Rows.histMovesUptoRow.laid ((World.holding Try.prog os ⟨#[], #[], []⟩).forCall (fun _ _ => 0) ⟨#[], #[.agg #[.int .i64 0, .int .i64 0, .int .i64 0, .int .i64 0, .int .i64 0, .int .i64 0, .int .i64 0, .int .i64 0, .int .i64 0, .int .i64 0, .int .i64 0, .int .i64 0, .int .i64 0, .int .i64 0, .int .i64 0, .int .i64 0, .slice none 0 0, .slice none 0 0, .slice none 0 0]], []⟩).memory := laidMet_of_run' 8 (by kernel_rfl) (by kernel_rfl)
theorem histMovesReads (os : Os) {H : Type} (enc : TypeId × Value → H) : ∃ places, DataW.whole enc Try.prog ((World.holding Try.prog os ⟨#[], #[], []⟩).forCall (fun _ _ => 0) ⟨#[], #[.agg #[.int .i64 0, .int .i64 0, .int .i64 0, .int .i64 0, .int .i64 0, .int .i64 0, .int .i64 0, .int .i64 0, .int .i64 0, .int .i64 0, .int .i64 0, .int .i64 0, .int .i64 0, .int .i64 0, .int .i64 0, .int .i64 0, .slice none 0 0, .slice none 0 0, .slice none 0 0]], []⟩).memory Try.f4.params.toList Rows.histMovesSpec.vars false (#[.agg #[.int .i64 0, .int .i64 0, .int .i64 0, .int .i64 0, .int .i64 0, .int .i64 0, .int .i64 0, .int .i64 0, .int .i64 0, .int .i64 0, .int .i64 0, .int .i64 0, .int .i64 0, .int .i64 0, .int .i64 0, .int .i64 0, .slice none 0 0, .slice none 0 0, .slice none 0 0]] : Array Value).toList 8 = some ([.agg [.agg [.agg [.agg [.lit (.int .i64 0), .lit (.int .i64 0), .lit (.int .i64 0), .lit (.int .i64 0)], .lit (.int .i64 0), .lit (.int .i64 0), .lit (.int .i64 0), .lit (.int .i64 0), .lit (.int .i64 0), .lit (.int .i64 0), .agg [.lit (.int .i64 0), .lit (.int .i64 0), .lit (.int .i64 0), .lit (.int .i64 0), .lit (.int .i64 0), .lit (.int .i64 0)]], .nil], .agg [.nil, .nil]]], [], places) :=
  ⟨[], by kernel_rfl⟩
set_option maxRecDepth 100000 in
theorem histMovesLifted (os : Os) (started : os.Started) (H : Type) (enc : TypeId × Value → H) (F : Stop.Interp) :
    ReturnsInHanded {} Try.checked os 4 .any ((Rows.OpenSpec.upto Rows.histMovesSpec).preRow enc Try.prog Try.f4 Rows.histMovesUptoRow.domain false Rows.histMovesUptoRow.laid) (((Rows.OpenSpec.upto Rows.histMovesSpec).at F).post enc Try.prog Try.f4 false true false false) := by
  obtain ⟨places, hx⟩ := histMovesReads os enc
  refine returnsInHanded_of_row (C := Try.checked) (s := (Rows.OpenSpec.upto Rows.histMovesSpec)) own started (by kernel_rfl) Try.func4
    (witness_row_at (enc := enc) (C := Try.checked) false (World.holding Try.prog os ⟨#[], #[], []⟩) #[.agg #[.int .i64 0, .int .i64 0, .int .i64 0, .int .i64 0, .int .i64 0, .int .i64 0, .int .i64 0, .int .i64 0, .int .i64 0, .int .i64 0, .int .i64 0, .int .i64 0, .int .i64 0, .int .i64 0, .int .i64 0, .int .i64 0, .slice none 0 0, .slice none 0 0, .slice none 0 0]] rfl (by kernel_rfl) (by kernel_rfl) (by kernel_rfl)
      (OpenSpec.preRow_of_cond 8 hx (by kernel_rfl) (fun k hk => by cases hk; kernel_rfl) (by kernel_rfl) (histMovesMet os))) ?_
  intro W base args ds gs before hval hW _ hcond hreach hL _ _
  exact histMovesContract H enc W base args ds gs before hval hW hcond hreach hL
theorem histMovesUpto_holds : Rows.HistMovesUptoSaid :=
  OpenClaim.holds_of_cond 4 Try.f4 rfl rfl rfl rfl rfl rfl rfl ⟨rfl, rfl, rfl, rfl, rfl⟩ rfl rfl rfl rfl rfl (by kernel_rfl) Try.func4 (by kernel_rfl)
    (of_decide_eq_true (by kernel_rfl)) (by unfold Func.isWrapper; first | (rw [if_pos (by decide +kernel)]; kernel_rfl) | (rw [if_neg (by decide +kernel)]; exact ⟨rfl, rfl⟩))
    (fun os started H enc _ F => by rw [OpenClaim.pre_eq_preRow]; exact histMovesLifted os started H enc F)
end Go.Proofs.Ytjfafkgjcgbgfaa
