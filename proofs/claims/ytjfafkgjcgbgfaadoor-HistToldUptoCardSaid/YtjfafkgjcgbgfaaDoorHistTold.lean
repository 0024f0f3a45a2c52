/- HistTold: for every input of bulk at most 1048576 the law's function returns true and leaves its arguments as they were; the tables of the library as the program's text lays them. -/
import Derived.Test.YtjfafkgjcgbgfaaDoorRowB
import Derived.Test.YtjfafkgjcgbgfaaDoorRow
import Derived.Test.YtjfafkgjcgbgfaaDoorHjR
import Derived.SevenTiedAt
import Derived.LaidMore
import Derived.Lay
set_option maxRecDepth 20000
namespace Go.Proofs.YtjfafkgjcgbgfaaDoor
open Go Go.Vc Go.RowKit Go.ChangeShapes Go.WideShapes Go.ChangeAt

theorem histToldContract (H : Type) (enc : TypeId × Value → H) (W : World) (base : Nat) (args : Array Value) (ds gs : List (DataW H)) (before : List MemPlace)
    (hval : ∀ (j : Nat) t v, Tryd.f7.params[j]? = some t → args[j]? = some v → Value.okWide Tryd.prog W .any base t v)
    (hW : DataW.Whole enc Tryd.prog Tryd.f7.params.toList Rows.histToldSpec.vars false W args.toList ds gs before)
    (hcond : ∀ k, (Rows.OpenSpec.upto Rows.histToldSpec).cond = some k → k H (ds ++ gs) = true)
    (hreach : (DataW.weightsEach Tryd.prog (Tryd.f7.params.toList ++ (Rows.OpenSpec.upto Rows.histToldSpec).bare.plain.varTypes Tryd.prog) (ds ++ gs)).all (· ≤ reachBytes) = true)
    (hL : laidMetH Tryd.prog Rows.histToldUptoRow.laid W) (hS : W.ShapedOpen Tryd.prog) :
    Calls Tryd.prog 7 args W fun e W' => ∃ v, e = .returned v ∧ Rows.histToldSpec.post enc Tryd.prog Tryd.f7 false true false false W args v W' := by
  have hW' := hW
  have _hL := hL
  have _hc := hcond
  obtain ⟨p, q, hA0, hV, rfl, hfz, hnd⟩ := hW
  have hA : DataW.TrodAll enc Tryd.prog W 0 (fun _ => true) true Tryd.f7.params.toList args.toList ds p := hA0
  rw [Tryd.params7] at hA hval hreach
  obtain ⟨v0, vs0, d0, ds0, p0, q0, e0, rfl, rfl, h0, r0⟩ := trodAll_cons hA
  obtain ⟨rfl, rfl, rfl⟩ := trodAll_nil r0
  obtain rfl : args = #[v0] := by cases args; simp_all
  obtain ⟨rfl, rfl⟩ := trodVars_none hV
  have g0 : Rdg enc Tryd.prog W 49 v0.cells.toList := Rdg.of h0 (weights_at (i := 0) hreach rfl rfl)
  clear hreach hA0 hA
  have hB : Rows.uptoBulkAll ([d0] ++ ([] : List (DataW H))) ≤ 1048576 := of_decide_eq_true (_hc _ rfl)
  have hB0 : Rows.uptoBulk d0 ≤ 1048576 := by simp only [List.append_nil, Rows.uptoBulkAll] at hB; omega
  have r0 := Rb.of h0 hB0
  have kk0 : flatK Tryd.prog 6 49 = some [.int .i64, .int .i64, .int .i64, .int .i64, .int .i64, .int .i64, .int .i64, .int .i64, .int .i64, .int .i64, .int .i64, .int .i64, .int .i64, .int .i64, .int .i64, .int .i64, .sl, .sl, .sl] := by kernel_rfl
  obtain ⟨i1, i2, i3, i4, i5, i6, i7, i8, i9, i10, i11, i12, i13, i14, i15, i16, q1, l1, c1, q2, l2, c2, q3, l3, c3, rfl⟩ := kinds_agg' Tryd.underlying49 (hval 0 49 v0 rfl rfl) h0 6 kk0
  have y1 : Tryd.prog.cellsOf 43 = 17 := by kernel_rfl
  have y2 : Tryd.prog.cellsOf 47 = 2 := by kernel_rfl
  have y3 : Tryd.prog.cellsOf 41 = 1 := by kernel_rfl
  have y4 : Tryd.prog.cellsOf 44 = 1 := by kernel_rfl
  have f1 : Rb enc Tryd.prog W 43 ((([.int .i64 i1, .int .i64 i2, .int .i64 i3, .int .i64 i4, .int .i64 i5, .int .i64 i6, .int .i64 i7, .int .i64 i8, .int .i64 i9, .int .i64 i10, .int .i64 i11, .int .i64 i12, .int .i64 i13, .int .i64 i14, .int .i64 i15, .int .i64 i16, .slice q1 l1 c1, .slice q2 l2 c2, .slice q3 l3 c3] : List Value).drop 0).take (Tryd.prog.cellsOf 43)) 1048576 := Rb.field (vs := [.int .i64 i1, .int .i64 i2, .int .i64 i3, .int .i64 i4, .int .i64 i5, .int .i64 i6, .int .i64 i7, .int .i64 i8, .int .i64 i9, .int .i64 i10, .int .i64 i11, .int .i64 i12, .int .i64 i13, .int .i64 i14, .int .i64 i15, .int .i64 i16, .slice q1 l1 c1, .slice q2 l2 c2, .slice q3 l3 c3]) r0 Tryd.underlying49 (i := 0) rfl
  have f2 : Rb enc Tryd.prog W 47 ((([.int .i64 i1, .int .i64 i2, .int .i64 i3, .int .i64 i4, .int .i64 i5, .int .i64 i6, .int .i64 i7, .int .i64 i8, .int .i64 i9, .int .i64 i10, .int .i64 i11, .int .i64 i12, .int .i64 i13, .int .i64 i14, .int .i64 i15, .int .i64 i16, .slice q1 l1 c1, .slice q2 l2 c2, .slice q3 l3 c3] : List Value).drop 17).take (Tryd.prog.cellsOf 47)) 1048576 := Rb.field (vs := [.int .i64 i1, .int .i64 i2, .int .i64 i3, .int .i64 i4, .int .i64 i5, .int .i64 i6, .int .i64 i7, .int .i64 i8, .int .i64 i9, .int .i64 i10, .int .i64 i11, .int .i64 i12, .int .i64 i13, .int .i64 i14, .int .i64 i15, .int .i64 i16, .slice q1 l1 c1, .slice q2 l2 c2, .slice q3 l3 c3]) r0 Tryd.underlying49 (i := 1) rfl
  rw [y1] at f1
  rw [y2] at f2
  have f3 := f1.field Tryd.underlying43 (i := 1) rfl
  have f4 := f2.field Tryd.underlying47 (i := 0) rfl
  obtain ⟨_, css, p1⟩ := lives_open (q := q1) (l := l1) (c := c1) (by simpa [y3] using f3)
  obtain ⟨u2, ts, p2, p3⟩ := told_open (q := q2) (l := l2) (c := c2) (by simpa [y4] using f4)
  refine Calls.mono (told7 hS p1 p2 p3 u2) fun e W' he => ?_
  obtain ⟨v, rfl, rfl, hg⟩ := he
  exact ⟨_, rfl, post_true laid (by kernel_rfl) (tb := 4) (by kernel_rfl) Tryd.underlying4 rfl hW' ⟨rfl, rfl, rfl⟩ hg.below⟩
theorem histToldMet (os : Os) : laidMet Tryd.prog Rows.histToldUptoRow.laid ((World.laidAll Tryd.prog os Rows.histToldUptoRow.laid).forCall (fun _ _ => 0) ⟨#[], #[.agg #[.int .i64 0, .int .i64 0, .int .i64 0, .int .i64 0, .int .i64 0, .int .i64 0, .int .i64 0, .int .i64 0, .int .i64 0, .int .i64 0, .int .i64 0, .int .i64 0, .int .i64 0, .int .i64 0, .int .i64 0, .int .i64 0, .slice none 0 0, .slice none 0 0, .slice none 0 0]], []⟩).memory := laidMet_laidAll _ (by kernel_rfl) (by kernel_rfl)
theorem histToldReads (os : Os) {H : Type} (enc : TypeId × Value → H) : ∃ places, DataW.whole enc Tryd.prog ((World.laidAll Tryd.prog os Rows.histToldUptoRow.laid).forCall (fun _ _ => 0) ⟨#[], #[.agg #[.int .i64 0, .int .i64 0, .int .i64 0, .int .i64 0, .int .i64 0, .int .i64 0, .int .i64 0, .int .i64 0, .int .i64 0, .int .i64 0, .int .i64 0, .int .i64 0, .int .i64 0, .int .i64 0, .int .i64 0, .int .i64 0, .slice none 0 0, .slice none 0 0, .slice none 0 0]], []⟩).memory Tryd.f7.params.toList Rows.histToldSpec.vars false (#[.agg #[.int .i64 0, .int .i64 0, .int .i64 0, .int .i64 0, .int .i64 0, .int .i64 0, .int .i64 0, .int .i64 0, .int .i64 0, .int .i64 0, .int .i64 0, .int .i64 0, .int .i64 0, .int .i64 0, .int .i64 0, .int .i64 0, .slice none 0 0, .slice none 0 0, .slice none 0 0]] : Array Value).toList 8 = some ([.agg [.agg [.agg [.agg [.lit (.int .i64 0), .lit (.int .i64 0), .lit (.int .i64 0), .lit (.int .i64 0)], .lit (.int .i64 0), .lit (.int .i64 0), .lit (.int .i64 0), .lit (.int .i64 0), .lit (.int .i64 0), .lit (.int .i64 0), .agg [.lit (.int .i64 0), .lit (.int .i64 0), .lit (.int .i64 0), .lit (.int .i64 0), .lit (.int .i64 0), .lit (.int .i64 0)]], .nil], .agg [.nil, .nil]]], [], places) :=
  ⟨[], by kernel_rfl⟩
set_option maxRecDepth 100000 in
theorem histToldLifted (os : Os) (started : os.Started) (H : Type) (enc : TypeId × Value → H) (F : Stop.Interp) :
    ReturnsInHanded {} Tryd.checked os 7 .any ((Rows.OpenSpec.upto Rows.histToldSpec).preRow enc Tryd.prog Tryd.f7 Rows.histToldUptoRow.domain false Rows.histToldUptoRow.laid) (((Rows.OpenSpec.upto Rows.histToldSpec).at F).post enc Tryd.prog Tryd.f7 false true false false) := by
  obtain ⟨places, hx⟩ := histToldReads os enc
  refine returnsInHanded_of_row (C := Tryd.checked) (s := (Rows.OpenSpec.upto Rows.histToldSpec)) own started (by kernel_rfl) Tryd.func7
    (witness_row_at (enc := enc) (C := Tryd.checked) false (World.laidAll Tryd.prog os Rows.histToldUptoRow.laid) #[.agg #[.int .i64 0, .int .i64 0, .int .i64 0, .int .i64 0, .int .i64 0, .int .i64 0, .int .i64 0, .int .i64 0, .int .i64 0, .int .i64 0, .int .i64 0, .int .i64 0, .int .i64 0, .int .i64 0, .int .i64 0, .int .i64 0, .slice none 0 0, .slice none 0 0, .slice none 0 0]] rfl (by kernel_rfl) (by kernel_rfl) (by kernel_rfl)
      (OpenSpec.preRow_of_cond 8 hx (by kernel_rfl) (fun k hk => by cases hk; kernel_rfl) (by kernel_rfl) (histToldMet os))) ?_
  intro W base args ds gs before hval hW _ hcond hreach hL hS _
  exact histToldContract H enc W base args ds gs before hval hW hcond hreach hL hS
theorem histToldUpto_holds : Rows.HistToldUptoSaid :=
  OpenClaim.holds_of_cond 7 Tryd.f7 rfl rfl rfl rfl rfl rfl rfl ⟨rfl, rfl, rfl, rfl, rfl⟩ rfl rfl rfl rfl rfl (by kernel_rfl) Tryd.func7 (by kernel_rfl)
    (of_decide_eq_true (by kernel_rfl)) (by unfold Func.isWrapper; first | (rw [if_pos (by decide +kernel)]; kernel_rfl) | (rw [if_neg (by decide +kernel)]; exact ⟨rfl, rfl⟩))
    (fun os started H enc _ F => by rw [OpenClaim.pre_eq_preRow]; exact histToldLifted os started H enc F)
theorem histToldPlain (f : FuncId) (fn : Func) (hf : Tryd.pinned.checked.prog.funcNamed "cellar/cellarlaw24.HistTold" = some f) (hfn : Tryd.pinned.checked.prog.funcs[f]? = some fn) :
    true = Tryd.pinned.checked.prog.looks [] ∧ ∀ (j : Nat) t, fn.params[j]? = some t → Tryd.pinned.checked.prog.wantsStandIn t = false := by
  obtain rfl : f = 7 := Option.some.inj ((show Tryd.prog.funcNamed "cellar/cellarlaw24.HistTold" = some 7 by kernel_rfl).symm.trans hf) |>.symm
  obtain rfl : fn = Tryd.f7 := (Option.some.inj (Tryd.func7.symm.trans hfn)).symm
  refine ⟨by kernel_rfl, fun j t ht => ?_⟩
  rw [Tryd.params7] at ht
  have hm : t ∈ [49] := by simpa using Array.mem_of_getElem? ht
  have hall : ([49].all fun u => !Tryd.prog.wantsStandIn u) = true := by kernel_rfl
  exact (show Tryd.prog.wantsStandIn t = false by simpa using List.all_eq_true.1 hall t hm)
theorem histToldUptoCard_holds : Rows.HistToldUptoCardSaid :=
  Claim7.holds_tied_plain_at .later [] _ _ _ _ histToldUpto_holds (fun _ h => by cases h) (by kernel_rfl) (fun _ h => by cases h) histToldUpto_row_tie rfl ⟨rfl, rfl⟩ (by kernel_rfl) rfl histToldPlain (by kernel_rfl)
end Go.Proofs.YtjfafkgjcgbgfaaDoor
