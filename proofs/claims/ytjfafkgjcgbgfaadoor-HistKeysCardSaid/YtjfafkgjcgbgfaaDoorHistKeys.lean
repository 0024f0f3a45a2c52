/- HistKeys: for every input the law's function returns true and leaves its arguments as they were; the tables of the library as the program's text lays them. -/
import Derived.Test.YtjfafkgjcgbgfaaDoorRowK
import Derived.Test.YtjfafkgjcgbgfaaDoorRow
import Derived.Test.YtjfafkgjcgbgfaaDoorHj4
import Derived.SevenTiedAt
import Derived.LaidMore
import Derived.Lay
set_option maxRecDepth 20000
namespace Go.Proofs.YtjfafkgjcgbgfaaDoor
open Go Go.Vc Go.RowKit Go.ChangeShapes Go.WideShapes Go.ChangeAt

theorem histKeysContract (H : Type) (enc : TypeId × Value → H) (W : World) (base : Nat) (args : Array Value) (ds gs : List (DataW H)) (before : List MemPlace)
    (hval : ∀ (j : Nat) t v, Tryd.f9.params[j]? = some t → args[j]? = some v → Value.okWide Tryd.prog W .any base t v)
    (hW : DataW.Whole enc Tryd.prog Tryd.f9.params.toList Rows.histKeysSpec.vars false W args.toList ds gs before)
    (hcond : ∀ k, (OpenSpec.ofChange Rows.histKeysSpec).cond = some k → k H (ds ++ gs) = true)
    (hreach : (DataW.weightsEach Tryd.prog (Tryd.f9.params.toList ++ (OpenSpec.ofChange Rows.histKeysSpec).bare.plain.varTypes Tryd.prog) (ds ++ gs)).all (· ≤ reachBytes) = true)
    (hL : laidMetH Tryd.prog Rows.histKeysRow.laid W) (hS : W.ShapedOpen Tryd.prog) :
    Calls Tryd.prog 9 args W fun e W' => ∃ v, e = .returned v ∧ Rows.histKeysSpec.post enc Tryd.prog Tryd.f9 false true false false W args v W' := by
  have hW' := hW
  have _hL := hL
  have _hc := hcond
  obtain ⟨p, q, hA0, hV, rfl, hfz, hnd⟩ := hW
  have hA : DataW.TrodAll enc Tryd.prog W 0 (fun _ => true) true Tryd.f9.params.toList args.toList ds p := hA0
  rw [Tryd.params9] at hA hval hreach
  obtain ⟨v0, vs0, d0, ds0, p0, q0, e0, rfl, rfl, h0, r0⟩ := trodAll_cons hA
  obtain ⟨v1, vs1, d1, ds1, p1, q1, rfl, rfl, rfl, h1, r1⟩ := trodAll_cons r0
  obtain ⟨v2, vs2, d2, ds2, p2, q2, rfl, rfl, rfl, h2, r2⟩ := trodAll_cons r1
  obtain ⟨rfl, rfl, rfl⟩ := trodAll_nil r2
  obtain rfl : args = #[v0, v1, v2] := by cases args; simp_all
  obtain ⟨rfl, rfl⟩ := trodVars_none hV
  have g0 : Rdg enc Tryd.prog W 23 v0.cells.toList := Rdg.of h0 (weights_at (i := 0) hreach rfl rfl)
  have g1 : Rdg enc Tryd.prog W 9 v1.cells.toList := Rdg.of h1 (weights_at (i := 1) hreach rfl rfl)
  have g2 : Rdg enc Tryd.prog W 3 v2.cells.toList := Rdg.of h2 (weights_at (i := 2) hreach rfl rfl)
  clear hreach hA0 hA
  obtain ⟨q0, l0, c0, rfl⟩ := okWide_slice Tryd.underlying23 (hval 0 23 v0 rfl rfl)
  obtain ⟨hl0, ms0, hx0, hk0⟩ := moves_keyed (show Rdg enc Tryd.prog W 23 [.slice q0 l0 c0] from g0)
  obtain ⟨s1, rfl⟩ := okWide_string Tryd.underlying9 (hval 1 9 v1 rfl rfl)
  obtain ⟨z2, rfl, _, _, _⟩ := open_int Tryd.underlying3 (hval 2 3 v2 rfl rfl) h2
  refine Calls.mono (keysLaw9 hS hx0 hl0 hk0 s1 z2) fun e W' he => ?_
  obtain ⟨v, rfl, rfl, hg⟩ := he
  exact ⟨_, rfl, post_true laid (by kernel_rfl) (tb := 4) (by kernel_rfl) Tryd.underlying4 rfl hW' ⟨rfl, rfl, rfl⟩ hg.below⟩
theorem histKeysMet (os : Os) : laidMet Tryd.prog Rows.histKeysRow.laid ((World.laidAll Tryd.prog os Rows.histKeysRow.laid).forCall (fun _ _ => 0) ⟨#[], #[.slice none 0 0, .string ⟨#[]⟩, .int .i64 0], []⟩).memory := laidMet_laidAll _ (by kernel_rfl) (by kernel_rfl)
theorem histKeysReads (os : Os) {H : Type} (enc : TypeId × Value → H) : ∃ places, DataW.whole enc Tryd.prog ((World.laidAll Tryd.prog os Rows.histKeysRow.laid).forCall (fun _ _ => 0) ⟨#[], #[.slice none 0 0, .string ⟨#[]⟩, .int .i64 0], []⟩).memory Tryd.f9.params.toList Rows.histKeysSpec.vars false (#[.slice none 0 0, .string ⟨#[]⟩, .int .i64 0] : Array Value).toList 8 = some ([.nil, .lit (.string []), .lit (.int .i64 0)], [], places) :=
  ⟨[], by kernel_rfl⟩
set_option maxRecDepth 100000 in
theorem histKeysLifted (os : Os) (started : os.Started) (H : Type) (enc : TypeId × Value → H) (F : Stop.Interp) :
    ReturnsInHanded {} Tryd.checked os 9 .any ((OpenSpec.ofChange Rows.histKeysSpec).preRow enc Tryd.prog Tryd.f9 Rows.histKeysRow.domain false Rows.histKeysRow.laid) (((OpenSpec.ofChange Rows.histKeysSpec).at F).post enc Tryd.prog Tryd.f9 false true false false) := by
  obtain ⟨places, hx⟩ := histKeysReads os enc
  refine returnsInHanded_of_row (C := Tryd.checked) (s := (OpenSpec.ofChange Rows.histKeysSpec)) own started (by kernel_rfl) Tryd.func9
    (witness_row_at (enc := enc) (C := Tryd.checked) false (World.laidAll Tryd.prog os Rows.histKeysRow.laid) #[.slice none 0 0, .string ⟨#[]⟩, .int .i64 0] rfl (by kernel_rfl) (by kernel_rfl) (by kernel_rfl)
      (OpenSpec.preRow_of_cond 8 hx (by kernel_rfl) (fun k hk => by cases hk) (by kernel_rfl) (histKeysMet os))) ?_
  intro W base args ds gs before hval hW _ hcond hreach hL hS _
  exact histKeysContract H enc W base args ds gs before hval hW hcond hreach hL hS
theorem histKeys_holds : Rows.HistKeysSaid :=
  OpenClaim.holds_of_cond 9 Tryd.f9 rfl rfl rfl rfl rfl rfl rfl ⟨rfl, rfl, rfl, rfl, rfl⟩ rfl rfl rfl rfl rfl (by kernel_rfl) Tryd.func9 (by kernel_rfl)
    (of_decide_eq_true (by kernel_rfl)) (by unfold Func.isWrapper; first | (rw [if_pos (by decide +kernel)]; kernel_rfl) | (rw [if_neg (by decide +kernel)]; exact ⟨rfl, rfl⟩))
    (fun os started H enc _ F => by rw [OpenClaim.pre_eq_preRow]; exact histKeysLifted os started H enc F)
theorem histKeysPlain (f : FuncId) (fn : Func) (hf : Tryd.pinned.checked.prog.funcNamed "cellar/cellarlaw24.HistKeys" = some f) (hfn : Tryd.pinned.checked.prog.funcs[f]? = some fn) :
    true = Tryd.pinned.checked.prog.looks [] ∧ ∀ (j : Nat) t, fn.params[j]? = some t → Tryd.pinned.checked.prog.wantsStandIn t = false := by
  obtain rfl : f = 9 := Option.some.inj ((show Tryd.prog.funcNamed "cellar/cellarlaw24.HistKeys" = some 9 by kernel_rfl).symm.trans hf) |>.symm
  obtain rfl : fn = Tryd.f9 := (Option.some.inj (Tryd.func9.symm.trans hfn)).symm
  refine ⟨by kernel_rfl, fun j t ht => ?_⟩
  rw [Tryd.params9] at ht
  have hm : t ∈ [23, 9, 3] := by simpa using Array.mem_of_getElem? ht
  have hall : ([23, 9, 3].all fun u => !Tryd.prog.wantsStandIn u) = true := by kernel_rfl
  exact (show Tryd.prog.wantsStandIn t = false by simpa using List.all_eq_true.1 hall t hm)
theorem histKeysCard_holds : Rows.HistKeysCardSaid :=
  Claim7.holds_tied_plain_at .later [] _ _ _ _ histKeys_holds (fun _ h => by cases h) (by kernel_rfl) (fun _ h => by cases h) histKeys_row_tie rfl ⟨rfl, rfl⟩ (by kernel_rfl) rfl histKeysPlain (by kernel_rfl)
end Go.Proofs.YtjfafkgjcgbgfaaDoor
