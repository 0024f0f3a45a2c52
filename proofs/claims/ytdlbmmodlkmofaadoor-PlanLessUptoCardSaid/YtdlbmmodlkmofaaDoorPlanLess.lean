/- PlanLess: for every input of bulk at most 1048576 the law's function returns true and leaves its arguments as they were; the tables of the library as the program's text lays them. -/
import Derived.Test.YtdlbmmodlkmofaaDoorRowB
import Derived.Test.YtdlbmmodlkmofaaDoorRow
import Derived.Test.YtdlbmmodlkmofaaDoorPlr
import Derived.SevenTiedAt
import Derived.LaidMore
set_option maxRecDepth 20000
namespace Go.Proofs.YtdlbmmodlkmofaaDoor
open Go Go.Vc Go.RowKit Go.ChangeShapes Go.WideShapes Go.ChangeAt

theorem planLessContract (H : Type) (enc : TypeId × Value → H) (W : World) (base : Nat) (args : Array Value) (ds gs : List (DataW H)) (before : List MemPlace)
    (hval : ∀ (j : Nat) t v, Tryd.f11.params[j]? = some t → args[j]? = some v → Value.okWide Tryd.prog W .any base t v)
    (hW : DataW.Whole enc Tryd.prog Tryd.f11.params.toList Rows.planLessSpec.vars false W args.toList ds gs before)
    (hcond : ∀ k, (Rows.OpenSpec.upto Rows.planLessSpec).cond = some k → k H (ds ++ gs) = true)
    (hreach : (DataW.weightsEach Tryd.prog (Tryd.f11.params.toList ++ (Rows.OpenSpec.upto Rows.planLessSpec).bare.plain.varTypes Tryd.prog) (ds ++ gs)).all (· ≤ reachBytes) = true)
    (hL : laidMetH Tryd.prog Rows.planLessUptoRow.laid W) :
    Calls Tryd.prog 11 args W fun e W' => ∃ v, e = .returned v ∧ Rows.planLessSpec.post enc Tryd.prog Tryd.f11 false true false false W args v W' := by
  have hW' := hW
  have _hL := hL
  have _hc := hcond
  obtain ⟨p, q, hA0, hV, rfl, hfz, hnd⟩ := hW
  have hA : DataW.TrodAll enc Tryd.prog W 0 (fun _ => true) true Tryd.f11.params.toList args.toList ds p := hA0
  rw [Tryd.params11] at hA hval hreach
  obtain ⟨v0, vs0, d0, ds0, p0, q0, e0, rfl, rfl, h0, r0⟩ := trodAll_cons hA
  obtain ⟨rfl, rfl, rfl⟩ := trodAll_nil r0
  obtain rfl : args = #[v0] := by cases args; simp_all
  obtain ⟨rfl, rfl⟩ := trodVars_none hV
  have g0 : Rdg enc Tryd.prog W 30 v0.cells.toList := Rdg.of h0 (weights_at (i := 0) hreach rfl rfl)
  clear hreach hA0 hA
  have k0 : flatK Tryd.prog 4 30 = some [.int .i64, .int .i64, .int .i64, .int .i64, .sl, .sl] := by kernel_rfl
  obtain ⟨ga, gb, gc, gd, q1, l1, c1, q2, l2, c2, rfl⟩ := kinds_agg' Tryd.underlying30 (hval 0 30 v0 rfl rfl) h0 4 k0
  obtain ⟨⟨_, u1, fs, p1⟩, ⟨_, u2, cs, p2⟩⟩ := asking_open (show Rdg enc Tryd.prog W 30 [.int .i64 ga, .int .i64 gb, .int .i64 gc, .int .i64 gd, .slice q1 l1 c1, .slice q2 l2 c2] from g0)
  refine Calls.mono (less11 (p := ⟨fs, cs⟩) ⟨ga, gb, gc, gd⟩ p1 p2 u1 u2) fun e W' he => ?_
  obtain ⟨v, rfl, rfl, hg⟩ := he
  exact ⟨_, rfl, post_true laid (by kernel_rfl) (tb := 4) (by kernel_rfl) Tryd.underlying4 rfl hW' ⟨rfl, rfl, rfl⟩ hg.below⟩
theorem planLessMet (os : Os) : laidMet Tryd.prog Rows.planLessUptoRow.laid ((World.doorLaid Tryd.prog 4000 os).forCall (fun _ _ => 0) ⟨#[], #[.agg #[.int .i64 0, .int .i64 0, .int .i64 0, .int .i64 0, .slice none 0 0, .slice none 0 0]], []⟩).memory := laidMet_of_run' 8 (by kernel_rfl) (by kernel_rfl)
theorem planLessReads (os : Os) {H : Type} (enc : TypeId × Value → H) : ∃ places, DataW.whole enc Tryd.prog ((World.doorLaid Tryd.prog 4000 os).forCall (fun _ _ => 0) ⟨#[], #[.agg #[.int .i64 0, .int .i64 0, .int .i64 0, .int .i64 0, .slice none 0 0, .slice none 0 0]], []⟩).memory Tryd.f11.params.toList Rows.planLessSpec.vars false (#[.agg #[.int .i64 0, .int .i64 0, .int .i64 0, .int .i64 0, .slice none 0 0, .slice none 0 0]] : Array Value).toList 8 = some ([.agg [.agg [.lit (.int .i64 0), .lit (.int .i64 0), .lit (.int .i64 0), .lit (.int .i64 0)], .agg [.nil, .nil]]], [], places) :=
  ⟨[], by kernel_rfl⟩
set_option maxRecDepth 100000 in
theorem planLessLifted (os : Os) (started : os.Started) (H : Type) (enc : TypeId × Value → H) (F : Stop.Interp) :
    ReturnsInHanded {} Tryd.checked os 11 .any ((Rows.OpenSpec.upto Rows.planLessSpec).preRow enc Tryd.prog Tryd.f11 Rows.planLessUptoRow.domain false Rows.planLessUptoRow.laid) (((Rows.OpenSpec.upto Rows.planLessSpec).at F).post enc Tryd.prog Tryd.f11 false true false false) := by
  obtain ⟨places, hx⟩ := planLessReads os enc
  refine returnsInHanded_of_row (C := Tryd.checked) (s := (Rows.OpenSpec.upto Rows.planLessSpec)) own started (by kernel_rfl) Tryd.func11
    (witness_row_at (enc := enc) (C := Tryd.checked) false (World.doorLaid Tryd.prog 4000 os) #[.agg #[.int .i64 0, .int .i64 0, .int .i64 0, .int .i64 0, .slice none 0 0, .slice none 0 0]] rfl (by kernel_rfl) (by kernel_rfl) (by kernel_rfl)
      (OpenSpec.preRow_of_cond 8 hx (by kernel_rfl) (fun k hk => by cases hk; kernel_rfl) (by kernel_rfl) (planLessMet os))) ?_
  intro W base args ds gs before hval hW _ hcond hreach hL _ _
  exact planLessContract H enc W base args ds gs before hval hW hcond hreach hL
theorem planLessUpto_holds : Rows.PlanLessUptoSaid :=
  OpenClaim.holds_of_cond 11 Tryd.f11 rfl rfl rfl rfl rfl rfl rfl ⟨rfl, rfl, rfl, rfl, rfl⟩ rfl rfl rfl rfl rfl (by kernel_rfl) Tryd.func11 (by kernel_rfl)
    (of_decide_eq_true (by kernel_rfl)) (by unfold Func.isWrapper; first | (rw [if_pos (by decide +kernel)]; kernel_rfl) | (rw [if_neg (by decide +kernel)]; exact ⟨rfl, rfl⟩))
    (fun os started H enc _ F => by rw [OpenClaim.pre_eq_preRow]; exact planLessLifted os started H enc F)
theorem planLessPlain (f : FuncId) (fn : Func) (hf : Tryd.pinned.checked.prog.funcNamed "cellar/cellarlaw04.PlanLess" = some f) (hfn : Tryd.pinned.checked.prog.funcs[f]? = some fn) :
    false = Tryd.pinned.checked.prog.looks [] ∧ ∀ (j : Nat) t, fn.params[j]? = some t → Tryd.pinned.checked.prog.wantsStandIn t = false := by
  obtain rfl : f = 11 := Option.some.inj ((show Tryd.prog.funcNamed "cellar/cellarlaw04.PlanLess" = some 11 by kernel_rfl).symm.trans hf) |>.symm
  obtain rfl : fn = Tryd.f11 := (Option.some.inj (Tryd.func11.symm.trans hfn)).symm
  refine ⟨by kernel_rfl, fun j t ht => ?_⟩
  rw [Tryd.params11] at ht
  have hm : t ∈ [30] := by simpa using Array.mem_of_getElem? ht
  have hall : ([30].all fun u => !Tryd.prog.wantsStandIn u) = true := by kernel_rfl
  exact (show Tryd.prog.wantsStandIn t = false by simpa using List.all_eq_true.1 hall t hm)
theorem planLessUptoCard_holds : Rows.PlanLessUptoCardSaid :=
  Claim7.holds_tied_plain_at .later [] _ _ _ _ planLessUpto_holds (fun _ h => by cases h) (by kernel_rfl) (fun _ h => by cases h) planLessUpto_row_tie rfl ⟨rfl, rfl⟩ (by kernel_rfl) rfl planLessPlain (by kernel_rfl)
end Go.Proofs.YtdlbmmodlkmofaaDoor
