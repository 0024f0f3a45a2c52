/- PlanApart: for every input the law's function returns true and leaves its arguments as they were; the tables of the library as the program's text lays them. -/
import Derived.Test.YtdlbmmodlkmofaaDoorRow
import Derived.Test.YtdlbmmodlkmofaaDoorPlQ
import Derived.SevenTiedAt
import Derived.LaidMore
set_option maxRecDepth 20000
namespace Go.Proofs.YtdlbmmodlkmofaaDoor
open Go Go.Vc Go.RowKit Go.ChangeShapes Go.WideShapes Go.ChangeAt

theorem planApartContract (H : Type) (enc : TypeId × Value → H) (W : World) (base : Nat) (args : Array Value) (ds gs : List (DataW H)) (before : List MemPlace)
    (hval : ∀ (j : Nat) t v, Tryd.f8.params[j]? = some t → args[j]? = some v → Value.okWide Tryd.prog W .any base t v)
    (hW : DataW.Whole enc Tryd.prog Tryd.f8.params.toList Rows.planApartSpec.vars false W args.toList ds gs before)
    (hcond : ∀ k, (OpenSpec.ofChange Rows.planApartSpec).cond = some k → k H (ds ++ gs) = true)
    (hreach : (DataW.weightsEach Tryd.prog (Tryd.f8.params.toList ++ (OpenSpec.ofChange Rows.planApartSpec).bare.plain.varTypes Tryd.prog) (ds ++ gs)).all (· ≤ reachBytes) = true)
    (hL : laidMetH Tryd.prog Rows.planApartRow.laid W) :
    Calls Tryd.prog 8 args W fun e W' => ∃ v, e = .returned v ∧ Rows.planApartSpec.post enc Tryd.prog Tryd.f8 false true false false W args v W' := by
  have hW' := hW
  have _hL := hL
  have _hc := hcond
  obtain ⟨p, q, hA0, hV, rfl, hfz, hnd⟩ := hW
  have hA : DataW.TrodAll enc Tryd.prog W 0 (fun _ => true) true Tryd.f8.params.toList args.toList ds p := hA0
  rw [Tryd.params8] at hA hval hreach
  obtain ⟨v0, vs0, d0, ds0, p0, q0, e0, rfl, rfl, h0, r0⟩ := trodAll_cons hA
  obtain ⟨rfl, rfl, rfl⟩ := trodAll_nil r0
  obtain rfl : args = #[v0] := by cases args; simp_all
  obtain ⟨rfl, rfl⟩ := trodVars_none hV
  have g0 : Rdg enc Tryd.prog W 49 v0.cells.toList := Rdg.of h0 (weights_at (i := 0) hreach rfl rfl)
  clear hreach hA0 hA
  have k0 : flatK Tryd.prog 4 49 = some [.sl, .sl, .int .i64, .int .i64] := by kernel_rfl
  obtain ⟨q1, l1, c1, q2, l2, c2, k, st, rfl⟩ := kinds_agg' Tryd.underlying49 (hval 0 49 v0 rfl rfl) h0 4 k0
  obtain ⟨⟨_, u1, ps, p1⟩, ⟨d2, u2, ts, p2⟩⟩ := outcome_open (show Rdg enc Tryd.prog W 49 [.slice q1 l1 c1, .slice q2 l2 c2, .int .i64 k, .int .i64 st] from g0)
  refine Calls.mono (apart8 k st p1 p2 u1 u2 d2) fun e W' he => ?_
  obtain ⟨v, rfl, rfl, hg⟩ := he
  exact ⟨_, rfl, post_true laid (by kernel_rfl) (tb := 4) (by kernel_rfl) Tryd.underlying4 rfl hW' ⟨rfl, rfl, rfl⟩ hg.below⟩
theorem planApartMet (os : Os) : laidMet Tryd.prog Rows.planApartRow.laid ((World.doorLaid Tryd.prog 4000 os).forCall (fun _ _ => 0) ⟨#[], #[.agg #[.slice none 0 0, .slice none 0 0, .int .i64 0, .int .i64 0]], []⟩).memory := laidMet_of_run' 8 (by kernel_rfl) (by kernel_rfl)
theorem planApartReads (os : Os) {H : Type} (enc : TypeId × Value → H) : ∃ places, DataW.whole enc Tryd.prog ((World.doorLaid Tryd.prog 4000 os).forCall (fun _ _ => 0) ⟨#[], #[.agg #[.slice none 0 0, .slice none 0 0, .int .i64 0, .int .i64 0]], []⟩).memory Tryd.f8.params.toList Rows.planApartSpec.vars false (#[.agg #[.slice none 0 0, .slice none 0 0, .int .i64 0, .int .i64 0]] : Array Value).toList 8 = some ([.agg [.nil, .nil, .lit (.int .i64 0), .lit (.int .i64 0)]], [], places) :=
  ⟨[], by kernel_rfl⟩
set_option maxRecDepth 100000 in
theorem planApartLifted (os : Os) (started : os.Started) (H : Type) (enc : TypeId × Value → H) (F : Stop.Interp) :
    ReturnsInHanded {} Tryd.checked os 8 .any ((OpenSpec.ofChange Rows.planApartSpec).preRow enc Tryd.prog Tryd.f8 Rows.planApartRow.domain false Rows.planApartRow.laid) (((OpenSpec.ofChange Rows.planApartSpec).at F).post enc Tryd.prog Tryd.f8 false true false false) := by
  obtain ⟨places, hx⟩ := planApartReads os enc
  refine returnsInHanded_of_row (C := Tryd.checked) (s := (OpenSpec.ofChange Rows.planApartSpec)) own started (by kernel_rfl) Tryd.func8
    (witness_row_at (enc := enc) (C := Tryd.checked) false (World.doorLaid Tryd.prog 4000 os) #[.agg #[.slice none 0 0, .slice none 0 0, .int .i64 0, .int .i64 0]] rfl (by kernel_rfl) (by kernel_rfl) (by kernel_rfl)
      (OpenSpec.preRow_of_cond 8 hx (by kernel_rfl) (fun k hk => by cases hk) (by kernel_rfl) (planApartMet os))) ?_
  intro W base args ds gs before hval hW _ hcond hreach hL _ _
  exact planApartContract H enc W base args ds gs before hval hW hcond hreach hL
theorem planApart_holds : Rows.PlanApartSaid :=
  OpenClaim.holds_of_cond 8 Tryd.f8 rfl rfl rfl rfl rfl rfl rfl ⟨rfl, rfl, rfl, rfl, rfl⟩ rfl rfl rfl rfl rfl (by kernel_rfl) Tryd.func8 (by kernel_rfl)
    (of_decide_eq_true (by kernel_rfl)) (by unfold Func.isWrapper; first | (rw [if_pos (by decide +kernel)]; kernel_rfl) | (rw [if_neg (by decide +kernel)]; exact ⟨rfl, rfl⟩))
    (fun os started H enc _ F => by rw [OpenClaim.pre_eq_preRow]; exact planApartLifted os started H enc F)
theorem planApartPlain (f : FuncId) (fn : Func) (hf : Tryd.pinned.checked.prog.funcNamed "cellar/cellarlaw04.PlanApart" = some f) (hfn : Tryd.pinned.checked.prog.funcs[f]? = some fn) :
    false = Tryd.pinned.checked.prog.looks [] ∧ ∀ (j : Nat) t, fn.params[j]? = some t → Tryd.pinned.checked.prog.wantsStandIn t = false := by
  obtain rfl : f = 8 := Option.some.inj ((show Tryd.prog.funcNamed "cellar/cellarlaw04.PlanApart" = some 8 by kernel_rfl).symm.trans hf) |>.symm
  obtain rfl : fn = Tryd.f8 := (Option.some.inj (Tryd.func8.symm.trans hfn)).symm
  refine ⟨by kernel_rfl, fun j t ht => ?_⟩
  rw [Tryd.params8] at ht
  have hm : t ∈ [49] := by simpa using Array.mem_of_getElem? ht
  have hall : ([49].all fun u => !Tryd.prog.wantsStandIn u) = true := by kernel_rfl
  exact (show Tryd.prog.wantsStandIn t = false by simpa using List.all_eq_true.1 hall t hm)
theorem planApartCard_holds : Rows.PlanApartCardSaid :=
  Claim7.holds_tied_plain_at .later [] _ _ _ _ planApart_holds (fun _ h => by cases h) (by kernel_rfl) (fun _ h => by cases h) planApart_row_tie rfl ⟨rfl, rfl⟩ (by kernel_rfl) rfl planApartPlain (by kernel_rfl)
end Go.Proofs.YtdlbmmodlkmofaaDoor
