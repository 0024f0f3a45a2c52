/- StatsRatios: for every input the law's function returns true and leaves its arguments as they were; the tables of the library as the program's text lays them. -/
import Derived.Test.YtglidaifbpjpgaaDoorRow
import Derived.Test.YtglidaifbpjpgaaDoorStJ
import Derived.SevenTiedAt
import Derived.LaidMore
import Derived.Lib.LaidTab
set_option maxRecDepth 20000
namespace Go.Proofs.YtglidaifbpjpgaaDoor
open Go Go.Vc Go.RowKit Go.ChangeShapes Go.WideShapes Go.ChangeAt

theorem statsRatiosContract (H : Type) (enc : TypeId × Value → H) (W : World) (base : Nat) (args : Array Value) (ds gs : List (DataW H)) (before : List MemPlace)
    (hval : ∀ (j : Nat) t v, Tryd.f3.params[j]? = some t → args[j]? = some v → Value.okWide Tryd.prog W .any base t v)
    (hW : DataW.Whole enc Tryd.prog Tryd.f3.params.toList Rows.statsRatiosSpec.vars false W args.toList ds gs before)
    (hcond : ∀ k, (OpenSpec.ofChange Rows.statsRatiosSpec).cond = some k → k H (ds ++ gs) = true)
    (hreach : (DataW.weightsEach Tryd.prog (Tryd.f3.params.toList ++ (OpenSpec.ofChange Rows.statsRatiosSpec).bare.plain.varTypes Tryd.prog) (ds ++ gs)).all (· ≤ reachBytes) = true)
    (hL : laidMetH Tryd.prog Rows.statsRatiosRow.laid W) :
    Calls Tryd.prog 3 args W fun e W' => ∃ v, e = .returned v ∧ Rows.statsRatiosSpec.post enc Tryd.prog Tryd.f3 false true false false W args v W' := by
  have hW' := hW
  have _hL := hL
  have _hc := hcond
  obtain ⟨p, q, hA0, hV, rfl, hfz, hnd⟩ := hW
  have hA : DataW.TrodAll enc Tryd.prog W 0 (fun _ => true) true Tryd.f3.params.toList args.toList ds p := hA0
  rw [Tryd.params3] at hA hval hreach
  obtain ⟨v0, vs0, d0, ds0, p0, q0, e0, rfl, rfl, h0, r0⟩ := trodAll_cons hA
  obtain ⟨v1, vs1, d1, ds1, p1, q1, rfl, rfl, rfl, h1, r1⟩ := trodAll_cons r0
  obtain ⟨v2, vs2, d2, ds2, p2, q2, rfl, rfl, rfl, h2, r2⟩ := trodAll_cons r1
  obtain ⟨rfl, rfl, rfl⟩ := trodAll_nil r2
  obtain rfl : args = #[v0, v1, v2] := by cases args; simp_all
  obtain ⟨rfl, rfl⟩ := trodVars_none hV
  have g0 : Rdg enc Tryd.prog W 3 v0.cells.toList := Rdg.of h0 (weights_at (i := 0) hreach rfl rfl)
  have g1 : Rdg enc Tryd.prog W 3 v1.cells.toList := Rdg.of h1 (weights_at (i := 1) hreach rfl rfl)
  have g2 : Rdg enc Tryd.prog W 3 v2.cells.toList := Rdg.of h2 (weights_at (i := 2) hreach rfl rfl)
  clear hreach hA0 hA
  obtain ⟨z0, rfl, _, _, _⟩ := open_int Tryd.underlying3 (hval 0 3 v0 rfl rfl) h0
  have b0 := int_wf (show Rdg enc Tryd.prog W 3 [.int .i64 z0] from g0)
  obtain ⟨z1, rfl, _, _, _⟩ := open_int Tryd.underlying3 (hval 1 3 v1 rfl rfl) h1
  have b1 := int_wf (show Rdg enc Tryd.prog W 3 [.int .i64 z1] from g1)
  obtain ⟨z2, rfl, _, _, _⟩ := open_int Tryd.underlying3 (hval 2 3 v2 rfl rfl) h2
  have b2 := int_wf (show Rdg enc Tryd.prog W 3 [.int .i64 z2] from g2)
  have hI : badR z0 z1 z2 = false → ItoaAt W (z0.toNat / z1.toNat) := fun hb => by
    have hd : z0.toNat / z1.toNat ≤ z0.toNat := Nat.div_le_self _ _
    clear hb
    generalize z0.toNat / z1.toNat = d at hd
    refine Calls.mono (Tryd.strconv_Itoa ((d : Nat) : Int) (by omega) (by omega) W (table hL)) fun e w' ⟨h1, k, os, h2⟩ => ⟨_, h1, ?_, ?_⟩
    · have : ¬ (((d : Nat) : Int) < 0) := by omega
      simp only [Lib.itoa, if_neg this, Int.toNat_natCast]
    · rw [h2]
      have c0 := (Chg.refl none_ W).drewN k
      refine ⟨c0.os, c0.tape, c0.output, ?_, fun i hi _ => ?_⟩
      · show W.heap.size ≤ (W.heap ++ os).size
        simp
      · show (W.heap ++ os)[i]? = _
        rw [Array.getElem?_append_left hi]
  refine Calls.mono (ratios3 W z0 z1 z2 hI) fun e W' he => ?_
  obtain ⟨v, rfl, rfl, hg⟩ := he
  exact ⟨_, rfl, post_true laid (by kernel_rfl) (tb := 4) (by kernel_rfl) Tryd.underlying4 rfl hW' ⟨rfl, rfl, rfl⟩ hg.below⟩
theorem statsRatiosMet (os : Os) : laidMet Tryd.prog Rows.statsRatiosRow.laid ((World.doorLaid Tryd.prog 4000 os).forCall (fun _ _ => 0) ⟨#[], #[.int .i64 0, .int .i64 0, .int .i64 0], []⟩).memory := laidMet_of_run' 8 (by kernel_rfl) (by kernel_rfl)
theorem statsRatiosReads (os : Os) {H : Type} (enc : TypeId × Value → H) : ∃ places, DataW.whole enc Tryd.prog ((World.doorLaid Tryd.prog 4000 os).forCall (fun _ _ => 0) ⟨#[], #[.int .i64 0, .int .i64 0, .int .i64 0], []⟩).memory Tryd.f3.params.toList Rows.statsRatiosSpec.vars false (#[.int .i64 0, .int .i64 0, .int .i64 0] : Array Value).toList 8 = some ([.lit (.int .i64 0), .lit (.int .i64 0), .lit (.int .i64 0)], [], places) :=
  ⟨[], by kernel_rfl⟩
set_option maxRecDepth 100000 in
theorem statsRatiosLifted (os : Os) (started : os.Started) (H : Type) (enc : TypeId × Value → H) (F : Stop.Interp) :
    ReturnsInHanded {} Tryd.checked os 3 .any ((OpenSpec.ofChange Rows.statsRatiosSpec).preRow enc Tryd.prog Tryd.f3 Rows.statsRatiosRow.domain false Rows.statsRatiosRow.laid) (((OpenSpec.ofChange Rows.statsRatiosSpec).at F).post enc Tryd.prog Tryd.f3 false true false false) := by
  obtain ⟨places, hx⟩ := statsRatiosReads os enc
  refine returnsInHanded_of_row (C := Tryd.checked) (s := (OpenSpec.ofChange Rows.statsRatiosSpec)) own started (by kernel_rfl) Tryd.func3
    (witness_row_at (enc := enc) (C := Tryd.checked) false (World.doorLaid Tryd.prog 4000 os) #[.int .i64 0, .int .i64 0, .int .i64 0] rfl (by kernel_rfl) (by kernel_rfl) (by kernel_rfl)
      (OpenSpec.preRow_of_cond 8 hx (by kernel_rfl) (fun k hk => by cases hk) (by kernel_rfl) (statsRatiosMet os))) ?_
  intro W base args ds gs before hval hW _ hcond hreach hL _ _
  exact statsRatiosContract H enc W base args ds gs before hval hW hcond hreach hL
theorem statsRatios_holds : Rows.StatsRatiosSaid :=
  OpenClaim.holds_of_cond 3 Tryd.f3 rfl rfl rfl rfl rfl rfl rfl ⟨rfl, rfl, rfl, rfl, rfl⟩ rfl rfl rfl rfl rfl (by kernel_rfl) Tryd.func3 (by kernel_rfl)
    (of_decide_eq_true (by kernel_rfl)) (by unfold Func.isWrapper; first | (rw [if_pos (by decide +kernel)]; kernel_rfl) | (rw [if_neg (by decide +kernel)]; exact ⟨rfl, rfl⟩))
    (fun os started H enc _ F => by rw [OpenClaim.pre_eq_preRow]; exact statsRatiosLifted os started H enc F)
theorem statsRatiosPlain (f : FuncId) (fn : Func) (hf : Tryd.pinned.checked.prog.funcNamed "cellar/cellarlaw28.StatsRatios" = some f) (hfn : Tryd.pinned.checked.prog.funcs[f]? = some fn) :
    false = Tryd.pinned.checked.prog.looks [] ∧ ∀ (j : Nat) t, fn.params[j]? = some t → Tryd.pinned.checked.prog.wantsStandIn t = false := by
  obtain rfl : f = 3 := Option.some.inj ((show Tryd.prog.funcNamed "cellar/cellarlaw28.StatsRatios" = some 3 by kernel_rfl).symm.trans hf) |>.symm
  obtain rfl : fn = Tryd.f3 := (Option.some.inj (Tryd.func3.symm.trans hfn)).symm
  refine ⟨by kernel_rfl, fun j t ht => ?_⟩
  rw [Tryd.params3] at ht
  have hm : t ∈ [3, 3, 3] := by simpa using Array.mem_of_getElem? ht
  have hall : ([3, 3, 3].all fun u => !Tryd.prog.wantsStandIn u) = true := by kernel_rfl
  exact (show Tryd.prog.wantsStandIn t = false by simpa using List.all_eq_true.1 hall t hm)
theorem statsRatiosCard_holds : Rows.StatsRatiosCardSaid :=
  Claim7.holds_tied_plain_at .later [] _ _ _ _ statsRatios_holds (fun _ h => by cases h) (by kernel_rfl) (fun _ h => by cases h) statsRatios_row_tie rfl ⟨rfl, rfl⟩ (by kernel_rfl) rfl statsRatiosPlain (by kernel_rfl)
end Go.Proofs.YtglidaifbpjpgaaDoor
