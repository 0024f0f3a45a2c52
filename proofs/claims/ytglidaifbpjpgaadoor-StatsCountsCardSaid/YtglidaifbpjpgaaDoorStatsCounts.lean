/- StatsCounts: for every input the law's function returns true and leaves its arguments as they were; the tables of the library as the program's text lays them. -/
import Derived.Test.YtglidaifbpjpgaaDoorRow
import Derived.Test.YtglidaifbpjpgaaDoorStP
import Derived.SevenTiedAt
import Derived.LaidMore
import Derived.Lib.LaidTab
set_option maxRecDepth 20000
namespace Go.Proofs.YtglidaifbpjpgaaDoor
open Go Go.Vc Go.RowKit Go.ChangeShapes Go.WideShapes Go.ChangeAt
section
variable {H : Type} {enc : TypeId × Value → H} {w : World}
theorem ops_open {q : Option Addr} {l c : Nat} (g : Rdg enc Tryd.prog w 46 [.slice q l c]) : l ≤ 17592186044416 ∧ ∃ os : List OpE, RE En.op w q l os ∧ ∀ o ∈ os, -9223372036854775808 ≤ o.n ∧ o.n ≤ 9223372036854775807 := by
  have hb : Tryd.prog.bytesOf 50 = 32 := by kernel_rfl
  have hc : Tryd.prog.cellsOf 50 = 4 := by kernel_rfl
  have hc1 : Tryd.prog.cellsOf 3 = 1 := by kernel_rfl
  have hk : flatK Tryd.prog 3 50 = some [.int .i64, .bool, .int .i64, .int .i64] := by kernel_rfl
  obtain ⟨_, _, h3, h4⟩ := g.slice Tryd.underlying46
  rw [hb] at h3
  refine ⟨by omega, ?_⟩
  obtain ⟨os, hl, hx⟩ := list_of (R := fun i (x : OpE) => (∃ a, q = some a ∧ reads w (a.add (i * 4)) (En.op.enc x)) ∧ -9223372036854775808 ≤ x.n ∧ x.n ≤ 9223372036854775807) (l := l) (fun i hi => by
    obtain ⟨a, us, ha, _, hr, hg⟩ := h4 i hi
    rw [hc] at hr
    have : exKs [.int .i64, .bool, .int .i64, .int .i64] fun vs => us = vs := areK_ex (hg.kinds 3 hk) rfl
    obtain ⟨x, y, z, t, rfl⟩ := this
    have hf : Rdg enc Tryd.prog w 3 ((([.int .i64 x, .bool y, .int .i64 z, .int .i64 t] : List Value).drop 2).take (Tryd.prog.cellsOf 3)) := hg.field Tryd.underlying50 (i := 2) rfl
    rw [hc1] at hf
    exact ⟨⟨x, y, z, t⟩, ⟨a, ha, hr⟩, int_wf (show Rdg enc Tryd.prog w 3 [.int .i64 z] from hf)⟩)
  exact ⟨os, ⟨hl, fun i x hi => (hx i x hi).1⟩, fun o ho => by obtain ⟨i, hi⟩ := List.getElem?_of_mem ho; exact (hx i o hi).2⟩
theorem script_open {q1 q2 q3 : Option Addr} {l1 c1 l2 c2 l3 c3 : Nat} (g : Rdg enc Tryd.prog w 48 [.slice q1 l1 c1, .slice q2 l2 c2, .slice q3 l3 c3]) : (l1 ≤ 17592186043904 ∧ ∃ xs : List Int, RE En.int w q1 l1 xs) ∧ (l2 ≤ 17592186043904 ∧ ∃ xs : List Int, RE En.int w q2 l2 xs) ∧ l3 ≤ 17592186044416 ∧ ∃ os : List OpE, RE En.op w q3 l3 os ∧ ∀ o ∈ os, -9223372036854775808 ≤ o.n ∧ o.n ≤ 9223372036854775807 := by
  have hc1 : Tryd.prog.cellsOf 28 = 1 := by kernel_rfl
  have hc2 : Tryd.prog.cellsOf 46 = 1 := by kernel_rfl
  have f1 : Rdg enc Tryd.prog w 28 ((([.slice q1 l1 c1, .slice q2 l2 c2, .slice q3 l3 c3] : List Value).drop 0).take (Tryd.prog.cellsOf 28)) := g.field Tryd.underlying48 (i := 0) rfl
  have f2 : Rdg enc Tryd.prog w 28 ((([.slice q1 l1 c1, .slice q2 l2 c2, .slice q3 l3 c3] : List Value).drop 1).take (Tryd.prog.cellsOf 28)) := g.field Tryd.underlying48 (i := 1) rfl
  have f3 : Rdg enc Tryd.prog w 46 ((([.slice q1 l1 c1, .slice q2 l2 c2, .slice q3 l3 c3] : List Value).drop 2).take (Tryd.prog.cellsOf 46)) := g.field Tryd.underlying48 (i := 2) rfl
  rw [hc1] at f1 f2
  rw [hc2] at f3
  obtain ⟨_, a2, _, a3⟩ := ints_open f1
  obtain ⟨_, b2, _, b3⟩ := ints_open f2
  exact ⟨⟨a2, a3⟩, ⟨b2, b3⟩, ops_open f3⟩
end

theorem statsCountsContract (H : Type) (enc : TypeId × Value → H) (W : World) (base : Nat) (args : Array Value) (ds gs : List (DataW H)) (before : List MemPlace)
    (hval : ∀ (j : Nat) t v, Tryd.f6.params[j]? = some t → args[j]? = some v → Value.okWide Tryd.prog W .any base t v)
    (hW : DataW.Whole enc Tryd.prog Tryd.f6.params.toList Rows.statsCountsSpec.vars false W args.toList ds gs before)
    (hcond : ∀ k, (OpenSpec.ofChange Rows.statsCountsSpec).cond = some k → k H (ds ++ gs) = true)
    (hreach : (DataW.weightsEach Tryd.prog (Tryd.f6.params.toList ++ (OpenSpec.ofChange Rows.statsCountsSpec).bare.plain.varTypes Tryd.prog) (ds ++ gs)).all (· ≤ reachBytes) = true)
    (hL : laidMetH Tryd.prog Rows.statsCountsRow.laid W) :
    Calls Tryd.prog 6 args W fun e W' => ∃ v, e = .returned v ∧ Rows.statsCountsSpec.post enc Tryd.prog Tryd.f6 false true false false W args v W' := by
  have hW' := hW
  have _hL := hL
  have _hc := hcond
  obtain ⟨p, q, hA0, hV, rfl, hfz, hnd⟩ := hW
  have hA : DataW.TrodAll enc Tryd.prog W 0 (fun _ => true) true Tryd.f6.params.toList args.toList ds p := hA0
  rw [Tryd.params6] at hA hval hreach
  obtain ⟨v0, vs0, d0, ds0, p0, q0, e0, rfl, rfl, h0, r0⟩ := trodAll_cons hA
  obtain ⟨rfl, rfl, rfl⟩ := trodAll_nil r0
  obtain rfl : args = #[v0] := by cases args; simp_all
  obtain ⟨rfl, rfl⟩ := trodVars_none hV
  have g0 : Rdg enc Tryd.prog W 48 v0.cells.toList := Rdg.of h0 (weights_at (i := 0) hreach rfl rfl)
  clear hreach hA0 hA
  have kk0 : flatK Tryd.prog 4 48 = some [.sl, .sl, .sl] := by kernel_rfl
  obtain ⟨q1, l1, c1, q2, l2, c2, q3, l3, c3, rfl⟩ := kinds_agg' Tryd.underlying48 (hval 0 48 v0 rfl rfl) h0 4 kk0
  obtain ⟨⟨u1, xs, p1⟩, ⟨u2, ys, p2⟩, u3, os, p3, p4⟩ := script_open (show Rdg enc Tryd.prog W 48 [.slice q1 l1 c1, .slice q2 l2 c2, .slice q3 l3 c3] from g0)
  refine Calls.mono (counts6 p1 p2 p3 (by omega) (by omega) u3 p4) fun e W' he => ?_
  obtain ⟨v, rfl, rfl, hg⟩ := he
  exact ⟨_, rfl, post_true laid (by kernel_rfl) (tb := 4) (by kernel_rfl) Tryd.underlying4 rfl hW' ⟨rfl, rfl, rfl⟩ hg.below⟩
theorem statsCountsMet (os : Os) : laidMet Tryd.prog Rows.statsCountsRow.laid ((World.doorLaid Tryd.prog 4000 os).forCall (fun _ _ => 0) ⟨#[], #[.agg #[.slice none 0 0, .slice none 0 0, .slice none 0 0]], []⟩).memory := laidMet_of_run' 8 (by kernel_rfl) (by kernel_rfl)
theorem statsCountsReads (os : Os) {H : Type} (enc : TypeId × Value → H) : ∃ places, DataW.whole enc Tryd.prog ((World.doorLaid Tryd.prog 4000 os).forCall (fun _ _ => 0) ⟨#[], #[.agg #[.slice none 0 0, .slice none 0 0, .slice none 0 0]], []⟩).memory Tryd.f6.params.toList Rows.statsCountsSpec.vars false (#[.agg #[.slice none 0 0, .slice none 0 0, .slice none 0 0]] : Array Value).toList 8 = some ([.agg [.nil, .nil, .nil]], [], places) :=
  ⟨[], by kernel_rfl⟩
set_option maxRecDepth 100000 in
theorem statsCountsLifted (os : Os) (started : os.Started) (H : Type) (enc : TypeId × Value → H) (F : Stop.Interp) :
    ReturnsInHanded {} Tryd.checked os 6 .any ((OpenSpec.ofChange Rows.statsCountsSpec).preRow enc Tryd.prog Tryd.f6 Rows.statsCountsRow.domain false Rows.statsCountsRow.laid) (((OpenSpec.ofChange Rows.statsCountsSpec).at F).post enc Tryd.prog Tryd.f6 false true false false) := by
  obtain ⟨places, hx⟩ := statsCountsReads os enc
  refine returnsInHanded_of_row (C := Tryd.checked) (s := (OpenSpec.ofChange Rows.statsCountsSpec)) own started (by kernel_rfl) Tryd.func6
    (witness_row_at (enc := enc) (C := Tryd.checked) false (World.doorLaid Tryd.prog 4000 os) #[.agg #[.slice none 0 0, .slice none 0 0, .slice none 0 0]] rfl (by kernel_rfl) (by kernel_rfl) (by kernel_rfl)
      (OpenSpec.preRow_of_cond 8 hx (by kernel_rfl) (fun k hk => by cases hk) (by kernel_rfl) (statsCountsMet os))) ?_
  intro W base args ds gs before hval hW _ hcond hreach hL _ _
  exact statsCountsContract H enc W base args ds gs before hval hW hcond hreach hL
theorem statsCounts_holds : Rows.StatsCountsSaid :=
  OpenClaim.holds_of_cond 6 Tryd.f6 rfl rfl rfl rfl rfl rfl rfl ⟨rfl, rfl, rfl, rfl, rfl⟩ rfl rfl rfl rfl rfl (by kernel_rfl) Tryd.func6 (by kernel_rfl)
    (of_decide_eq_true (by kernel_rfl)) (by unfold Func.isWrapper; first | (rw [if_pos (by decide +kernel)]; kernel_rfl) | (rw [if_neg (by decide +kernel)]; exact ⟨rfl, rfl⟩))
    (fun os started H enc _ F => by rw [OpenClaim.pre_eq_preRow]; exact statsCountsLifted os started H enc F)
theorem statsCountsPlain (f : FuncId) (fn : Func) (hf : Tryd.pinned.checked.prog.funcNamed "cellar/cellarlaw28.StatsCounts" = some f) (hfn : Tryd.pinned.checked.prog.funcs[f]? = some fn) :
    false = Tryd.pinned.checked.prog.looks [] ∧ ∀ (j : Nat) t, fn.params[j]? = some t → Tryd.pinned.checked.prog.wantsStandIn t = false := by
  obtain rfl : f = 6 := Option.some.inj ((show Tryd.prog.funcNamed "cellar/cellarlaw28.StatsCounts" = some 6 by kernel_rfl).symm.trans hf) |>.symm
  obtain rfl : fn = Tryd.f6 := (Option.some.inj (Tryd.func6.symm.trans hfn)).symm
  refine ⟨by kernel_rfl, fun j t ht => ?_⟩
  rw [Tryd.params6] at ht
  have hm : t ∈ [48] := by simpa using Array.mem_of_getElem? ht
  have hall : ([48].all fun u => !Tryd.prog.wantsStandIn u) = true := by kernel_rfl
  exact (show Tryd.prog.wantsStandIn t = false by simpa using List.all_eq_true.1 hall t hm)
theorem statsCountsCard_holds : Rows.StatsCountsCardSaid :=
  Claim7.holds_tied_plain_at .later [] _ _ _ _ statsCounts_holds (fun _ h => by cases h) (by kernel_rfl) (fun _ h => by cases h) statsCounts_row_tie rfl ⟨rfl, rfl⟩ (by kernel_rfl) rfl statsCountsPlain (by kernel_rfl)
end Go.Proofs.YtglidaifbpjpgaaDoor
