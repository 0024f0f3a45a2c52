import Derived.Test.YtdlbmmodlkmofaaDoorPlJ
set_option maxRecDepth 20000
namespace Go.Proofs.YtdlbmmodlkmofaaDoor
open Go Go.Vc Go.RowKit
def isP (page : Int) : T3 → Bool := fun f => f.1 == page
def fateS (rest : Int) (fs : List T3) (page : Int) : T3 := (fs.find? (isP page)).getD (page, rest, 0)
theorem fate19 {w : World} {q : Option Addr} {l c : Nat} {fs : List T3} (step rest page : Int) (h : RE En.t3 w q l fs) (hl : l ≤ 9223372036854775807) :
    Calls Tryd.prog 19 #[.agg #[.int .i64 step, .int .i64 rest, .slice q l c], .int .i64 page] w (Ret fun v w' => v = .agg (En.t3.enc (fateS rest fs page)).toArray ∧ Chg none_ w w') := by
  refine f19.calls _ _ _ _ _ _ ?_
  unfold f19.wp
  have hlen := h.len
  refine newBox fun w1 B1 k1 _ => newBox fun w2 B2 k2 _ => ⟨_, _, _, ((k2.blk B1 (fun x => x)).cell0 2).trans rfl, ?_⟩
  have k02 := k1.trans k2
  have hw1 := k1.size
  have hout : ∀ {w' : World}, Chg none_ w2 w' → Blk w' w1.heap.size 44 #[.int .i64 0, .int .i64 0, .int .i64 0] := fun k => k.blk B2 (fun x => x)
  refine ⟨fun x w' => ∃ i : Nat, x = i ∧ i ≤ l ∧ Chg none_ w2 w' ∧ ∀ j g, j < i → fs[j]? = some g → isP page g = false, fun x _ => l - x.toNat, ⟨0, rfl, Nat.zero_le _, Chg.refl _ _, fun j g hj => by omega⟩, ?_⟩
  rintro x w3 ⟨i, rfl, hi, k3, hin⟩
  refine bc (fun hlt => ?_) (fun hge => ?_)
  · have hi' : i < l := by simpa using hlt
    obtain ⟨a, f, rfl, hf, hr⟩ := (h.chg (k02.trans k3)).ex hi'
    rw [wrapS (x := (i : Int) + 1) (by omega) (by omega)]
    refine onPtr_mk ⟨by omega, by omega, _, _, _, hr, boxed rfl rfl fun w5 B5 k5 _ => ?_⟩
    have k35 := k3.trans k5
    refine ⟨_, (B5.cell 0).trans rfl, bc (fun h1 => ?_) (fun h1 => ⟨⟨i + 1, by omega, hi', k35, fun j g hj hg => ?_⟩, meas hi'⟩)⟩
    · refine ⟨_, _, _, B5.reads0, (hout k35).canStore (by show 0 + 3 ≤ 3; decide), fun w6 e6 => ⟨_, _, _, (over3 (hout k35) rfl e6).reads0, ?_, (k02.trans k35).sets' e6 (.inr hw1)⟩⟩
      rw [fateS, find_at hf (by simpa [isP] using h1) hin]
      rfl
    · rcases Nat.lt_or_ge j i with h2 | h2
      · exact hin j g h2 hg
      · have : j = i := by omega
        subst this
        rw [hf] at hg; cases hg
        exact h1
  · have hge : ¬ i < l := by simpa using hge
    refine ⟨_, (((k2.trans k3).blk B1 (fun x => x)).cell0 1).trans rfl, (hout k3).canStore (by show 0 + 3 ≤ 3; decide), fun w6 e6 => ⟨_, _, _, (over3 (x := (page, rest, 0)) (hout k3) rfl e6).reads0, ?_, ?_⟩⟩
    · rw [fateS, find_no fun j g hg => hin j g (by have := get_lt hg; omega) hg]
      rfl
    · exact (k02.trans k3).sets' e6 (.inr hw1)
theorem fateOf50 {w : World} {q : Option Addr} {l c : Nat} {fs : List T3} (page : Int) (h : RE En.t3 w q l fs) (hl : l ≤ 9223372036854775807) :
    Calls Tryd.prog 50 #[.slice q l c, .int .i64 page] w (Ret fun v w' => v = .tuple #[.agg (En.t3.enc (orNo (fs.find? (isP page)) (0, 0, 0)).1).toArray, .bool (orNo (fs.find? (isP page)) (0, 0, 0)).2] ∧ Chg none_ w w') := by
  refine f50.calls _ _ _ _ ?_
  unfold f50.wp
  have hlen := h.len
  refine newBox fun w2 B2 k02 _ => ?_
  have hout : ∀ {w' : World}, Chg none_ w2 w' → Blk w' w.heap.size 44 #[.int .i64 0, .int .i64 0, .int .i64 0] := fun k => k.blk B2 (fun x => x)
  refine ⟨fun x w' => ∃ i : Nat, x = i ∧ i ≤ l ∧ Chg none_ w2 w' ∧ ∀ j g, j < i → fs[j]? = some g → isP page g = false, fun x _ => l - x.toNat, ⟨0, rfl, Nat.zero_le _, Chg.refl _ _, fun j g hj => by omega⟩, ?_⟩
  rintro x w3 ⟨i, rfl, hi, k3, hin⟩
  refine bc (fun hlt => ?_) (fun hge => ?_)
  · have hi' : i < l := by simpa using hlt
    obtain ⟨a, f, rfl, hf, hr⟩ := (h.chg (k02.trans k3)).ex hi'
    rw [wrapS (x := (i : Int) + 1) (by omega) (by omega)]
    refine onPtr_mk ⟨by omega, by omega, _, _, _, hr, boxed rfl rfl fun w5 B5 k5 _ => ?_⟩
    have k35 := k3.trans k5
    refine ⟨_, (B5.cell 0).trans rfl, bc (fun h1 => ?_) (fun h1 => ⟨⟨i + 1, by omega, hi', k35, fun j g hj hg => ?_⟩, meas hi'⟩)⟩
    · refine ⟨_, _, _, B5.reads0, (hout k35).canStore (by show 0 + 3 ≤ 3; decide), fun w6 e6 => ⟨_, _, _, (over3 (hout k35) rfl e6).reads0, ?_, (k02.trans k35).sets' e6 (.inr (Nat.le_refl _))⟩⟩
      rw [find_at hf (by simpa [isP] using h1) hin]
      rfl
    · rcases Nat.lt_or_ge j i with h2 | h2
      · exact hin j g h2 hg
      · have : j = i := by omega
        subst this
        rw [hf] at hg; cases hg
        exact h1
  · have hge : ¬ i < l := by simpa using hge
    refine ⟨(hout k3).canStore (by show 0 + 3 ≤ 3; decide), fun w6 e6 => ⟨_, _, _, (over3 (x := (0, 0, 0)) (hout k3) rfl e6).reads0, ?_, (k02.trans k3).sets' e6 (.inr (Nat.le_refl _))⟩⟩
    rw [find_no fun j g hg => hin j g (by have := get_lt hg; omega) hg]
    rfl
theorem fate20 {w : World} {q : Option Addr} {l c : Nat} {fs : List T3} (step rest page : Int) (h : RE En.t3 w q l fs) (hl : l ≤ 9223372036854775807) :
    Calls Tryd.prog 20 #[.agg #[.int .i64 step, .int .i64 rest, .slice q l c], .int .i64 page] w (Ret fun v w' => v = .agg (En.t3.enc (fateS rest fs page)).toArray ∧ Chg none_ w w') := by
  refine f20.calls _ _ _ _ _ _ ?_
  unfold f20.wp
  refine newBox fun w1 B1 k1 _ => newBox fun w2 B2 k2 _ => ⟨_, _, _, ((k2.blk B1 (fun x => x)).cell0 2).trans rfl, Calls.use (fateOf50 page (h.chg (k1.trans k2)) hl) ?_⟩
  rintro _ w3 ⟨rfl, k3⟩
  have k13 := k2.trans k3
  have k03 := k1.trans k13
  have hw1 := k1.size
  refine ⟨_, _, _, _, rfl, boxed rfl rfl fun w5 B5 k5 _ => ?_⟩
  have O5 : Blk w5 w1.heap.size 44 #[.int .i64 0, .int .i64 0, .int .i64 0] := (k3.trans k5).blk B2 (fun x => x)
  have k05 := k03.trans k5
  cases hf : fs.find? (isP page) with
  | some f =>
    rw [hf] at B5
    refine bcT rfl ⟨_, _, _, B5.reads0, O5.canStore (by show 0 + 3 ≤ 3; decide), fun w6 e6 => ⟨_, _, _, (over3 (x := f) O5 rfl e6).reads0, ?_, k05.sets' e6 (.inr hw1)⟩⟩
    rw [fateS, hf]; rfl
  | none =>
    refine bcF rfl ⟨_, (((k13.trans k5).blk B1 (fun x => x)).cell0 1).trans rfl, O5.canStore (by show 0 + 3 ≤ 3; decide), fun w6 e6 => ⟨_, _, _, (over3 (x := (page, rest, 0)) O5 rfl e6).reads0, ?_, k05.sets' e6 (.inr hw1)⟩⟩
    rw [fateS, hf]; rfl
theorem asks5 {w : World} {q1 q2 : Option Addr} {l1 c1 l2 c2 : Nat} {fs : List T3} {cs : List Cr} (op nth : Int) (h1 : RE En.t3 w q1 l1 fs) (h2 : CrsR w q2 l2 cs) (hl1 : l1 ≤ 9223372036854775807) (hl2 : l2 ≤ 9223372036854775807) :
    Calls Tryd.prog 5 #[.agg #[.slice q1 l1 c1, .slice q2 l2 c2], .int .i64 op, .int .i64 nth] w (Ret fun v w' => v = .bool true ∧ Chg none_ w w') := by
  refine f5.calls _ _ _ _ _ _ _ _ ?_
  unfold f5.wp
  have e2 := h2.len
  refine newBox fun w1 B1 k1 _ => Calls.use (awake12 w1) ?_
  rintro _ w2 ⟨rfl, k2⟩
  have B2 := k2.blk B1 (fun x => x)
  have k02 := k1.trans k2
  refine ⟨_, rfl, bcF rfl ⟨_, _, _, _, _, _, B2.reads0, Calls.use (faulty17 op nth (h1.chg k02) hl1) ?_⟩⟩
  rintro _ w3 ⟨rfl, k3⟩
  refine ⟨_, _, _, _, rfl, boxed rfl rfl fun w5 B5 k5 _ => ?_⟩
  have k25 := k3.trans k5
  have k05 := k02.trans k25
  refine ⟨_, _, _, _, _, _, (k25.blk B2 (fun x => x)).reads0, Calls.use (faulty18 op nth (h1.chg k05) hl1) ?_⟩
  rintro _ w6 ⟨rfl, k6⟩
  refine ⟨_, _, _, _, rfl, boxed rfl rfl fun w8 B8 k8 _ => ?_⟩
  have k58 := k6.trans k8
  have k08 := k05.trans k58
  have P8 := (k25.trans k58).blk B2 (fun x => x)
  refine ⟨_, _, _, (k58.blk B5 (fun x => x)).reads0, _, _, _, B8.reads0, bcF (by simp) (bcF (by simp) ⟨_, _, _, (P8.cell0 1).trans rfl, ?_⟩)⟩
  refine ⟨fun x w' => ∃ i : Nat, x = i ∧ i ≤ l2 ∧ Chg none_ w w', fun x _ => l2 - x.toNat, ⟨0, rfl, Nat.zero_le _, k08⟩, ?_⟩
  rintro x w9 ⟨i, rfl, hi, k9⟩
  refine bc (fun hlt => ?_) (fun hge => ⟨rfl, k9⟩)
  have hi' : i < l2 := by simpa using hlt
  obtain ⟨a, u, y, rfl, hy, hr, _, _, hf, hub, huc⟩ := (h2.chg k9).at' hi'
  obtain ⟨us, ur, uq, ul, uc⟩ := u
  simp only at hf hub huc
  have hul : ul ≤ 9223372036854775807 := by omega
  rw [wrapS (x := (i : Int) + 1) (by omega) (by omega)]
  refine onPtr_mk ⟨by omega, by omega, _, _, _, _, _, hr, boxed rfl rfl fun w11 B11 k11 _ => ?_⟩
  have C := B11.drew
  have k11' := k11.drew
  generalize w11.drew = w11' at *
  have hK : ∀ j : Nat, j < 3 → (fun p : Addr => p.block < w11'.heap.size) ((⟨w9.heap.size, 0, none⟩ : Addr).add j) := fun j _ => by
    show (Addr.add _ _).block < _
    rw [add_block]; exact C.lt
  refine ⟨fun p => p.block < w11'.heap.size, _, _, _, _, _, hK, C.reads0, _, _, _, _, _, hK, C.reads0, Calls.use (fate19 us ur op (hf.chg k11') hul) ?_⟩
  rintro _ w12 ⟨rfl, k12⟩
  refine ⟨_, _, _, rfl, k12.keeps, Calls.use (fate20 us ur op (hf.chg (k11'.trans k12)) hul) ?_⟩
  rintro _ w13 ⟨rfl, k13⟩
  have k113 := k12.trans k13
  refine ⟨_, _, _, rfl, k113.keeps, bcF (by simp) ⟨_, _, _, _, _, hK, C.reads0, _, _, _, _, _, hK, C.reads0, Calls.use (fate19 us ur nth (hf.chg (k11'.trans k113)) hul) ?_⟩⟩
  rintro _ w14 ⟨rfl, k14⟩
  have k114 := k113.trans k14
  refine ⟨_, _, _, rfl, k114.keeps, Calls.use (fate20 us ur nth (hf.chg (k11'.trans k114)) hul) ?_⟩
  rintro _ w15 ⟨rfl, k15⟩
  have k115 := k114.trans k15
  have C15 := k115.blk C (fun x => x)
  have f15 := hf.chg (k11'.trans k115)
  have k015 := k9.trans (k11'.trans k115)
  have fl := f15.len
  refine ⟨_, _, _, rfl, bcF (by simp) ⟨_, _, _, (C15.cell0 2).trans rfl, fun x w' => ∃ i : Nat, x = i ∧ i ≤ ul ∧ Chg none_ w15 w', fun x _ => ul - x.toNat, ⟨0, rfl, Nat.zero_le _, Chg.refl _ _⟩, ?_⟩⟩
  rintro x w16 ⟨j, rfl, hj, k16⟩
  refine bc (fun hlt => ?_) (fun hge => ⟨⟨i + 1, by omega, hi', k015.trans k16⟩, meas hi'⟩)
  have hj' : j < ul := by simpa using hlt
  obtain ⟨b, f, rfl, _, hrf⟩ := (f15.chg k16).ex hj'
  rw [wrapS (x := (j : Int) + 1) (by omega) (by omega)]
  refine onPtr_mk ⟨by omega, (show (j : Int) < (ul : Int) by omega), _, _, _, hrf, boxed rfl rfl fun w18 B18 k18 _ => ?_⟩
  have F := B18.drew
  have k18' := k18.drew
  generalize w18.drew = w18' at *
  have k1518 := k16.trans k18'
  have C18 := k1518.blk C15 (fun x => x)
  have hK2 : ∀ j : Nat, j < 3 → (fun p : Addr => p.block < w18'.heap.size) ((⟨w9.heap.size, 0, none⟩ : Addr).add j) := fun j _ => by
    show (Addr.add _ _).block < _
    rw [add_block]; exact C18.lt
  refine ⟨fun p => p.block < w18'.heap.size, _, _, _, _, _, hK2, C18.reads0, _, F.lt, (F.cell 0).trans rfl, _, _, _, _, _, hK2, C18.reads0, _, F.lt, (F.cell 0).trans rfl, Calls.use (fate19 us ur f.1 (f15.chg k1518) hul) ?_⟩
  rintro _ w19 ⟨rfl, k19⟩
  refine ⟨_, _, _, rfl, k19.keeps, Calls.use (fate20 us ur f.1 (f15.chg (k1518.trans k19)) hul) ?_⟩
  rintro _ w20 ⟨rfl, k20⟩
  exact ⟨_, _, _, rfl, bcF (by simp) ⟨⟨j + 1, by omega, hj', k1518.trans (k19.trans k20)⟩, meas hj'⟩⟩
end Go.Proofs.YtdlbmmodlkmofaaDoor
