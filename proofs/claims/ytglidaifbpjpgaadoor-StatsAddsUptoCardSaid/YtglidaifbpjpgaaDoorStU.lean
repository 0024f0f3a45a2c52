import Derived.Test.YtglidaifbpjpgaaDoorStS
set_option maxRecDepth 20000
namespace Go.Proofs.YtglidaifbpjpgaaDoor
namespace Mo
open Go Go.Vc Go.RowKit
def atV (x : Nat × Option Nat) : Int := x.1
def whV (x : Nat × Option Nat) : Int := match x.2 with
  | none => -1
  | some j => (j : Int)
theorem life13 {w : World} {qc qe qa qu : Option Addr} {lc le la lu cc ce ca cu : Nat} {cs : List (List Cl)} {es : List Ev} {ans : List (List An)} {life base steps j1 j2 j3 j4 j5 j6 j7 j8 j9 j10 j11 j12 : Int} {b1 b2 : Bool}
    (hcs : RR En.cl w qc lc cs) (hes : RE En.ev w qe le es) (has : RR En.an w qa la ans) (hlc : lc ≤ 1048576) (hle : le ≤ 1048576) (hb0 : 0 ≤ base) (hb : base ≤ 1125899906842624) :
    Calls Tryd.prog 62 #[.slice qc lc cc, .agg #[.slice qe le ce, .slice qa la ca, .int .i64 steps, .bool b1, .int .u64 j1, .int .u64 j2, .int .u64 j3, .int .i64 j4, .int .i64 j5, .int .i64 j6, .int .i64 j7, .bool b2, .int .i64 j8, .int .i64 j9, .int .i64 j10, .int .i64 j11, .int .i64 j12, .slice qu lu cu], .int .i64 life, .int .i64 base] w
      (Ret (LifeR ⟨false, kpR, life, base, steps, cs, ans⟩ es w)) := by
  obtain ⟨p, hp⟩ : ∃ p : P, p = ⟨false, kpR, life, base, steps, cs, ans⟩ := ⟨_, rfl⟩
  rw [← hp]
  have pcs : p.cs = cs := by rw [hp]
  have pas : p.as = ans := by rw [hp]
  have pst : p.steps = steps := by rw [hp]
  have pstr : p.strict = false := by rw [hp]
  have pkp : p.kp = kpR := by rw [hp]
  have plf : p.life = life := by rw [hp]
  have pbs : p.base = base := by rw [hp]
  clear hp
  have ecs := hcs.len
  have eas := has.len
  have ees := hes.len
  have bad : ∀ w', Chg none_ w w' → lifeX p es = none → LifeR p es w (.tuple #[.slice none 0 0, .bool false]) w' := fun w' k h => ⟨k, .inr ⟨rfl, h⟩⟩
  refine f62.calls _ _ _ _ _ _ _ _ _ _ _ _ _ _ _ _ _ _ _ _ _ _ _ _ _ _ _ _ _ ?_
  unfold f62.wp
  refine newBox fun w1 B1 k1 s1 => ?_
  refine ⟨steps, (B1.cell0 2).trans rfl, bc (fun h => bad _ k1 ?_) fun g1 => ⟨steps, (B1.cell0 2).trans rfl, bc (fun h => bad _ k1 ?_) fun g2 => ⟨qa, la, ca, (B1.cell0 1).trans rfl, bc (fun h => bad _ k1 ?_) fun g3 => ⟨by omega, by omega, by omega, by omega, fun w2 e2 => ⟨by omega, by omega, by omega, by omega, fun w3 e3 => ?_⟩⟩⟩⟩⟩
  · unfold lifeX; rw [if_pos (by rw [pst]; simp at h; omega)]
  · unfold lifeX; rw [if_pos (by rw [pst]; simp at h; omega)]
  · unfold lifeX; rw [if_pos (by rw [pas, pcs]; simp at h; omega)]
  simp at g1 g2 g3
  have e4 : la = lc := by omega
  subst e4
  have life_none : runX p es (S0 la) = none → lifeX p es = none := fun h => lifeX_none (by rw [pcs, ecs]; exact h)
  have life_some : ∀ s, runX p es (S0 la) = some s → lifeX p es = if doneX p.as s.ss then some s.out else none := fun s h => by
    unfold lifeX
    rw [if_neg (by rw [pst, pas, pcs]; omega), pcs, ecs, h]
  have B2 : Blk w2 w1.heap.size 3 (madeCells #[.int .i64 0] (la * En.int.k)) := by
    have := new_blk e2
    simpa [En.int] using this
  have k2 : Chg none_ w1 w2 := (Chg.refl _ _).new' e2
  have s2 := new_size e2
  have S2 : SE En.int w2 w1.heap.size 3 (some ⟨w1.heap.size, 0, none⟩) la la (List.replicate la 0) := SE.made B2 rfl (Nat.le_refl _) (by simp only [maxLen]; omega)
  have B3 : Blk w3 w2.heap.size 3 (madeCells #[.int .i64 0] (la * En.int.k)) := by
    have := new_blk e3
    simpa [En.int] using this
  have k3 : Chg none_ w2 w3 := (Chg.refl _ _).new' e3
  have s3 := new_size e3
  have S3 : SE En.int w3 w2.heap.size 3 (some ⟨w2.heap.size, 0, none⟩) la la (List.replicate la 0) := SE.made B3 rfl (Nat.le_refl _) (by simp only [maxLen]; omega)
  refine ⟨fun x w4 => ∃ k : Nat, x = (k : Int) ∧ k ≤ la ∧ Chg none_ w2 w4 ∧ w3.heap.size ≤ w4.heap.size ∧ ∃ bs, SE En.int w4 w2.heap.size 3 (some ⟨w2.heap.size, 0, none⟩) la la bs ∧ ∀ t, t < k → bs[t]? = some (-1), fun x _ => la - x.toNat, ⟨0, rfl, by omega, k3, Nat.le_refl _, _, S3, fun t ht => by omega⟩, ?_⟩
  rintro _ w4 ⟨k, rfl, hk, k4, z4, bs, S4, hbs⟩
  refine bc (fun h => ?_) fun h => ?_
  · have hkl : k < la := by simp at h; omega
    clear h
    obtain ⟨a, ha, hcan⟩ := S4.can hkl
    cases ha
    refine ⟨by omega, by simp; omega, ?_, fun w5 e5 => ?_⟩
    · have := hcan 0 1 (by decide)
      rwa [add_zero'] at this
    · obtain ⟨S5, k5⟩ := S4.set rfl (x' := -1) hkl e5
      rw [wrapN (by omega)]
      refine ⟨⟨k + 1, rfl, by omega, k4.up k5 fun g hg => by simp [qB] at hg; omega, by have := k5.size; omega, _, S5, fun t ht => ?_⟩, by simp only [Int.toNat_natCast]; omega⟩
      rw [List.getElem?_set]
      split
      · rw [if_pos (by rw [S4.len]; omega)]
      · exact hbs t (by omega)
  have hkl : k = la := by simp at h; omega
  subst hkl
  clear h
  have ew : bs = (S0 k).ss.map whV := by
    apply List.ext_getElem?
    intro t
    rcases Nat.lt_or_ge t k with ht | ht
    · rw [hbs t ht]; simp [S0, ht, whV]
    · rw [List.getElem?_eq_none (by rw [S4.len]; exact ht), List.getElem?_eq_none (by simp [S0]; exact ht)]
  rw [ew] at S4
  have ea : List.replicate k (0 : Int) = (S0 k).ss.map atV := by simp [S0, atV]
  rw [ea] at S2
  have k02 := k1.trans k2
  refine ⟨qe, le, ce, (((k2.trans k4).blk B1 (fun x => x)).cell 0).trans rfl, ?_⟩
  refine ⟨fun q5 l5 c5 x2 x4 w6 => ∃ (i : Nat) (s : S), x4 = (i : Int) ∧ i ≤ le ∧ x2 = s.last ∧ runX p (es.drop i) s = runX p es (S0 k) ∧ Good p s ∧ SE En.int w6 w1.heap.size 3 (some ⟨w1.heap.size, 0, none⟩) k k (s.ss.map atV) ∧ SE En.int w6 w2.heap.size 3 (some ⟨w2.heap.size, 0, none⟩) k k (s.ss.map whV) ∧ SE En.mv w6 w3.heap.size 96 q5 l5 c5 s.out ∧ s.out.length ≤ i ∧ (∀ (t : Nat) (x : Nat × Option Nat), s.ss[t]? = some x → x.1 ≤ i) ∧ Chg none_ w1 w6 ∧ w3.heap.size ≤ w6.heap.size,
    fun _ _ _ _ x4 _ => le - x4.toNat, ⟨0, S0 k, rfl, by omega, rfl, by rw [List.drop_zero], by rw [← ecs, ← pcs]; exact Good.zero p, S2.chgN k4, S4, SE.nil _ _ _ _, by simp [S0], fun t x h => by simp [S0, List.getElem?_replicate] at h; rw [← h.2]; exact Nat.le_refl _, k2.trans k4, z4⟩, ?_⟩
  rintro q5 l5 c5 _ _ w6 ⟨i, s, rfl, hi, rfl, hrun, hG, Sa, Sw, So, hol, hnb, k6, z6⟩
  have hss := hG.len
  rw [pcs, ecs] at hss
  have hol' := So.len
  refine bc (fun h => ?_) fun h => ?_
  · have hil : i < le := by simp at h; omega
    clear h
    obtain ⟨a1, e, ha1, he, hr⟩ := (hes.chg (k1.trans k6)).ex hil
    subst ha1
    have none_at : stepX p s e = none → lifeX p es = none := fun h => by
      have := runX_none he h
      rw [hrun] at this
      exact life_none this
    refine onPtr_mk ⟨by omega, by omega, e.step, e.task, e.call, e.ret, hr, boxed rfl rfl fun w8 B8 k8 s8 => ?_⟩
    have B8d := B8.drew
    have k28 : Chg none_ w1 w8.drew := (k6.trans k8).drew
    have k08 := k1.trans k28
    have T8 := k28.blk B1 (fun x => x)
    have bd : stepX p s e = none → LifeR p es w (.tuple #[.slice none 0 0, .bool false]) w8.drew := fun h => bad _ k08 (none_at h)
    refine ⟨e.step, (B8d.cell 0).trans rfl, bc (fun h => bd (stepX_none1 (.inl (by simpa using h)))) fun h1 => ⟨e.step, (B8d.cell 0).trans rfl, steps, (T8.cell0 2).trans rfl, bc (fun h => bd (stepX_none1 (.inr (.inl (by rw [pst]; simpa using h))))) fun h2 => ⟨e.task, (B8d.cell0 1).trans rfl, bc (fun h => bd (stepX_none1 (.inr (.inr (by simpa using h))))) fun h3 => ?_⟩⟩⟩
    simp at h1 h2 h3
    obtain ⟨t, ht⟩ : ∃ t : Nat, e.task = (t : Int) := ⟨e.task.toNat, by omega⟩
    have ct : w8.drew.cell? ((⟨w6.heap.size, 0, none⟩ : Addr).add 1) = some (.int .i64 (t : Int)) := (B8d.cell0 1).trans (by rw [← ht]; rfl)
    refine ⟨(t : Int), ct, bc (fun h => bd (stepX_none2 (by rw [ht]; exact List.getElem?_eq_none (by simp at h ⊢; omega)))) fun h4 => ?_⟩
    have htk : t < k := by simp at h4; omega
    clear h4
    obtain ⟨x, hx⟩ := get_ex (l := s.ss) (i := t) (by omega)
    obtain ⟨a2, hd2, calls, ha2, hcalls, hcell2, hre2⟩ := (hcs.chg k08).at' htk
    obtain ⟨a3, hd3, anss, ha3, hanss, hcell3, hre3⟩ := (has.chg k08).at' htk
    subst ha2
    subst ha3
    have hnx := hnb t x hx
    have hcl := hre2.len
    have hal := hre3.len
    have st : stepX p s e = stepC p s e t x.1 x.2 calls anss := stepX_at (by omega) (by rw [pst]; omega) ht hx (by rw [pcs]; exact hcalls) (by rw [pas]; exact hanss)
    have ra : ∀ {w' : World}, Chg none_ w6 w' → w'.cell? ((⟨w1.heap.size, 0, none⟩ : Addr).add (t * 1)) = some (.int .i64 (x.1 : Int)) := fun k => by
      obtain ⟨a, ha, hr⟩ := (Sa.chgN k).re.get t (atV x) (by simp [hx])
      cases ha
      have := reads_one' hr
      exact this
    have rw' : ∀ {w' : World}, Chg none_ w6 w' → w'.cell? ((⟨w2.heap.size, 0, none⟩ : Addr).add (t * 1)) = some (.int .i64 (whV x)) := fun k => by
      obtain ⟨a, ha, hr⟩ := (Sw.chgN k).re.get t (whV x) (by simp [hx])
      cases ha
      have := reads_one' hr
      exact this
    have k6d : Chg none_ w6 w8.drew := k8.drew
    refine ⟨e.call, (B8d.cell0 2).trans rfl, (t : Int), ct, by omega, by simp; omega, (x.1 : Int), ra k6d, bc (fun h => bd ?_) fun h5 => ⟨e.call, (B8d.cell0 2).trans rfl, (t : Int), ct, onPtr_mk ⟨by omega, by omega, hd2.1, hd2.2.1, hd2.2.2, hcell2, bc (fun h => bd ?_) fun h6 => ?_⟩⟩⟩
    · rw [st]; unfold stepC; rw [if_pos (by simpa using h)]
    · rw [st]; unfold stepC
      rw [List.getElem?_eq_none (by simp at h5 h; omega)]
      split <;> rfl
    simp at h5 h6
    refine ⟨e.step, (B8d.cell 0).trans rfl, e.ret, (B8d.drew.cell0 3).trans rfl, (t : Int), ct, by omega, by simp; omega, whV x, rw' k6d.drew, bc (fun h => bad _ k08.drew (none_at ?_)) fun h7 => ?_⟩
    · rw [st]; unfold stepC
      rw [if_neg (by omega)]
      obtain ⟨c, hc⟩ := get_ex (l := calls) (i := x.1) (by omega)
      rw [hc]
      cases hr : e.ret <;> cases hy : x.2
      · simp [hr, whV, hy] at h
      · rfl
      · rfl
      · rename_i j
        simp [hr, whV, hy] at h
    have hlast := hG.last
    have hwr : IntKind.wrap .i64 (base + e.step) = base + e.step := wrapS (by omega) (by omega)
    have B8t := B8d.drew.drew
    have k6t : Chg none_ w6 w8.drew.drew.drew := k6d.drew.drew
    have hwh : e.ret = decide (whV x ≥ 0) := by simpa using h7
    have c1 := (T8.drew.drew).cell0 1
    have c2 : w8.drew.drew.drew.cell? ((⟨w6.heap.size, 0, none⟩ : Addr).add 1) = some (.int .i64 (t : Int)) := ct
    have c3 : w8.drew.drew.drew.cell? ((⟨w6.heap.size, 0, none⟩ : Addr).add 2) = some (.int .i64 (x.1 : Int)) := (B8t.cell0 2).trans (by rw [← h5]; rfl)
    have z8 := k8.size
    refine ⟨e.ret, (B8d.drew.cell0 3).trans rfl, bc (fun g => ?_) fun g => ?_⟩
    · have hret : e.ret = false := by simpa using g
      have hnone : x.2 = none := by
        cases hy : x.2 with
        | none => rfl
        | some j => rw [hret] at hwh; unfold whV at hwh; rw [hy] at hwh; simp at hwh
      obtain ⟨a5, cl, ha5, hcl5, hrcl⟩ := hre2.ex (i := x.1) (by omega)
      have stp : stepX p s e = some ⟨s.ss.set t (x.1, some s.out.length), s.out ++ [begM kpR cl life (base + e.step)], e.step, e.step⟩ := by
        rw [st]
        unfold stepC
        rw [if_neg (by omega), hcl5, hret, hnone]
        simp only
        rw [if_neg (by rw [pstr]; simp), pkp, plf, pbs]
      refine ⟨fun p => p.block < w8.drew.drew.drew.heap.size, (t : Int), cell_some c2, c2, onPtr_mk ⟨by omega, by omega, some a5, hd2.2.1, hd2.2.2, cell_some hcell2, by rw [← ha5]; exact hcell2, (x.1 : Int), cell_some c3, c3, onPtr_mk ⟨by omega, by omega, cl.kind, cl.key, cl.val, fun i _ => reads_block hrcl i, hrcl, newBox fun w19 B19 k19 s19 => ⟨k19.keeps, B19.store rfl rfl fun w20 B20 k20 s20 => ?_⟩⟩⟩⟩
      have k920 : Chg none_ w8.drew.drew.drew w20 := k19.up k20 fun g hg => by omega
      have k620 : Chg none_ w6 w20 := k6t.trans k920
      have z9 : w8.drew.drew.drew.heap.size = w8.heap.size := rfl
      have z20 := k920.size
      have E20 := k920.blk B8t (fun x => x)
      refine ⟨cl.kind, (B20.cell 0).trans rfl, cl.key, (B20.cell0 1).trans rfl, e.step, (E20.cell 0).trans rfl, ?_⟩
      rw [hwr]
      refine boxed rfl rfl fun w22 B22 k22 s22 => ?_
      have ne1 : ¬ w8.drew.drew.drew.heap.size = w20.heap.size := by omega
      have ne2 : ¬ w6.heap.size = w20.heap.size := by omega
      refine ⟨fun w23 => Chg none_ w20 w23 ∧ Blk w23 w20.heap.size 96 (mvC ⟨cl.kind, cl.key, if cl.kind == 2 then cl.val else e0, 0, false, life, base + e.step, -1⟩), ?_, cl.kind, ((k22.blk B20 (fun x => x)).cell 0).trans rfl, bc (fun g => ⟨cl.val, ((k22.blk B20 (fun x => x)).cell0 2).trans rfl, B22.canStore0 (Nat.le_of_ble_eq_true rfl), fun w25 e25 => ?_⟩) fun g => ⟨k22, ?_⟩⟩
      · rintro w23 ⟨k23, M23⟩
        have C23 := k23.blk B20 (fun x => x)
        refine ⟨fun w26 => Chg none_ w20 w26 ∧ Blk w26 w20.heap.size 96 (mvC (begM kpR cl life (base + e.step))), ?_, cl.kind, (C23.cell 0).trans rfl, bc (fun g => ⟨M23.canStore0 (Nat.le_of_ble_eq_true rfl), fun w27 e27 => ?_⟩) fun g => ⟨cl.kind, (C23.cell 0).trans rfl, bc (fun g' => ⟨M23.canStore0 (Nat.le_of_ble_eq_true rfl), fun w27 e27 => ?_⟩) fun g' => ⟨k23, ?_⟩⟩⟩
        · rintro w26 ⟨k26, M26⟩
          have k626 := k620.trans k26
          have E26 := k26.blk E20 (fun x => x)
          have Sw26 := Sw.chgN k626
          obtain ⟨a7, ha7, hcan⟩ := Sw26.can htk
          cases ha7
          refine ⟨(t : Int), (E26.cell0 1).trans (by rw [← ht]; rfl), by omega, by simp; omega, ?_, fun w28 e28 => ?_⟩
          · have := hcan 0 1 (by decide)
            rwa [add_zero'] at this
          obtain ⟨Sw28, k28'⟩ := Sw26.set rfl (x' := (l5 : Int)) htk e28
          have M28 := k28'.blk M26 (fun h => by simp [qB] at h; omega)
          have So28 := (So.chgN k626).chg k28' (fun g hg h => by simp [qB] at h; have := (So.lt hg).2; omega)
          have Sa28 := (Sa.chgN k626).chg k28' (fun g hg h => by simp [qB] at h hg; omega)
          have kk28 : Chg none_ w1 w28 := (k6.trans k626).up k28' fun g hg => by simp [qB] at hg; omega
          refine ⟨_, _, _, _, _, _, _, _, M28.reads0, newBox fun w29 B29 k29 s29 => ?_⟩
          have kk29 := kk28.trans k29
          have z29 := kk29.size
          have z626 := k626.size
          have z28 := k28'.size
          have z2829 := k29.size
          obtain ⟨q15, c15, w30, hrun30, So30, k30, hq30, _⟩ := (So28.chgN k29).append1 (t := 27) (ty := 27) (x := begM kpR cl life (base + e.step)) elemMove B29 (by simp only [maxLen]; omega) (by omega) (by omega)
          have nq : ∀ b, b < w3.heap.size → ∀ g, qB (some (⟨b, 0, none⟩ : Addr)) = some g → ¬ some g = qB q5 := fun b hb g hg h => by
            simp [qB] at hg
            have := (So.lt h.symm).2
            omega
          have Sw30 := (Sw28.chgN k29).chg k30 (nq _ (by omega))
          have Sa30 := (Sa28.chgN k29).chg k30 (nq _ (by omega))
          rw [wrapN (by omega)]
          refine ⟨q15, _, c15, w30, hrun30, ⟨i + 1, ⟨s.ss.set t (x.1, some s.out.length), s.out ++ [begM kpR cl life (base + e.step)], e.step, e.step⟩, rfl, by omega, rfl, (runX_some he stp).symm.trans hrun, hG.beg (by omega), ?_, ?_, So30, by simp; omega, fun t' x' h => ?_, kk29.up k30 fun g hg => by have := (So.lt hg.symm).2; omega, by have := k30.size; omega⟩, by simp only [Int.toNat_natCast]; omega⟩
          · show SE En.int w30 w1.heap.size 3 _ k k ((s.ss.set t (x.1, some s.out.length)).map atV)
            rw [List.map_set, show atV (x.1, some s.out.length) = atV x from rfl, set_same (by simp [hx])]
            exact Sa30
          · show SE En.int w30 w2.heap.size 3 _ k k ((s.ss.set t (x.1, some s.out.length)).map whV)
            rw [List.map_set, show whV (x.1, some s.out.length) = (l5 : Int) by show ((s.out.length : Nat) : Int) = _; omega]
            exact Sw30
          simp only [List.getElem?_set] at h
          split at h
          · split at h
            · cases h; show x.1 ≤ i + 1; omega
            · cases h
          · have := hnb t' x' h; omega
        · obtain ⟨M27, k27⟩ := M23.put e27
          refine ⟨k23.up k27 fun g hg => by omega, ?_⟩
          unfold begM kpR
          rw [if_neg (by rw [g]; simp)]
          exact M27
        · obtain ⟨M27, k27⟩ := M23.put e27
          refine ⟨k23.up k27 fun g hg => by omega, ?_⟩
          unfold begM kpR
          rw [if_neg (by rw [g']; simp)]
          exact M27
        · unfold begM kpR
          rw [if_pos (by rw [g, g']; rfl)]
          exact M23
      · obtain ⟨M25, k25⟩ := B22.put e25
        refine ⟨k22.up k25 fun g hg => by omega, ?_⟩
        rw [if_pos g]
        exact M25
      · rw [if_neg (by rw [g]; simp)]
        exact B22
    · have hret : e.ret = true := by simpa using g
      obtain ⟨j, hj⟩ : ∃ j, x.2 = some j := by
        cases hy : x.2 with
        | none => rw [hret] at hwh; unfold whV at hwh; rw [hy] at hwh; simp at hwh
        | some j => exact ⟨j, rfl⟩
      have hwj : whV x = (j : Int) := by unfold whV; rw [hj]
      refine ⟨(x.1 : Int), c3, _, k, ca, c1.trans rfl, (t : Int), c2, onPtr_mk ⟨by omega, by omega, hd3.1, hd3.2.1, hd3.2.2, hcell3, bc (fun h8 => bad _ k08.drew.drew (none_at ?_)) fun h8 => ?_⟩⟩
      · rw [st]; unfold stepC
        rw [if_neg (by omega)]
        obtain ⟨c, hc⟩ := get_ex (l := calls) (i := x.1) (by omega)
        rw [hc, hret, hj]
        simp only
        rw [List.getElem?_eq_none (l := anss) (by simp at h8; omega)]
      simp at h8
      have hjl := hG.cur t x.1 j (by rw [hx, ← hj])
      obtain ⟨m, hm⟩ := get_ex (l := s.out) (i := j) hjl
      obtain ⟨a5, an, ha5, han, hran⟩ := hre3.ex (i := x.1) (by omega)
      have c1' := (T8.drew.drew.drew).cell0 1
      have c2' : w8.drew.drew.drew.drew.cell? ((⟨w6.heap.size, 0, none⟩ : Addr).add 1) = some (.int .i64 (t : Int)) := ct
      have c3' : w8.drew.drew.drew.drew.cell? ((⟨w6.heap.size, 0, none⟩ : Addr).add 2) = some (.int .i64 (x.1 : Int)) := c3
      have So0 := So.chgN k6t
      obtain ⟨a6, ha6, hcan⟩ := So0.can (i := j) (by omega)
      have hqb : qB q5 = some a6.block := by rw [ha6]; rfl
      have hlt := So.lt hqb
      have z9 : w8.drew.drew.drew.drew.heap.size = w8.heap.size := rfl
      refine ⟨(t : Int), c2, by omega, by simp; omega, (j : Int), (rw' k6t).trans (by rw [hwj]), ?_⟩
      rw [ha6]
      refine onPtr_mk ⟨by omega, by omega, fun p => p.block < w8.drew.drew.drew.drew.heap.size, _, k, ca, cell_some (c1'.trans rfl), c1'.trans rfl, (t : Int), cell_some c2', c2', onPtr_mk ⟨by omega, by omega, some a5, hd3.2.1, hd3.2.2, cell_some hcell3, by rw [← ha5]; exact hcell3, (x.1 : Int), cell_some c3', c3', onPtr_mk ⟨by omega, by omega, an.err, an.hit, an.val, fun i _ => reads_block hran i, hran, newBox fun w10 B10 k10 s10 => ⟨k10.keeps, B10.store rfl rfl fun w11 B11 k11 s11 => ?_⟩⟩⟩⟩
      have k911 : Chg none_ w8.drew.drew.drew.drew w11 := k10.up k11 fun g hg => by omega
      have k611 := k6t.drew.trans k911
      have So11 := (So.chgN k611).drew
      obtain ⟨a6', ha6', hcan⟩ := So11.can (i := j) (by omega)
      rw [ha6] at ha6'
      cases ha6'
      have z11 : w11.drew.heap.size = w11.heap.size := rfl
      have z12 := k911.size
      refine ⟨fun p => p.block < w11.drew.heap.size ∧ p.block ≠ a6.block, e.step, ⟨by show w6.heap.size < _; omega, by show w6.heap.size ≠ _; omega⟩, ((k911.blk B8t.drew (fun x => x)).cell 0).trans rfl, an.err, ⟨by show w8.drew.drew.drew.drew.heap.size < _; omega, by show w8.drew.drew.drew.drew.heap.size ≠ _; omega⟩, (B11.drew.cell 0).trans rfl, an.hit, ⟨by rw [add_block]; show w8.drew.drew.drew.drew.heap.size < _; omega, by rw [add_block]; show w8.drew.drew.drew.drew.heap.size ≠ _; omega⟩, (B11.drew.cell0 1).trans rfl, hcan 7 1 (by decide), fun w12 e12 => ?_⟩
      rw [hwr] at e12
      rw [← set_same hm] at So11
      obtain ⟨So12, k12⟩ := putO { m with «to» := base + e.step } So11 hjl ha6 (Nat.le_of_ble_eq_true rfl) (by intro i; rcases i with _|_|_|_|_|_|_|_|i <;> simp [En.mv]) e12
      obtain ⟨a6', ha6', hcan12⟩ := So12.can (i := j) (by omega)
      rw [ha6] at ha6' k12
      cases ha6'
      refine ⟨keepsBut k12, hcan12 3 1 (by decide), fun w13 e13 => ?_⟩
      obtain ⟨So13, k13⟩ := putO { m with «to» := base + e.step, err := an.err } So12 hjl ha6 (Nat.le_of_ble_eq_true rfl) (by intro i; rcases i with _|_|_|_|_|_|_|_|i <;> simp [En.mv]) e13
      rw [ha6] at k13
      obtain ⟨a6', ha6', hcan13⟩ := So13.can (i := j) (by omega)
      rw [ha6] at ha6'
      cases ha6'
      refine ⟨keepsBut (k12.trans k13), hcan13 4 1 (by decide), fun w14 e14 => ?_⟩
      obtain ⟨So14, k14⟩ := putO { m with «to» := base + e.step, err := an.err, hit := an.hit } So13 hjl ha6 (Nat.le_of_ble_eq_true rfl) (by intro i; rcases i with _|_|_|_|_|_|_|_|i <;> simp [En.mv]) e14
      rw [ha6] at k14
      have k1114 := (k12.trans k13).trans k14
      have B14 := k1114.blk B11.drew (fun h => by simp [qB] at h; omega)
      have E14 := k1114.blk (k911.blk B8t.drew (fun x => x)).drew (fun h => by simp [qB] at h; omega)
      have Sa14 := (((Sa.chgN k611).drew).chg k1114 (fun g hg h => by simp [qB] at hg h; omega))
      have Sw14 := (((Sw.chgN k611).drew).chg k1114 (fun g hg h => by simp [qB] at hg h; omega))
      have kk14 : Chg none_ w1 w14 := (k6.trans k611).drew.up k1114 fun g hg => by simp [qB] at hg; omega
      have stp : stepX p s e = some ⟨s.ss.set t (x.1 + 1, none), s.out.set j (endM m (base + e.step) an), e.step, s.lb⟩ := by
        rw [st]
        unfold stepC
        obtain ⟨cc, hcc⟩ := get_ex (l := calls) (i := x.1) (by omega)
        rw [if_neg (by omega), hcc, hret, hj]
        simp only
        rw [han, hm, pbs]
      refine ⟨fun w26 => SE En.int w26 w1.heap.size 3 (some ⟨w1.heap.size, 0, none⟩) k k (s.ss.map atV) ∧ SE En.int w26 w2.heap.size 3 (some ⟨w2.heap.size, 0, none⟩) k k (s.ss.map whV) ∧ SE En.mv w26 w3.heap.size 96 (some a6) l5 c5 (s.out.set j (endM m (base + e.step) an)) ∧ Chg none_ w1 w26 ∧ w26.cell? ((⟨w6.heap.size, 0, none⟩ : Addr).add 1) = some (.int .i64 (t : Int)) ∧ w6.heap.size ≤ w26.heap.size, ?_, an.hit, (B14.cell0 1).trans rfl, bc (fun hh => ⟨an.val, (B14.cell0 2).trans rfl, ?_, fun w15 e15 => ?_⟩) fun hh => ⟨Sa14, Sw14, ?_, kk14, (E14.cell0 1).trans (by rw [← ht]; rfl), by have := k1114.size; omega⟩⟩
      · rintro w26 ⟨Sa26, Sw26, So26, kk26, ct26, z26⟩
        obtain ⟨a7, ha7, hcana⟩ := Sa26.can htk
        cases ha7
        obtain ⟨a8, ha8, hra⟩ := Sa26.re.get t (atV x) (by simp [hx])
        cases ha8
        refine ⟨(t : Int), ct26, by omega, by simp; omega, (x.1 : Int), reads_one' hra, by omega, by simp; omega, ?_, fun w28 e28 => ?_⟩
        · have := hcana 0 1 (by decide)
          rwa [add_zero'] at this
        rw [wrapN (by omega)] at e28
        obtain ⟨Sa28, k28'⟩ := Sa26.set rfl (x' := ((x.1 + 1 : Nat) : Int)) htk e28
        have Sw28 := Sw26.chg k28' (fun g hg h => by simp [qB] at hg h; omega)
        have So28 := So26.chg k28' (fun g hg h => by simp [qB] at hg h; omega)
        obtain ⟨a7, ha7, hcanw⟩ := Sw28.can htk
        cases ha7
        have ct28 : w28.cell? ((⟨w6.heap.size, 0, none⟩ : Addr).add 1) = some (.int .i64 (t : Int)) := k28'.cellS ct26 (fun h => by rw [add_block] at h; simp [qB] at h; omega)
        refine ⟨(t : Int), ct28, by omega, by simp; omega, ?_, fun w29 e29 => ?_⟩
        · have := hcanw 0 1 (by decide)
          rwa [add_zero'] at this
        obtain ⟨Sw29, k29⟩ := Sw28.set rfl (x' := -1) htk e29
        have Sa29 := Sa28.chg k29 (fun g hg h => by simp [qB] at hg h; omega)
        have So29 := So28.chg k29 (fun g hg h => by simp [qB] at hg h; omega)
        rw [wrapN (by omega)]
        have zz := (So29.lt (g := a6.block) rfl).1
        refine ⟨⟨i + 1, ⟨s.ss.set t (x.1 + 1, none), s.out.set j (endM m (base + e.step) an), e.step, s.lb⟩, rfl, by omega, rfl, (runX_some he stp).symm.trans hrun, hG.fin (by omega), ?_, ?_, So29, by simp; omega, fun t' x' h => ?_, (kk26.up k28' fun g hg => by simp [qB] at hg; omega).up k29 fun g hg => by simp [qB] at hg; omega, by omega⟩, by simp only [Int.toNat_natCast]; omega⟩
        · show SE En.int w29 w1.heap.size 3 _ k k ((s.ss.set t (x.1 + 1, none)).map atV)
          rw [List.map_set]
          exact Sa29
        · show SE En.int w29 w2.heap.size 3 _ k k ((s.ss.set t (x.1 + 1, none)).map whV)
          rw [List.map_set]
          exact Sw29
        simp only [List.getElem?_set] at h
        split at h
        · split at h
          · cases h; show x.1 + 1 ≤ i + 1; omega
          · cases h
        · have := hnb t' x' h; omega
      · obtain ⟨a6', ha6', hcan14⟩ := So14.can (i := j) (by omega)
        rw [ha6] at ha6'
        cases ha6'
        exact hcan14 2 1 (by decide)
      · obtain ⟨So15, k15⟩ := putO { m with «to» := base + e.step, err := an.err, hit := an.hit, val := an.val } So14 hjl ha6 (Nat.le_of_ble_eq_true rfl) (by intro i; rcases i with _|_|_|_|_|_|_|_|i <;> simp [En.mv]) e15
        rw [ha6] at k15 So15
        refine ⟨Sa14.chg k15 (fun g hg h => by simp [qB] at hg h; omega), Sw14.chg k15 (fun g hg h => by simp [qB] at hg h; omega), ?_, kk14.up k15 fun g hg => by simp [qB] at hg; omega, k15.cellS ((E14.cell0 1).trans (by rw [← ht]; rfl)) (fun h => by rw [add_block] at h; simp [qB] at h; omega), by have := k1114.size; have := k15.size; omega⟩
        unfold endM
        rw [if_pos hh]
        exact So15
      · rw [ha6] at So14
        unfold endM
        rw [if_neg (by rw [hh]; simp)]
        exact So14
  · have hil : i = le := by simp at h; omega
    subst hil
    have hrun' : runX p es (S0 k) = some s := by rw [← hrun, List.drop_of_length_le (by omega)]; rfl
    have hls := life_some s hrun'
    refine ⟨fun x7 w' => w6 = w' ∧ ∃ n : Nat, x7 = (n : Int) ∧ n ≤ k ∧ ∀ t, t < n → ∀ a x, ans[t]? = some a → s.ss[t]? = some x → a.length = x.1, fun x7 _ => k - x7.toNat, ⟨rfl, 0, rfl, by omega, fun t ht => by omega⟩, ?_⟩
    rintro _ _ ⟨rfl, n, rfl, hn, hall⟩
    have k06 := k1.trans k6
    refine bc (fun g => ?_) fun g => ?_
    · have hnk : n < k := by simp at g; omega
      obtain ⟨x, hx⟩ := get_ex (l := s.ss) (i := n) (by omega)
      obtain ⟨a, ha, hr⟩ := Sa.re.get n (atV x) (by simp [hx])
      cases ha
      obtain ⟨a3, hd3, anss, ha3, hanss, hcell3, hre3⟩ := (has.chg k06).at' hnk
      subst ha3
      have hal := hre3.len
      refine ⟨by omega, by simp; omega, (x.1 : Int), reads_one' hr, _, k, ca, ((k6.blk B1 (fun x => x)).cell0 1).trans rfl, onPtr_mk ⟨by omega, by omega, hd3.1, hd3.2.1, hd3.2.2, hcell3, bc (fun g2 => bad _ k06 ?_) fun g2 => ?_⟩⟩
      · rw [hls, if_neg]
        intro hd
        unfold doneX at hd
        rw [Bool.and_eq_true, List.all_eq_true] at hd
        have := hd.2 n (List.mem_range.2 (by omega))
        rw [pas, hanss, hx] at this
        simp at this g2
        omega
      · rw [wrapN (by omega)]
        refine ⟨⟨rfl, n + 1, rfl, by omega, fun t ht a y hat hxt => ?_⟩, by simp only [Int.toNat_natCast]; omega⟩
        by_cases e : t = n
        · subst e
          rw [hanss] at hat; cases hat
          rw [hx] at hxt; cases hxt
          simp at g2; omega
        · exact hall t (by omega) a y hat hxt
    · have hnk : n = k := by simp at g; omega
      subst hnk
      refine ⟨k06, .inl ⟨q5, l5, c5, s.out, rfl, ?_, So.lower (by have := k02.size; omega), by omega⟩⟩
      rw [hls, if_pos]
      unfold doneX
      rw [Bool.and_eq_true, List.all_eq_true]
      refine ⟨by rw [pas]; simp; omega, fun t ht => ?_⟩
      have ht := List.mem_range.1 ht
      obtain ⟨x, hx⟩ := get_ex (l := s.ss) (i := t) ht
      obtain ⟨a, ha⟩ := get_ex (l := ans) (i := t) (by omega)
      rw [pas, ha, hx]
      simp [hall t (by omega) a x ha hx]
end Mo
end Go.Proofs.YtglidaifbpjpgaaDoor
