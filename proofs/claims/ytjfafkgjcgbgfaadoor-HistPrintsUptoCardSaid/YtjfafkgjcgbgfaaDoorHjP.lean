import Derived.Test.YtjfafkgjcgbgfaaDoorHjO
set_option maxRecDepth 20000
namespace Go.Proofs.YtjfafkgjcgbgfaaDoor
open Go Go.Vc Go.RowKit
theorem life11 {w : World} {qc qe qa qx qy qz qu : Option Addr} {lc le la lx ly lz lu cc ce ca cx cy cz cu : Nat} {cs : List (List Cl)} {es : List Ev} {ans : List (List An)} {life base steps i1 i2 j1 j2 j3 j4 j5 j6 j7 j8 j9 j10 j11 j12 : Int} {b1 b2 : Bool}
    (hcs : RRs En.cl w qc lc cs) (hes : RE En.ev w qe le es) (has : RRs En.an w qa la ans) (hlc : lc ≤ 1048576) (hle : le ≤ 1048576) (hb0 : 0 ≤ base) (hb : base ≤ 1125899906842624) :
    Calls Tryd.prog 30 #[.int .i64 life, .agg #[.slice qc lc cc, .slice qx lx cx, .slice qy ly cy, .int .i64 i1, .int .i64 i2, .slice qz lz cz], .agg #[.slice qe le ce, .slice qa la ca, .int .i64 steps, .bool b1, .int .u64 j1, .int .u64 j2, .int .u64 j3, .int .i64 j4, .int .i64 j5, .int .i64 j6, .int .i64 j7, .bool b2, .int .i64 j8, .int .i64 j9, .int .i64 j10, .int .i64 j11, .int .i64 j12, .slice qu lu cu], .int .i64 base] w
      (Ret (LifeR ⟨true, kpP, life, base, steps, cs, ans⟩ es w)) := by
  obtain ⟨p, hp⟩ : ∃ p : P, p = ⟨true, kpP, life, base, steps, cs, ans⟩ := ⟨_, rfl⟩
  rw [← hp]
  have pcs : p.cs = cs := by rw [hp]
  have pas : p.as = ans := by rw [hp]
  have pst : p.steps = steps := by rw [hp]
  have pstr : p.strict = true := by rw [hp]
  have pkp : p.kp = kpP := by rw [hp]
  have plf : p.life = life := by rw [hp]
  have pbs : p.base = base := by rw [hp]
  clear hp
  have ecs := hcs.len
  have eas := has.len
  have ees := hes.len
  have bad : ∀ w', Chg none_ w w' → lifeX p es = none → LifeR p es w (.tuple #[.slice none 0 0, .bool false]) w' := fun w' k h => ⟨k, .inr ⟨rfl, h⟩⟩
  refine f30.calls _ _ _ _ _ _ _ _ _ _ _ _ _ _ _ _ _ _ _ _ _ _ _ _ _ _ _ _ _ _ _ _ _ _ _ _ _ _ _ _ ?_
  unfold f30.wp
  refine newBox fun w1 B1 k1 s1 => newBox fun w2 B2 k2 s2 => ?_
  have B12 := k2.blk B1 (fun x => x)
  have k02 := k1.trans k2
  refine ⟨steps, (B2.cell0 2).trans rfl, bc (fun h => bad _ k02 ?_) fun g1 => ⟨steps, (B2.cell0 2).trans rfl, bc (fun h => bad _ k02 ?_) fun g2 => ⟨qa, la, ca, (B2.cell0 1).trans rfl, qc, lc, cc, (B12.cell 0).trans rfl, bc (fun h => bad _ k02 ?_) fun g3 => ⟨qc, lc, cc, (B12.cell 0).trans rfl, by omega, by omega, by omega, by omega, fun w3 e3 => ?_⟩⟩⟩⟩
  · unfold lifeX; rw [if_pos (by rw [pst]; simp at h; omega)]
  · unfold lifeX; rw [if_pos (by rw [pst]; simp at h; omega)]
  · unfold lifeX; rw [if_pos (by rw [pas, pcs]; simp at h; omega)]
  simp at g1 g2 g3
  have e4 : la = lc := by omega
  subst e4
  have life_none : runX p es (S0 la) = none → lifeX p es = none := fun h => lifeX_none (by rw [pcs, ecs]; exact h)
  have life_some : ∀ s, runX p es (S0 la) = some s → lifeX p es = if doneX p.as s.ss then some s.out else none := fun s h => by
    unfold lifeX
    rw [if_neg (by rw [pst, pas, pcs]; omega), pcs, ecs, h]
  have B3 : Blk w3 w2.heap.size 112 (madeCells #[.int .i64 0, .int .i64 0, .bool false] (la * En.bg.k)) := by
    have := new_blk e3
    simpa [En.bg] using this
  have k3 : Chg none_ w2 w3 := (Chg.refl _ _).new' e3
  have s3 := new_size e3
  have S3 : SE En.bg w3 w2.heap.size 112 (some ⟨w2.heap.size, 0, none⟩) la la (List.replicate la ⟨0, 0, false⟩) := SE.made B3 rfl (Nat.le_refl _) (by simp only [maxLen]; omega)
  refine ⟨fun x w4 => ∃ k : Nat, x = (k : Int) ∧ k ≤ la ∧ Chg none_ w2 w4 ∧ w3.heap.size ≤ w4.heap.size ∧ ∃ bs, SE En.bg w4 w2.heap.size 112 (some ⟨w2.heap.size, 0, none⟩) la la bs ∧ ∀ t, t < k → bs[t]? = some ⟨-1, 0, true⟩, fun x _ => la - x.toNat, ⟨0, rfl, by omega, k3, Nat.le_refl _, _, S3, fun t ht => by omega⟩, ?_⟩
  rintro _ w4 ⟨k, rfl, hk, k4, z4, bs, S4, hbs⟩
  refine bc (fun h => ?_) fun h => ?_
  · have hkl : k < la := by simp at h; omega
    clear h
    obtain ⟨a, ha, hcan⟩ := S4.can hkl
    cases ha
    refine ⟨by omega, by simp; omega, ?_, fun w5 e5 => ?_⟩
    · have := hcan 0 3 (by decide)
      rwa [add_zero'] at this
    · obtain ⟨S5, k5⟩ := S4.set rfl (x' := ⟨-1, 0, true⟩) hkl e5
      rw [wrapN (by omega)]
      refine ⟨⟨k + 1, rfl, by omega, k4.up k5 fun g hg => by simp [qB] at hg; omega, by have := k5.size; omega, _, S5, fun t ht => ?_⟩, by simp only [Int.toNat_natCast]; omega⟩
      rw [List.getElem?_set]
      split
      · rw [if_pos (by rw [S4.len]; omega)]
      · exact hbs t (by omega)
  have hkl : k = la := by simp at h; omega
  subst hkl
  clear h
  have hB0 : Bgs bs (S0 k).ss := by
    refine ⟨by rw [S4.len]; simp [S0], fun t b x h1 h2 => ?_⟩
    have ht := get_lt h1
    rw [S4.len] at ht
    rw [hbs t ht] at h1
    simp only [S0, List.getElem?_replicate] at h2
    rw [if_pos ht] at h2
    cases h1; cases h2
    exact ⟨rfl, rfl⟩
  refine ⟨qe, le, ce, ((k4.blk B2 (fun x => x)).cell 0).trans rfl, ?_⟩
  refine ⟨fun q5 l5 c5 x2 x3 x4 w6 => ∃ (i : Nat) (s : S) (bs : List Bg), x4 = (i : Int) ∧ i ≤ le ∧ x2 = s.last ∧ x3 = s.lb ∧ runX p (es.drop i) s = runX p es (S0 k) ∧ Good p s ∧ Bgs bs s.ss ∧ SE En.bg w6 w2.heap.size 112 (some ⟨w2.heap.size, 0, none⟩) k k bs ∧ SE En.mv w6 w3.heap.size 33 q5 l5 c5 s.out ∧ s.out.length ≤ i ∧ (∀ (t : Nat) (x : Nat × Option Nat), s.ss[t]? = some x → x.1 ≤ i) ∧ Chg none_ w2 w6 ∧ w3.heap.size ≤ w6.heap.size,
    fun _ _ _ _ _ x4 _ => le - x4.toNat, ⟨0, S0 k, bs, rfl, by omega, rfl, rfl, by rw [List.drop_zero], by rw [← ecs, ← pcs]; exact Good.zero p, hB0, S4, SE.nil _ _ _ _, by simp [S0], fun t x h => by simp [S0, List.getElem?_replicate] at h; rw [← h.2]; exact Nat.le_refl _, k4, z4⟩, ?_⟩
  rintro q5 l5 c5 _ _ _ w6 ⟨i, s, bs6, rfl, hi, rfl, rfl, hrun, hG, hB, Sb, So, hol, hnb, k6, z6⟩
  have hss := hG.len
  rw [pcs, ecs] at hss
  have hol' := So.len
  refine bc (fun h => ?_) fun h => ?_
  · have hil : i < le := by simp at h; omega
    clear h
    obtain ⟨a1, e, ha1, he, hr⟩ := (hes.chg (k02.trans k6)).ex hil
    subst ha1
    have none_at : stepX p s e = none → lifeX p es = none := fun h => by
      have := runX_none he h
      rw [hrun] at this
      exact life_none this
    refine onPtr_mk ⟨by omega, by omega, e.step, e.task, e.call, e.ret, hr, boxed rfl rfl fun w8 B8 k8 s8 => ?_⟩
    have B8d := B8.drew
    have k28 : Chg none_ w2 w8.drew := (k6.trans k8).drew
    have k08 := k02.trans k28
    have T8 := k28.blk B2 (fun x => x)
    have C8 := k28.blk B12 (fun x => x)
    have bd : stepX p s e = none → LifeR p es w (.tuple #[.slice none 0 0, .bool false]) w8.drew := fun h => bad _ k08 (none_at h)
    refine ⟨e.step, (B8d.cell 0).trans rfl, bc (fun h => bd (stepX_none1 (.inl (by simpa using h)))) fun h1 => ⟨e.step, (B8d.cell 0).trans rfl, steps, (T8.cell0 2).trans rfl, bc (fun h => bd (stepX_none1 (.inr (.inl (by rw [pst]; simpa using h))))) fun h2 => ⟨e.task, (B8d.cell0 1).trans rfl, bc (fun h => bd (stepX_none1 (.inr (.inr (by simpa using h))))) fun h3 => ?_⟩⟩⟩
    simp at h1 h2 h3
    obtain ⟨t, ht⟩ : ∃ t : Nat, e.task = (t : Int) := ⟨e.task.toNat, by omega⟩
    have ct : w8.drew.cell? ((⟨w6.heap.size, 0, none⟩ : Addr).add 1) = some (.int .i64 (t : Int)) := (B8d.cell0 1).trans (by rw [← ht]; rfl)
    refine ⟨(t : Int), ct, qc, k, cc, (C8.cell 0).trans rfl, bc (fun h => bd (stepX_none2 (by rw [ht]; exact List.getElem?_eq_none (by simp at h ⊢; omega)))) fun h4 => ?_⟩
    have htk : t < k := by simp at h4; omega
    clear h4
    obtain ⟨x, hx⟩ := get_ex (l := s.ss) (i := t) (by omega)
    obtain ⟨b, hbt⟩ := get_ex (l := bs6) (i := t) (by rw [Sb.len]; exact htk)
    have hbx := hB.2 t b x hbt hx
    obtain ⟨a2, hd2, calls, ha2, hcalls, hcell2, hre2⟩ := (hcs.chg k08).at' htk
    obtain ⟨a3, hd3, anss, ha3, hanss, hcell3, hre3⟩ := (has.chg k08).at' htk
    subst ha2
    subst ha3
    have hnx := hnb t x hx
    have st : stepX p s e = stepC p s e t x.1 x.2 calls anss := stepX_at (by omega) (by rw [pst]; omega) ht hx (by rw [pcs]; exact hcalls) (by rw [pas]; exact hanss)
    refine ⟨e.call, (B8d.cell0 2).trans rfl, bc (fun h => bd ?_) fun h5 => ⟨e.call, (B8d.cell0 2).trans rfl, _, k, cc, (C8.cell 0).trans rfl, (t : Int), ct, onPtr_mk ⟨by omega, by omega, hd2.1, hd2.2.1, hd2.2.2, hcell2, bc (fun h => bd ?_) fun h6 => ?_⟩⟩⟩
    · rw [st]; unfold stepC; rw [if_pos (by simp at h; omega)]
    · rw [st]; unfold stepC
      split
      · rfl
      · rename_i hc
        have := hre2.len
        rw [List.getElem?_eq_none (by simp at h hc; omega)]
    simp at h5 h6
    have hcl := hre2.len
    refine ⟨e.step, (B8d.cell 0).trans rfl, (t : Int), ct, by omega, by simp; omega, ?_⟩
    have rb : ∀ {w' : World}, Chg none_ w6 w' → reads w' ((⟨w2.heap.size, 0, none⟩ : Addr).add (t * 3)) (En.bg.enc b) := fun k => by
      obtain ⟨a, ha, hr⟩ := (Sb.chgN k).re.get t b hbt
      cases ha; exact hr
    have k6d : Chg none_ w6 w8.drew.drew := (k8.drew).drew
    have B8dd := B8d.drew
    have hb1 : b.back = true ↔ x.2 = none := by
      unfold BgIs at hbx
      cases h : x.2 with
      | none => rw [h] at hbx; simp [hbx.2]
      | some j => rw [h] at hbx; simp [hbx.2.2]
    have hb2 : x.2 = none → b.call = (x.1 : Int) - 1 := fun h => by unfold BgIs at hbx; rw [h] at hbx; exact hbx.1
    have hb3 : ∀ j, x.2 = some j → b.call = x.1 ∧ b.move = j := fun j h => by unfold BgIs at hbx; rw [h] at hbx; exact ⟨hbx.1, hbx.2.1⟩
    have hal := hre3.len
    refine ⟨fun x5 w9 => w8.drew.drew = w9 ∧ (x5 = true ↔ e.ret = true ∧ (∃ j, x.2 = some j) ∧ e.call = x.1 ∧ x.1 < anss.length), ?_, e.ret, (B8dd.cell0 3).trans rfl, ?_⟩
    · rintro x5 _ ⟨rfl, hx5⟩
      have B8t := B8dd.drew
      have k6t := k6d.drew
      have k0t := k08.drew.drew
      have hlast := hG.last
      have hwr : IntKind.wrap .i64 (base + e.step) = base + e.step := wrapS (by omega) (by omega)
      refine bc (fun hv => ?_) fun hv => ?_
      · obtain ⟨hret, ⟨j, hj⟩, hcall, hn⟩ := hx5.1 hv
        have hjm := (hb3 j hj).2
        have hjl := hG.cur t x.1 j (by rw [hx, ← hj])
        obtain ⟨m, hm⟩ := get_ex (l := s.out) (i := j) hjl
        obtain ⟨a5, an, ha5, han, hran⟩ := hre3.ex (i := x.1) (by omega)
        have hct : (e.call).toNat = x.1 := by omega
        have c1 := (T8.drew.drew).cell0 1
        have c2 : w8.drew.drew.drew.cell? ((⟨w6.heap.size, 0, none⟩ : Addr).add 1) = some (.int .i64 (t : Int)) := ct
        have c3 : w8.drew.drew.drew.cell? ((⟨w6.heap.size, 0, none⟩ : Addr).add 2) = some (.int .i64 (x.1 : Int)) := (B8t.cell0 2).trans (by rw [← hcall]; rfl)
        refine ⟨fun p => p.block < w8.drew.drew.drew.heap.size, _, k, ca, cell_some (c1.trans rfl), c1.trans rfl, (t : Int), cell_some c2, c2, onPtr_mk ⟨by omega, by omega, some a5, hd3.2.1, hd3.2.2, cell_some hcell3, by rw [← ha5]; exact hcell3, (x.1 : Int), cell_some c3, c3, onPtr_mk ⟨by omega, by omega, an.err, an.hit, an.val, fun i _ => reads_block hran i, hran, newBox fun w10 B10 k10 s10 => ⟨k10.keeps, B10.store rfl rfl fun w11 B11 k11 s11 => ?_⟩⟩⟩⟩
        have k911 : Chg none_ w8.drew.drew.drew w11 := k10.up k11 fun g hg => by omega
        have k611 := k6t.trans k911
        have So11 := (So.chgN k611).drew
        obtain ⟨a6, ha6, hcan⟩ := So11.can (i := j) (by omega)
        have hqb : qB q5 = some a6.block := by rw [ha6]; rfl
        have hlt := So.lt hqb
        have z8 := k8.size
        have z9 : w8.drew.drew.drew.heap.size = w8.heap.size := rfl
        have z11 : w11.drew.heap.size = w11.heap.size := rfl
        have z12 := k911.size
        refine ⟨(j : Int), (rb k611 1 _ rfl).trans (by rw [hjm]), ?_⟩
        rw [ha6]
        refine onPtr_mk ⟨by omega, by omega, fun p => p.block < w11.drew.heap.size ∧ p.block ≠ a6.block, e.step, ⟨by show w6.heap.size < _; omega, by show w6.heap.size ≠ _; omega⟩, ((k911.blk B8t (fun x => x)).cell 0).trans rfl, an.err, ⟨by show w8.drew.drew.drew.heap.size < _; omega, by show w8.drew.drew.drew.heap.size ≠ _; omega⟩, (B11.drew.cell 0).trans rfl, an.hit, ⟨by rw [add_block]; show w8.drew.drew.drew.heap.size < _; omega, by rw [add_block]; show w8.drew.drew.drew.heap.size ≠ _; omega⟩, (B11.drew.cell0 1).trans rfl, hcan 7 1 (by decide), fun w12 e12 => ?_⟩
        rw [hwr] at e12
        rw [← set_same hm] at So11
        obtain ⟨So12, k12⟩ := putO { m with «to» := base + e.step } So11 hjl ha6 (Nat.le_of_ble_eq_true rfl) (by intro i; rcases i with _|_|_|_|_|_|_|_|i <;> simp [En.mv]) e12
        obtain ⟨a6', ha6', hcan12⟩ := So12.can (i := j) (by omega)
        rw [ha6] at ha6' k12
        cases ha6'
        refine ⟨keepsBut k12, hcan12 3 1 (by decide), fun w13 e13 => ?_⟩
        obtain ⟨So13, k13⟩ := putO { m with «to» := base + e.step, err := an.err } So12 hjl ha6 (Nat.le_of_ble_eq_true rfl) (by intro i; rcases i with _|_|_|_|_|_|_|_|i <;> simp [En.mv]) e13
        rw [ha6] at k13
        obtain ⟨a6', ha6', hcan13⟩ := So13.can (i := j) (by omega)
        rw [ha6] at ha6'
        cases ha6'
        refine ⟨keepsBut (k12.trans k13), hcan13 4 1 (by decide), fun w14 e14 => ?_⟩
        obtain ⟨So14, k14⟩ := putO { m with «to» := base + e.step, err := an.err, hit := an.hit } So13 hjl ha6 (Nat.le_of_ble_eq_true rfl) (by intro i; rcases i with _|_|_|_|_|_|_|_|i <;> simp [En.mv]) e14
        rw [ha6] at k14
        have k1114 := (k12.trans k13).trans k14
        have B14 := k1114.blk B11.drew (fun h => by simp [qB] at h; omega)
        have Sb14 := (((Sb.chgN k611).drew).chg k1114 (fun g hg h => by simp [qB] at hg h; omega))
        have kk14 : Chg none_ w2 w14 := (k6.trans k611).drew.up k1114 fun g hg => by simp [qB] at hg; omega
        have stp : stepX p s e = some ⟨s.ss.set t (x.1 + 1, none), s.out.set j (endM m (base + e.step) an), e.step, s.lb⟩ := by
          rw [st]
          unfold stepC
          obtain ⟨cc, hcc⟩ := get_ex (l := calls) (i := x.1) (by omega)
          rw [if_neg (by omega), hcc, hret, hj]
          simp only
          rw [han, hm, pbs]
        have fin : ∀ w16, SE En.bg w16 w2.heap.size 112 (some ⟨w2.heap.size, 0, none⟩) k k (bs6.set t ⟨b.call, b.move, true⟩) → SE En.mv w16 w3.heap.size 33 (some a6) l5 c5 (s.out.set j (endM m (base + e.step) an)) → Chg none_ w2 w16 →
            (∃ (i' : Nat) (s' : S) (bs : List Bg), IntKind.wrap .i64 ((i : Int) + 1) = (i' : Int) ∧ i' ≤ le ∧ e.step = s'.last ∧ s.lb = s'.lb ∧ runX p (es.drop i') s' = runX p es (S0 k) ∧ Good p s' ∧ Bgs bs s'.ss ∧ SE En.bg w16 w2.heap.size 112 (some ⟨w2.heap.size, 0, none⟩) k k bs ∧ SE En.mv w16 w3.heap.size 33 (some a6) l5 c5 s'.out ∧ s'.out.length ≤ i' ∧ (∀ (t : Nat) (x : Nat × Option Nat), s'.ss[t]? = some x → x.1 ≤ i') ∧ Chg none_ w2 w16 ∧ w3.heap.size ≤ w16.heap.size) ∧ le - (IntKind.wrap .i64 ((i : Int) + 1)).toNat < le - (i : Int).toNat := fun w16 hbg hmv kk => by
          rw [wrapN (by omega)]
          refine ⟨⟨i + 1, ⟨s.ss.set t (x.1 + 1, none), s.out.set j (endM m (base + e.step) an), e.step, s.lb⟩, _, rfl, by omega, rfl, rfl, (runX_some he stp).symm.trans hrun, hG.fin (by omega), hB.set t (b := ⟨b.call, b.move, true⟩) (x := (x.1 + 1, none)) ⟨by rw [(hb3 j hj).1]; simp, rfl⟩, hbg, hmv, by simp; omega, fun t' x' h => ?_, kk, by have := hmv.lt (g := a6.block) rfl; omega⟩, by simp only [Int.toNat_natCast]; omega⟩
          simp only [List.getElem?_set] at h
          split at h
          · split at h
            · cases h; show x.1 + 1 ≤ i + 1; omega
            · cases h
          · have := hnb t' x' h; omega
        have bgv : ∀ i, (En.bg.enc ⟨b.call, b.move, true⟩)[i]? = if 2 ≤ i ∧ i < 2 + [Value.bool true].length then [Value.bool true][i - 2]? else (En.bg.enc b)[i]? := by
          intro i; rcases i with _|_|_|i <;> simp [En.bg]
        refine ⟨an.hit, (B14.cell0 1).trans rfl, bc (fun hh => ⟨an.val, (B14.cell0 2).trans rfl, ?_, fun w15 e15 => ?_⟩) fun hh => ?_⟩
        · obtain ⟨a6', ha6', hcan14⟩ := So14.can (i := j) (by omega)
          rw [ha6] at ha6'
          cases ha6'
          exact hcan14 2 1 (by decide)
        · obtain ⟨So15, k15⟩ := putO { m with «to» := base + e.step, err := an.err, hit := an.hit, val := an.val } So14 hjl ha6 (Nat.le_of_ble_eq_true rfl) (by intro i; rcases i with _|_|_|_|_|_|_|_|i <;> simp [En.mv]) e15
          rw [ha6] at k15
          have Sb15 := Sb14.chg k15 (fun g hg h => by simp [qB] at hg h; omega)
          obtain ⟨a7, ha7, hcan15⟩ := Sb15.can htk
          cases ha7
          refine ⟨hcan15 2 1 (by decide), fun w16 e16 => ?_⟩
          obtain ⟨Sb16, k16⟩ := Sb15.setAt rfl (x' := ⟨b.call, b.move, true⟩) hbt (by decide) bgv e16
          rw [ha6] at So15
          refine fin w16 Sb16 ?_ ((kk14.up k15 fun g hg => by simp [qB] at hg; omega).up k16 fun g hg => by simp [qB] at hg; omega)
          have := So15.chg k16 (fun g hg h => by simp [qB] at hg h; omega)
          unfold endM
          rw [if_pos hh]
          exact this
        · obtain ⟨a7, ha7, hcan15⟩ := Sb14.can htk
          cases ha7
          refine ⟨hcan15 2 1 (by decide), fun w16 e16 => ?_⟩
          obtain ⟨Sb16, k16⟩ := Sb14.setAt rfl (x' := ⟨b.call, b.move, true⟩) hbt (by decide) bgv e16
          rw [ha6] at So14
          refine fin w16 Sb16 ?_ (kk14.up k16 fun g hg => by simp [qB] at hg; omega)
          have := So14.chg k16 (fun g hg h => by simp [qB] at hg h; omega)
          unfold endM
          rw [if_neg (by rw [hh]; simp)]
          exact this
      · have nx5 : ¬ (e.ret = true ∧ (∃ j, x.2 = some j) ∧ e.call = x.1 ∧ x.1 < anss.length) := fun g => by rw [hx5.2 g] at hv; cases hv
        refine ⟨fun x6 w18 => w8.drew.drew.drew = w18 ∧ (x6 = true ↔ e.ret = false ∧ x.2 = none ∧ e.call = x.1 ∧ e.step > s.lb), ?_, e.ret, (B8t.cell0 3).trans rfl, ?_⟩
        · rintro x6 _ ⟨rfl, hx6⟩
          refine bc (fun hv6 => ?_) fun hv6 => bad _ k0t (none_at ?_)
          · obtain ⟨hret, hnone, hcall, hstep⟩ := hx6.1 hv6
            obtain ⟨a5, cl, ha5, hcl5, hrcl⟩ := hre2.ex (i := x.1) (by omega)
            have stp : stepX p s e = some ⟨s.ss.set t (x.1, some s.out.length), s.out ++ [begM kpP cl life (base + e.step)], e.step, e.step⟩ := by
              rw [st]
              unfold stepC
              rw [if_neg (by omega), hcl5, hret, hnone]
              simp only
              rw [if_neg (by omega), pkp, plf, pbs]
            have c1 := (C8.drew.drew.drew).cell 0
            have c2 : w8.drew.drew.drew.drew.cell? ((⟨w6.heap.size, 0, none⟩ : Addr).add 1) = some (.int .i64 (t : Int)) := ct
            have c3 : w8.drew.drew.drew.drew.cell? ((⟨w6.heap.size, 0, none⟩ : Addr).add 2) = some (.int .i64 (x.1 : Int)) := (B8t.cell0 2).trans (by rw [← hcall]; rfl)
            refine ⟨e.step, (B8t.cell 0).trans rfl, fun p => p.block < w8.drew.drew.drew.drew.heap.size, _, k, cc, cell_some (c1.trans rfl), c1.trans rfl, (t : Int), cell_some c2, c2, onPtr_mk ⟨by omega, by omega, some a5, hd2.2.1, hd2.2.2, cell_some hcell2, by rw [← ha5]; exact hcell2, (x.1 : Int), cell_some c3, c3, onPtr_mk ⟨by omega, by omega, cl.kind, cl.key, cl.val, fun i _ => reads_block hrcl i, hrcl, newBox fun w19 B19 k19 s19 => ⟨k19.keeps, B19.store rfl rfl fun w20 B20 k20 s20 => ?_⟩⟩⟩⟩
            have k920 : Chg none_ w8.drew.drew.drew.drew w20 := k19.up k20 fun g hg => by omega
            have k620 : Chg none_ w6 w20 := k6t.drew.trans k920
            have z8 := k8.size
            have z9 : w8.drew.drew.drew.drew.heap.size = w8.heap.size := rfl
            have z20 := k920.size
            have E20 := k920.blk B8t.drew (fun x => x)
            refine ⟨cl.kind, (B20.cell 0).trans rfl, e.step, (E20.cell 0).trans rfl, ?_⟩
            rw [hwr]
            refine boxed rfl rfl fun w22 B22 k22 s22 => ?_
            have ne1 : ¬ w8.drew.drew.drew.drew.heap.size = w20.heap.size := by omega
            have ne2 : ¬ w6.heap.size = w20.heap.size := by omega
            refine ⟨fun w23 => Chg none_ w20 w23 ∧ Blk w23 w20.heap.size 33 (mvC ⟨cl.kind, if kpP cl.kind then cl.key else e0, e0, 0, false, life, base + e.step, -1⟩), ?_, cl.kind, ((k22.blk B20 (fun x => x)).cell 0).trans rfl, Calls.use (ofKey38 cl.kind) ?_⟩
            · rintro w23 ⟨k23, M23⟩
              have C23 := k23.blk B20 (fun x => x)
              refine ⟨fun w26 => Chg none_ w20 w26 ∧ Blk w26 w20.heap.size 33 (mvC (begM kpP cl life (base + e.step))), ?_, cl.kind, (C23.cell 0).trans rfl, bc (fun g => ⟨cl.val, (C23.cell0 2).trans rfl, M23.canStore0 (Nat.le_of_ble_eq_true rfl), fun w27 e27 => ?_⟩) fun g => ⟨k23, ?_⟩⟩
              · rintro w26 ⟨k26, M26⟩
                have k626 := k620.trans k26
                have E26 := k26.blk E20 (fun x => x)
                have Sb26 := Sb.chgN k626
                obtain ⟨a7, ha7, hcan⟩ := Sb26.can htk
                cases ha7
                refine ⟨e.call, (E26.cell0 2).trans rfl, ?_, fun w28 e28 => ?_⟩
                · have := hcan 0 3 (by decide)
                  rwa [add_zero'] at this
                obtain ⟨Sb28, k28'⟩ := Sb26.set rfl (x' := ⟨e.call, (l5 : Int), false⟩) htk e28
                have nb : ∀ g, g = w2.heap.size → ¬ g = w20.heap.size := fun g hg h => by omega
                have M28 := k28'.blk M26 (fun h => by simp [qB] at h; omega)
                have So28 := (So.chgN k626).chg k28' (fun g hg h => by simp [qB] at h; have := (So.lt hg).2; omega)
                have kk28 : Chg none_ w2 w28 := (k6.trans k626).up k28' fun g hg => by simp [qB] at hg; omega
                refine ⟨_, _, _, _, _, _, _, _, M28.reads0, newBox fun w29 B29 k29 s29 => ?_⟩
                have kk29 := kk28.trans k29
                have z29 := kk29.size
                have z626 := k626.size
                have z28 := k28'.size
                have z2829 := k29.size
                obtain ⟨q15, c15, w30, hrun30, So30, k30, hq30, _⟩ := (So28.chgN k29).append1 (t := 23) (ty := 23) (x := begM kpP cl life (base + e.step)) elemMove B29 (by simp only [maxLen]; omega) (by omega) (by omega)
                have nq : ∀ g, qB (some (⟨w2.heap.size, 0, none⟩ : Addr)) = some g → ¬ some g = qB q5 := fun g hg h => by
                  simp [qB] at hg
                  have := (So.lt h.symm).2
                  omega
                have Sb30 := (Sb28.chgN k29).chg k30 nq
                rw [wrapN (by omega)]
                refine ⟨q15, _, c15, w30, hrun30, ⟨i + 1, ⟨s.ss.set t (x.1, some s.out.length), s.out ++ [begM kpP cl life (base + e.step)], e.step, e.step⟩, _, rfl, by omega, rfl, rfl, (runX_some he stp).symm.trans hrun, hG.beg (by omega), hB.set t (b := ⟨e.call, (l5 : Int), false⟩) (x := (x.1, some s.out.length)) ⟨hcall, by simp [hol'], rfl⟩, Sb30, So30, by simp; omega, fun t' x' h => ?_, kk29.up k30 fun g hg => by have := (So.lt hg.symm).2; omega, by have := k30.size; omega⟩, by simp only [Int.toNat_natCast]; omega⟩
                simp only [List.getElem?_set] at h
                split at h
                · split at h
                  · cases h; show x.1 ≤ i + 1; omega
                  · cases h
                · have := hnb t' x' h; omega
              · obtain ⟨M27, k27⟩ := M23.put e27
                refine ⟨k23.up k27 fun g hg => by omega, ?_⟩
                unfold begM
                rw [if_pos g]
                exact M27
              · unfold begM
                rw [if_neg (show ¬ (cl.kind == 2) = true by rw [g]; simp)]
                exact M23
            · rintro _ _ ⟨b9, rfl, hb9, rfl⟩
              have hk9 := kpP_eq hb9
              have C22 := k22.blk B20 (fun x => x)
              refine ⟨b9, rfl, bc (fun g => ⟨cl.key, (C22.cell0 1).trans rfl, B22.canStore0 (Nat.le_of_ble_eq_true rfl), fun w25 e25 => ?_⟩) fun g => ⟨k22, ?_⟩⟩
              · obtain ⟨M25, k25⟩ := B22.put e25
                refine ⟨k22.up k25 fun g hg => by omega, ?_⟩
                rw [hk9, g]
                exact M25
              · rw [hk9, g]
                exact B22
          · have nx6 : ¬ (e.ret = false ∧ x.2 = none ∧ e.call = x.1 ∧ e.step > s.lb) := fun g => by rw [hx6.2 g] at hv6; cases hv6
            rw [st]
            unfold stepC
            by_cases hc : e.call = x.1
            · rw [if_neg (by omega)]
              split
              · rfl
              · cases hr : e.ret <;> cases hy : x.2
                · simp only
                  rw [if_pos ⟨pstr, Int.not_lt.1 fun h => nx6 ⟨hr, hy, hc, h⟩⟩]
                · rfl
                · rfl
                · rename_i j
                  simp only
                  have : anss[x.1]? = none := List.getElem?_eq_none (by
                    rcases Nat.lt_or_ge x.1 anss.length with h | h
                    · exact absurd ⟨hr, ⟨j, hy⟩, hc, h⟩ nx5
                    · exact h)
                  rw [this]
            · rw [if_pos hc]
        · refine bc (fun q1 => ⟨b.back, rb k6t 2 _ rfl, bc (fun q2 => ⟨e.call, (B8t.cell0 2).trans rfl, b.call, rb k6t 0 _ rfl, bc (fun q3 => ⟨e.step, (B8t.cell 0).trans rfl, rfl, ?_⟩) fun q3 => ⟨rfl, ?_⟩⟩) fun q2 => ⟨rfl, ?_⟩⟩) fun q1 => ⟨rfl, ?_⟩
          · have q4 := hb1.1 q2
            have q5 := hb2 q4
            rw [wrapS (by omega) (by omega)] at q3
            simp at q1 q3
            simp only [decide_eq_true_eq]
            exact ⟨fun h => ⟨q1, q4, by omega, h⟩, fun h => h.2.2.2⟩
          · have q4 := hb1.1 q2
            have q5 := hb2 q4
            rw [wrapS (by omega) (by omega)] at q3
            simp at q3
            exact ⟨fun h => (by cases h), fun h => by have := h.2.2.1; omega⟩
          · exact ⟨fun h => (by cases h), fun h => by rw [hb1.2 h.2.1] at q2; cases q2⟩
          · exact ⟨fun h => (by cases h), fun h => by rw [h.1] at q1; cases q1⟩
    · refine bc (fun g1 => ⟨b.back, rb k6d 2 _ rfl, bc (fun g2 => ⟨e.call, (B8dd.cell0 2).trans rfl, b.call, rb k6d 0 _ rfl, bc (fun g3 => ⟨e.call, (B8dd.cell0 2).trans rfl, _, k, ca, ((T8.drew).cell0 1).trans rfl, (t : Int), (B8dd.cell0 1).trans (by rw [← ht]; rfl), onPtr_mk ⟨by omega, by omega, hd3.1, hd3.2.1, hd3.2.2, hcell3, rfl, ?_⟩⟩) fun g3 => ⟨rfl, ?_⟩⟩) fun g2 => ⟨rfl, ?_⟩⟩) fun g1 => ⟨rfl, ?_⟩
      · obtain ⟨j, hj⟩ : ∃ j, x.2 = some j := by
          cases hy : x.2 with
          | none => rw [hb1.2 hy] at g2; cases g2
          | some j => exact ⟨j, rfl⟩
        have h7 := (hb3 j hj).1
        simp at g1 g3
        simp only [decide_eq_true_eq]
        exact ⟨fun h => ⟨g1, ⟨j, hj⟩, by omega, by omega⟩, fun h => by omega⟩
      · simp at g3
        exact ⟨fun h => (by cases h), fun h => by obtain ⟨j, hj⟩ := h.2.1; have := (hb3 j hj).1; omega⟩
      · exact ⟨fun h => (by cases h), fun h => by obtain ⟨j, hj⟩ := h.2.1; have := hb1.1 (by simpa using g2); rw [this] at hj; cases hj⟩
      · exact ⟨fun h => (by cases h), fun h => by rw [h.1] at g1; cases g1⟩
  · have hil : i = le := by simp at h; omega
    subst hil
    have hrun' : runX p es (S0 k) = some s := by rw [← hrun, List.drop_of_length_le (by omega)]; rfl
    have hls := life_some s hrun'
    refine ⟨fun x7 w' => ∃ n : Nat, x7 = (n : Int) ∧ n ≤ k ∧ Chg none_ w6 w' ∧ ∀ t, t < n → ∀ a x, ans[t]? = some a → s.ss[t]? = some x → a.length = x.1, fun x7 _ => k - x7.toNat, ⟨0, rfl, by omega, Chg.refl _ _, fun t ht => by omega⟩, ?_⟩
    rintro _ w31 ⟨n, rfl, hn, k31, hall⟩
    refine bc (fun g => ?_) fun g => ?_
    · have hnk : n < k := by simp at g; omega
      obtain ⟨x, hx⟩ := get_ex (l := s.ss) (i := n) (by omega)
      obtain ⟨b, hbt⟩ := get_ex (l := bs6) (i := n) (by rw [Sb.len]; exact hnk)
      have hbx := hB.2 n b x hbt hx
      have hnx := hnb n x hx
      obtain ⟨a, ha, hr⟩ := (Sb.chgN k31).re.get n b hbt
      cases ha
      refine ⟨by omega, by simp; omega, b.call, b.move, b.back, hr, boxed rfl rfl fun w33 B33 k33 s33 => ⟨b.call, (B33.cell 0).trans rfl, ?_⟩⟩
      have k233 : Chg none_ w2 w33 := k6.trans (k31.trans k33)
      have k033 := k02.trans k233
      obtain ⟨a3, hd3, anss, ha3, hanss, hcell3, hre3⟩ := (has.chg k033).at' hnk
      subst ha3
      have hal := hre3.len
      refine ⟨fun x8 w34 => w33 = w34 ∧ x8 = (x.1 : Int), ?_, b.back, (B33.cell0 2).trans rfl, ?_⟩
      · rintro _ _ ⟨rfl, rfl⟩
        refine ⟨_, k, ca, ((k233.blk B2 (fun x => x)).cell0 1).trans rfl, onPtr_mk ⟨by omega, by omega, hd3.1, hd3.2.1, hd3.2.2, hcell3, bc (fun g2 => bad _ k033 ?_) fun g2 => ?_⟩⟩
        · rw [hls, if_neg]
          intro hd
          unfold doneX at hd
          rw [Bool.and_eq_true, List.all_eq_true] at hd
          have := hd.2 n (List.mem_range.2 (by omega))
          rw [pas, hanss, hx] at this
          simp at this g2
          omega
        · rw [wrapN (by omega)]
          refine ⟨⟨n + 1, rfl, by omega, k31.trans k33, fun t ht a y hat hxt => ?_⟩, by simp only [Int.toNat_natCast]; omega⟩
          by_cases e : t = n
          · subst e
            rw [hanss] at hat; cases hat
            rw [hx] at hxt; cases hxt
            simp at g2; omega
          · exact hall t (by omega) a y hat hxt
      · unfold BgIs at hbx
        refine bc (fun g2 => ⟨rfl, ?_⟩) fun g2 => ⟨rfl, ?_⟩
        · cases hy : x.2 with
          | none => rw [hy] at hbx; rw [hbx.1, wrapS (by omega) (by omega)]; omega
          | some j => rw [hy] at hbx; rw [hbx.2.2] at g2; cases g2
        · cases hy : x.2 with
          | none => rw [hy] at hbx; rw [hbx.2] at g2; cases g2
          | some j => rw [hy] at hbx; rw [hbx.1]
    · have hnk : n = k := by simp at g; omega
      subst hnk
      refine ⟨k02.trans (k6.trans k31), .inl ⟨q5, l5, c5, s.out, rfl, ?_, (So.chgN k31).lower (by have := k02.size; omega), by omega⟩⟩
      rw [hls, if_pos]
      unfold doneX
      rw [Bool.and_eq_true, List.all_eq_true]
      refine ⟨by rw [pas]; simp; omega, fun t ht => ?_⟩
      have ht := List.mem_range.1 ht
      obtain ⟨x, hx⟩ := get_ex (l := s.ss) (i := t) ht
      obtain ⟨a, ha⟩ := get_ex (l := ans) (i := t) (by omega)
      rw [pas, ha, hx]
      simp [hall t (by omega) a x ha hx]
end Go.Proofs.YtjfafkgjcgbgfaaDoor
