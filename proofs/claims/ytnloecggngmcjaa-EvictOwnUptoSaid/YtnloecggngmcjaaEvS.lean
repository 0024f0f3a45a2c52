import Derived.Test.YtnloecggngmcjaaEvR
set_option maxRecDepth 20000
namespace Go.Proofs.Ytnloecggngmcjaa
open Go Go.Vc Go.RowKit Go.Vc.Ring
section
variable {v : Vi} {w : World}
theorem Inv.marked_line (h : Inv v w) {i b : Nat} (hb : v.arr[i]? = some (some b)) (m : Bool) : (v.marked b m).line = v.line.map fun e => if e.1 = (i : Int) then (e.1, m) else e := by
  obtain ⟨h1, h2⟩ := h.tabO i b hb
  simp only [Vi.line, Vi.marked, List.map_map]
  refine List.map_congr_left fun y hy => ?_
  simp only [Function.comp]
  by_cases hyb : y = b
  · subst hyb; simp [Ring.upd, h2]
  · have : v.g.rg y ≠ i := fun hc => hyb (h.uniq hy h1 (by rw [hc, h2]))
    simp [Ring.upd, hyb, this]
theorem Inv.idx (h : Inv v w) {l1 l2 : List Nat} (e : v.bs = l1 ++ l2) : v.bs.idxOf (l2.headD v.r) = l1.length := by
  have hn := h.ring.nodup
  cases l2 with
  | nil =>
    have : v.r ∉ v.bs := (List.nodup_cons.1 hn).1
    show v.bs.idxOf v.r = _
    rw [List.idxOf_eq_length this, e]; simp
  | cons b t =>
    have hn2 := (List.nodup_cons.1 hn).2
    rw [e] at hn2
    have hb : b ∉ l1 := fun hc => (List.nodup_append.1 hn2).2.2 _ hc _ (by simp) rfl
    show v.bs.idxOf b = _
    rw [e, List.idxOf_append, if_neg hb]; simp
theorem fork23 (h : Inv v w) (hk : okNew v.kind v.n v.keep = true) : Calls Try.prog 23 #[.pointer (some (ad v.B))] w (Ret fun u w' => ∃ v', u = .pointer (some (ad v'.B)) ∧ Good w v'.B v' w' ∧ v'.line = v.line ∧ v'.kind = v.kind ∧ v'.keep = v.keep ∧ v'.n = v.n) := by
  refine f23.calls _ ?_
  unfold f23.wp
  refine Calls.use (made27 h.hv) ?_
  rintro _ _ ⟨rfl, rfl⟩
  have hd := h.drew
  have cd : Chg none_ w w.drew := (Chg.refl none_ w).drew
  have hw0 : w.drew.heap.size = w.heap.size := rfl
  generalize w.drew = w0 at *
  refine ⟨_, rfl, bcF rfl ⟨fun p => p.block < w0.heap.size, onPtr_mk ⟨_, hd.hv.lt, (hd.hv.cell 0).trans rfl, onPtr_mk ⟨_, _, _, hd.hv.keepsAll rfl 0 4 3 (by omega), (hd.hv.cell0 3).trans rfl, onPtr_mk ⟨_, hd.hv.keepsAll rfl 0 4 1 (by omega), (hd.hv.cell0 1).trans rfl, Calls.use (new16 w0 v.kind v.n v.keep) ?_⟩⟩⟩⟩⟩
  rintro _ w2 (⟨hno, _⟩ | ⟨_, f0, b, rfl⟩)
  · rw [hk] at hno; cases hno
  have cw2 : Chg none_ w w2 := cd.trans b.chg
  have h2 := hd.chg b.chg (fun _ _ hf => hf)
  refine ⟨_, _, rfl, b.chg.keeps, onPtr_mk ⟨_, (h2.hv.cell0 2).trans rfl, onPtr_mk ⟨_, h2.hn.nx (x := v.r) (by simp), ?_⟩⟩⟩
  rw [h.ring.nxr]
  have hnum : f0.n = v.n := by rw [b.num]; simp
  have F0 : Good w f0.B f0 w2 := ⟨b.inv, rfl, fun x hx => hw0 ▸ b.own x hx, cw2⟩
  refine ⟨fun x w3 => ∃ l1 l2 f, v.bs = l1 ++ l2 ∧ x = some (ad (l2.headD v.r)) ∧ Good w f0.B f w3 ∧ f.line = l1.map v.f ∧ f.kind = v.kind ∧ f.keep = v.keep ∧ f.n = v.n,
    fun x _ => match x with | some a => v.bs.length - v.bs.idxOf a.block | none => 0, ⟨[], v.bs, f0, rfl, rfl, F0, b.line, b.kind, b.keep, hnum⟩, ?_⟩
  clear b h2 cw2 cd hd
  rintro x w3 ⟨l1, l2, f, e, rfl, F, lf, kf, pf, nf⟩
  have h3 := h.chg F.chg (fun _ _ hf => hf)
  have hdm : l2.headD v.r ∈ v.r :: v.bs := by rw [e]; cases l2 <;> simp
  refine onPtr_mk ⟨_, (h3.hv.cell0 2).trans rfl, ptrOk_blk (h3.hn _ hdm) (h3.hn v.r (by simp)) (by simp [G.nd, ndA]) (by simp [G.nd, ndA]), bc (fun hne => ?_) (fun heq => ?_)⟩
  · cases l2 with
    | nil => simp at hne
    | cons b t =>
      have hb : b ∈ v.r :: v.bs := hdm
      have hbb : b ∈ v.bs := by rw [e]; simp
      obtain ⟨i, hi, hri⟩ := h.tabI b hbb
      have hin : i < v.n := by
        rw [← h.len]
        rcases Nat.lt_or_ge i v.arr.length with h1 | h1
        · exact h1
        · rw [List.getElem?_eq_none h1] at hi; cases hi
      refine onPtr_mk ⟨_, h3.hn.rg hb, Calls.use (F.putIn _) ?_⟩
      rintro _ w4 ⟨rfl, f4, F4, s4, l4⟩
      have h4 := h.chg F4.chg (fun _ _ hf => hf)
      have h4d := h4.drew
      have F4d : Good w f0.B f4 w4.drew := F4.next (Chg.refl none_ w4).drew
      have hl4 : f4.line = l1.map v.f ++ [(v.g.rg b, false)] := by
        rw [l4, lf, nf]
        show (sealL v.n (l1.map v.f) (v.g.rg b)).2 = _
        have e1 : inR v.n (v.g.rg b) = true := by simp [inR, hri]; omega
        have e2 : has (l1.map v.f) (v.g.rg b) = false := by
          simp only [Ytnloecggngmcjaa.has, List.any_eq_false, beq_iff_eq]
          intro y hy hc
          obtain ⟨z, hz, rfl⟩ := List.mem_map.1 hy
          have hzb := h.uniq (a := z) (b := b) (by rw [e]; simp [hz]) hbb hc
          have hn2 := (List.nodup_cons.1 h.ring.nodup).2
          rw [e] at hn2
          exact (List.nodup_append.1 hn2).2.2 _ hz _ (by simp) hzb
        simp [sealL, e1, e2]
      obtain ⟨b', hb'⟩ := (F4.inv.has i).1 (by rw [hl4]; simp [Ytnloecggngmcjaa.has, hri])
      have hB4 : Blk w4.drew f0.B 53 (vicA f4.kind f4.keep f4.r f4.A f4.n) := F4.B ▸ F4d.inv.hv
      have nf4 : f4.n = v.n := s4.n.trans nf
      have kf4 : f4.kind = v.kind := s4.kind.trans kf
      have pf4 : f4.keep = v.keep := s4.keep.trans pf
      clear s4
      generalize w4.drew = w5 at *
      have hcell : w5.cell? ((ad f4.A).add ((v.g.rg b).toNat * 1)) = some (.pointer (some (ad b'))) := by
        have := F4d.inv.cell hb'
        rw [hri]; simpa [po] using this
      obtain ⟨hbm1, hbm2⟩ := F4d.inv.tabO i b' hb'
      have hbm : b' ∈ f4.r :: f4.bs := by simp [hbm1]
      refine ⟨_, rfl, onPtr_mk ⟨_, _, _, (hB4.cell0 3).trans rfl, onPtr_mk ⟨_, h4d.hn.rg hb, onPtr_mk ⟨by rw [show (b :: t).headD v.r = b from rfl, hri]; omega, by rw [show (b :: t).headD v.r = b from rfl, hri]; omega, _, hcell, onPtr_mk ⟨_, h4d.hn.mr hb, onPtr_mk ⟨F4d.inv.hn.st hbm (by decide), fun w6 e6 => ?_⟩⟩⟩⟩⟩⟩
      have s6 := setMark F4d.inv hbm1 e6
      have F6 := F4d.step s6
      have h6 := h.chg F6.chg (fun _ _ hf => hf)
      refine onPtr_mk ⟨_, h6.hn.nx hb, ⟨l1 ++ [b], t, f4.marked b' (v.g.mr b), by simp [e], by rw [show (b :: t).headD v.r = b from rfl, h.next e], F6, ?_, kf4, pf4, nf4⟩, ?_⟩
      · rw [F4d.inv.marked_line hb', hl4, List.map_append, List.map_append]
        congr 1
        · rw [List.map_map]
          refine List.map_congr_left fun y hy => ?_
          have : v.g.rg y ≠ i := fun hc => by
            have hyb := h.uniq (a := y) (b := b) (by rw [e]; simp [hy]) hbb (hc.trans hri.symm)
            have hn2 := (List.nodup_cons.1 h.ring.nodup).2
            rw [e] at hn2
            exact (List.nodup_append.1 hn2).2.2 _ hy _ (by simp) hyb
          simp [this]
        · simp [hri]
      · show v.bs.length - v.bs.idxOf (v.g.nx b) < v.bs.length - v.bs.idxOf b
        have i1 := h.idx e
        have i2 := h.idx (l1 := l1 ++ [b]) (l2 := t) (by simp [e])
        rw [h.next e, i2, show v.bs.idxOf b = l1.length from i1]
        have := congrArg List.length e
        simp at this ⊢
        omega
  · cases l2 with
    | nil =>
      have e' : v.bs = l1 := by simpa using e
      refine ⟨f, by rw [F.B], by rw [F.B]; exact F, by rw [lf, ← e']; rfl, kf, pf, nf⟩
    | cons b t =>
      exfalso
      have hbr : b = v.r := by simpa using heq
      have := (List.nodup_cons.1 h.ring.nodup).1
      exact this (by rw [e, hbr]; simp)
end
end Go.Proofs.Ytnloecggngmcjaa
