import Derived.Test.YtibpbbjlecohiaaLaD
set_option maxRecDepth 20000
namespace Go.Proofs.Ytibpbbjlecohiaa
open Go Go.Vc Go.RowKit
theorem unlock19 {w : World} {base N Q o : Nat} {s : LS} (h : Inv w base N Q o s.ms s.wt) (task n : Int) :
    Calls Try.prog 19 #[.pointer (some (ad o)), .int .i64 task, .int .i64 n] w (Ret fun v w' => ∃ q l c, v = .tuple #[.slice q l c, .int .i64 (unlockS s task n).2.1] ∧ RE En.int w' q l (unlockS s task n).1 ∧ Inv w' base N Q o (unlockS s task n).2.2.ms (unlockS s task n).2.2.wt ∧ LC base w w') := by
  have hbase := h.base_le
  refine f19.calls _ _ _ ?_
  unfold f19.wp
  refine Calls.use (sizes43 h) ?_
  rintro _ w1 ⟨_, _, _, rfl, k1⟩
  refine ⟨_, _, _, _, rfl, newBox fun w2 B2 k2 _ => Calls.use (asks44 ((h.chgN k1).chgN k2) task B2) ?_⟩
  rintro _ w3 ⟨rfl, k3⟩
  have k03 := k1.trans (k2.trans k3)
  have h3 := h.chgN k03
  have hb3 := h3.base_le
  have L03 : LC base w w3 := LC.ofN k03 hbase
  refine ⟨_, rfl, bc (fun he => ?_) (fun he => ?_)⟩
  · have he : askE task n s.ms.length s.wt ≠ 0 := by simpa using he
    have e : unlockS s task n = ([], askE task n s.ms.length s.wt, s) := by rw [unlockS, if_pos he]
    rw [e]
    exact ⟨_, _, _, rfl, RE.nil _ _ _, h3, L03⟩
  have he : askE task n s.ms.length s.wt = 0 := by simpa using he
  obtain ⟨t0, t1, n0, n1, hw⟩ := askE_ok he
  obtain ⟨i, rfl⟩ : ∃ i : Nat, n = i := ⟨n.toNat, by omega⟩
  obtain ⟨mx, hmx⟩ := get_ex (l := s.ms) (i := i) (by omega)
  have e0 : unlockS s task i = if mx.owner ≠ task then (([], 82, s) : List Int × Int × LS) else match mx.queue with
    | [] => ([], 0, ⟨s.ms.set i ⟨-1, []⟩, s.wt⟩)
    | x :: xs => ([x.task], 0, ⟨s.ms.set i ⟨x.task, xs⟩, updF s.wt x.task none⟩) := by
    unfold unlockS
    rw [if_neg (by simp [he]), Int.toNat_natCast, hmx]
    rfl
  obtain ⟨qm, cm, q2, l2, c2, q3, l3, c3, q4, l4, c4, m, k, hs, B, hb, S, ho, R, M, hm, hk, hq, hq64⟩ := h3.ex
  have hil : i < s.ms.length := get_lt hmx
  obtain ⟨hx, hhx⟩ := get_ex (l := hs) (i := i) (by rw [S.len]; exact hil)
  have hown : hx.owner = mx.owner := by
    have a1 := map_at (f := MxH.owner) hhx
    rw [ho, map_at (f := Mx.owner) hmx] at a1
    exact (Option.some.inj a1).symm
  obtain ⟨a, y, rfl, hy, hr⟩ := S.re.ex (i := i) hil
  rw [hhx] at hy; cases hy
  have c0 := reads_at hr (i := 0) rfl
  rw [add_zero'] at c0
  have et : ((i : Int)).toNat = i := by omega
  refine onPtr_mk ⟨_, _, _, (B.cell 0).trans rfl, onPtr_mk ⟨by omega, by omega, hx.owner, c0, ?_⟩⟩
  rw [hown, e0]
  refine bc (fun hne => ?_) (fun heq => ?_)
  · have hne : mx.owner ≠ task := by simpa using hne
    rw [if_pos hne]
    exact ⟨_, _, _, rfl, RE.nil _ _ _, h3, L03⟩
  · have heq : ¬ (mx.owner ≠ task) := by simpa using heq
    rw [if_neg heq]
    refine onPtr_mk ⟨_, _, _, (B.cell 0).trans rfl, onPtr_mk ⟨by omega, by omega, ?_⟩⟩
    rw [et]
    refine Calls.use (hand46 h3 hmx ((B.cell 0).trans rfl)) ?_
    rintro _ w4 ⟨q, l, c, rfl, h4⟩
    refine ⟨_, _, _, rfl, ?_⟩
    cases hqu : mx.queue with
    | nil =>
      rw [hqu] at h4
      exact ⟨_, _, _, rfl, h4.1, h4.2.1, L03.trans h4.2.2⟩
    | cons x xs =>
      rw [hqu] at h4
      exact ⟨_, _, _, rfl, h4.1, h4.2.1, L03.trans h4.2.2⟩
theorem awake16 (w : World) : Calls Try.prog 16 #[] w (Ret fun v w' => v = .bool true ∧ Chg none_ w w') := by
  refine f16.calls ?_
  unfold f16.wp
  refine Calls.use (new17 w 1 0 0 0) ?_
  rintro _ w1 (⟨hn, _⟩ | ⟨_, o, rfl, I1, k1⟩)
  · exact absurd ⟨⟨by decide, by decide⟩, ⟨by decide, by decide⟩, ⟨by decide, by decide⟩, ⟨by decide, by decide⟩⟩ hn
  refine ⟨_, _, rfl, bcF rfl ⟨ptrOk_none _ _, bcF rfl (Calls.use (lock18 (s := ⟨free 1, fun _ => none⟩) I1 (by decide) (by decide) 0 0) ?_)⟩⟩
  rintro _ w2 ⟨rfl, I2, L2⟩
  refine ⟨_, _, rfl, Calls.use (lock18 I2 (by decide) (by decide) 1 0) ?_⟩
  rintro _ w3 ⟨rfl, I3, L3⟩
  refine ⟨_, _, rfl, Calls.use (unlock19 I3 0 0) ?_⟩
  rintro _ w4 ⟨q, l, c, rfl, hq, I4, L4⟩
  have e : (unlockS (lockS (lockS ⟨free 1, fun _ => none⟩ 0 0).2.2 1 0).2.2 0 0).1 = [1] := rfl
  rw [e] at hq
  have hl : l = 1 := hq.len.symm
  subst hl
  obtain ⟨a, x, rfl, hx, hr⟩ := hq.ex (i := 0) (by decide)
  cases hx
  exact ⟨_, _, _, _, rfl, bcT rfl (bcT rfl (bcT rfl (bcT rfl (bcT rfl (bcT rfl (onPtr_mk ⟨by decide, by decide, 1, reads_one' hr, rfl, (L2.trans (L3.trans L4)).chg k1 (Nat.le_refl _)⟩))))))⟩
theorem names3 (w : World) : Calls Try.prog 3 #[] w (Ret fun v w' => v = .bool true ∧ Chg none_ w w') := by
  refine f3.calls ?_
  unfold f3.wp
  refine Calls.use (awake16 w) ?_
  rintro _ w1 ⟨rfl, k1⟩
  exact ⟨_, rfl, bcT rfl ⟨rfl, k1⟩⟩
end Go.Proofs.Ytibpbbjlecohiaa
