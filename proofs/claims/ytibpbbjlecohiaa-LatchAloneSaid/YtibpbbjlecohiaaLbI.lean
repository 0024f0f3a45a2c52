import Derived.Test.YtibpbbjlecohiaaLbH
set_option maxRecDepth 20000
namespace Go.Proofs.Ytibpbbjlecohiaa
namespace Full
open Go Go.Vc Go.RowKit
section
variable {w w' : World} {base N Q o : Nat} {g : G8} {s : S8}
/-- RLock (kind 3), WLock (kind 5) -/
def takeF (s : S8) (task n kind : Int) : Bool × Int × S8 :=
  if askL task [(n, s.ls.length)] s.wt ≠ 0 then (false, askL task [(n, s.ls.length)] s.wt, s) else
  match s.ls[n.toNat]? with
  | none => (false, 0, s)
  | some m => if hasF m task then (false, 81, s) else if m.queue.length = 0 ∧ mayF m (kind == 5) then (true, 0, { s with ls := s.ls.set n.toNat (giveF m ⟨task, kind == 5, 0⟩) }) else
    (false, 0, { s with ls := s.ls.set n.toNat ⟨m.readers, m.writer, m.queue ++ [⟨task, kind == 5, 0⟩]⟩, wt := updF s.wt task (some (task, kind, n)) })
theorem take85 (h : InvG w base N Q o g s) (hN : N ≤ 4000000000000000000) (hQ : Q ≤ 4398046511104) (task n kind : Int) :
    Calls Try.prog 85 #[.pointer (some (ad o)), .int .i64 task, .int .i64 n, .int .i64 kind] w (Ret fun v w' => v = .tuple #[.bool (takeF s task n kind).1, .int .i64 (takeF s task n kind).2.1] ∧ ∃ g', InvG w' base (N + 1) (Q + 1) o g' (takeF s task n kind).2.2 ∧ Stp o w g w' g') := by
  refine f85.calls _ _ _ _ ?_
  unfold f85.wp
  refine Calls.use (sizes43 h) ?_
  rintro _ w1 ⟨rfl, k1⟩
  refine ⟨_, _, _, _, rfl, newBox fun w2 B2 k2 _ => Calls.use (asks44 ((h.chgN k1).chgN k2) task (RE.of_flat (xs := [(n, (s.ls.length : Int))]) rfl B2.reads0) (by decide)) ?_⟩
  rintro _ w3 ⟨rfl, k3⟩
  have k03 := k1.trans (k2.trans k3)
  have h3 := h.chgN k03
  have L03 : Stp o w g w3 g := Stp.ofN k03
  refine ⟨_, rfl, bc (fun he => ?_) (fun he => ?_)⟩
  · have he : askL task [(n, s.ls.length)] s.wt ≠ 0 := by simpa using he
    have e : takeF s task n kind = (false, askL task [(n, s.ls.length)] s.wt, s) := by unfold takeF; rw [if_pos he]
    rw [e]
    exact ⟨rfl, g, h3.up (by omega) (by omega), L03⟩
  have he : askL task [(n, s.ls.length)] s.wt = 0 := by simpa using he
  obtain ⟨t0, t1, hbad, hw⟩ := askL_ok he
  obtain ⟨n0, n1⟩ := badN_one hbad
  obtain ⟨i, rfl⟩ : ∃ i : Nat, n = i := ⟨n.toNat, by omega⟩
  obtain ⟨lx, hlx⟩ := get_ex (l := s.ls) (i := i) (by omega)
  have hil := get_lt hlx
  have e0 : takeF s task i kind = if hasF lx task then (false, 81, s) else if lx.queue.length = 0 ∧ mayF lx (kind == 5) then (true, 0, { s with ls := s.ls.set i (giveF lx ⟨task, kind == 5, 0⟩) }) else
    (false, 0, { s with ls := s.ls.set i ⟨lx.readers, lx.writer, lx.queue ++ [⟨task, kind == 5, 0⟩]⟩, wt := updF s.wt task (some (task, kind, (i : Int))) }) := by
    unfold takeF
    rw [if_neg (by simp [he]), Int.toNat_natCast, hlx]
  have ht64 := ok64_task t0 t1
  obtain ⟨a, _, _, ha, _⟩ := h3.lrow_at hlx
  have O := h3.obj
  rw [ha] at O
  have et : ((i : Int)).toNat = i := by omega
  refine onPtr_mk ⟨_, _, _, (O.cell0 1).trans rfl, onPtr_mk ⟨by omega, by omega, boxed rfl rfl fun w5 B5 k5 _ => ?_⟩⟩
  rw [et]
  have h5 := h3.chgN k5
  have L05 : Stp o w g w5 g := L03.trans (Stp.ofN k5)
  obtain ⟨a', hr, hd, ha', hhx, Qe, Re, c0, c1, c2⟩ := h5.lrow_at hlx
  rw [ha] at ha'; cases ha'
  have hql : lx.queue.length = hd.2.1 := Qe.len
  have hqN := wt_lt h5 (h5.lq_at hhx hlx).2
  refine ⟨fun w' => w5 = w' ∧ ¬ hasF lx task = true ∧ ¬ (lx.queue.length = 0 ∧ mayF lx (kind == 5) = true), ?_, Calls.use (has110 h5 hlx ha task hQ) ?_⟩
  · rintro _ ⟨rfl, hh, hq⟩
    rw [e0, if_neg hh, if_neg hq]
    have kd := (Chg.refl none_ w5).drew
    have h6 := h5.chgN kd
    have Q6' := Qe.chgN kd
    have B6 := B5.drew
    have c2' := (kd.cell (cell_some c2) (fun x => x)).trans c2
    have L06 : Stp o w g w5.drew g := L05.trans (Stp.ofN kd)
    generalize w5.drew = W at *
    refine ⟨fun p => p = (a.add (i * 3)).add 2 ∨ p.block = w3.heap.size, _, _, _, .inl rfl, c2', _, _, _, fun j _ => .inr (by rw [add_block]), B6.reads0, newBox fun w10 B10 k10 _ => ?_⟩
    have hKn : Keeps (fun p => p = (a.add (i * 3)).add 2 ∨ p.block = w3.heap.size) W w10 := fun p hp => k10.cell (by
      rcases hp with rfl | hp
      · exact cell_some c2'
      · rw [hp]; exact B6.lt) (fun x => x)
    have hb : base ≤ w10.heap.size := Nat.le_trans (Nat.le_trans h6.bo (Nat.le_of_lt h6.obj.lt)) k10.size
    have h10 := h6.chgN k10
    obtain ⟨q', c', w11, hrun, Q11, k11, hq11, _⟩ := (Q6'.chgN k10).append1 (t := 95) (ty := 95) (x := ⟨task, kind == 5, 0⟩) elemWt B10 (by simp only [maxLen]; omega) (by show (hd.2.1 + 1) * 24 ≤ _; omega) hb
    have P11 := (h10.toParts.turn (Q6'.chgN k10) k11).lk
    rw [ha] at P11
    have S10 := h10.lk
    rw [ha] at S10
    have B10o := k10.blk B6 (fun x => x)
    have nown : ¬ Own g o w3.heap.size := fun ho => by
      have := (h3.own_lt ho).1
      omega
    have La' : ¬ (some a.block = qB hd.1) := fun e => SE.ne2 (Q6'.chgN k10) S10 (by decide) _ e.symm rfl
    have Lb' : ¬ (some w3.heap.size = qB hd.1) := fun e => nown (.que (List.mem_of_getElem? (h3.lq_at hhx hlx).1) e.symm)
    refine ⟨hKn, _, _, _, w11, hrun, fun p hp => ?_, (lcan P11 hil).2.2, fun w12 e12 => ?_⟩
    · rw [k11.cell ?_ ?_]
      · exact hKn p hp
      · rcases hp with rfl | hp
        · exact Nat.lt_of_lt_of_le (cell_some c2') k10.size
        · rw [hp]; exact B10o.lt
      · rcases hp with rfl | hp
        · rw [add_block, add_block]; exact La'
        · rw [hp]; exact Lb'
    · obtain ⟨I12, st12⟩ := h10.lq (Q' := Q + 1) hhx hlx (h1 := (q', hd.2.1 + 1, c')) k11 Q11 (hq11.imp id .inl) ha e12 (by simp; omega) (fun y hy => by
        rcases List.mem_append.1 hy with hy | hy
        · exact h3.ht lx.queue (List.mem_of_getElem? (h3.lq_at hhx hlx).2) y hy
        · simp at hy; subst hy; exact ht64)
      refine Calls.use (wait45 I12 hN ht64 kind i) ?_
      rintro _ w13 ⟨rfl, g13, I13, st13⟩
      exact ⟨rfl, rfl, g13, I13, L06.trans ((Stp.ofN k10).trans (st12.trans st13))⟩
  · rintro _ _ ⟨rfl, rfl⟩
    refine ⟨_, rfl, bc (fun hh => ?_) (fun hh => ?_)⟩
    · rw [e0, if_pos hh]
      exact ⟨rfl, g, h5.up (by omega) (by omega), L05⟩
    have hh' : ¬ hasF lx task = true := by rw [hh]; decide
    refine ⟨_, _, _, c2, bc (fun hq0 => ?_) (fun hq0 => ⟨rfl, hh', fun h => ?_⟩)⟩
    · have hq0 : lx.queue.length = 0 := by rw [hql]; simpa using hq0
      refine ⟨_, (B5.cell0 1).trans rfl, Calls.use (may111 h5 hlx ha (kind == 5)) ?_⟩
      rintro _ _ ⟨rfl, rfl⟩
      refine ⟨_, rfl, bc (fun hm => ⟨_, _, _, B5.reads0, Calls.use (give112 h5 hlx ha ⟨task, kind == 5, 0⟩ hQ) ?_⟩) (fun hm => ⟨rfl, hh', fun h => by rw [hm] at h; cases h.2⟩)⟩
      rintro _ w9 ⟨rfl, g9, I9, st9, _⟩
      rw [e0, if_neg hh', if_pos ⟨hq0, hm⟩]
      exact ⟨rfl, rfl, g9, I9.up (by omega) (Nat.le_refl _), L05.trans st9⟩
    · have : hd.2.1 ≠ 0 := by simpa using hq0
      exact this (by rw [← hql]; exact h.1)
theorem rlock47 (h : InvG w base N Q o g s) (hN : N ≤ 4000000000000000000) (hQ : Q ≤ 4398046511104) (task n : Int) :
    Calls Try.prog 47 #[.pointer (some (ad o)), .int .i64 task, .int .i64 n] w (Ret fun v w' => v = .tuple #[.bool (takeF s task n 3).1, .int .i64 (takeF s task n 3).2.1] ∧ ∃ g', InvG w' base (N + 1) (Q + 1) o g' (takeF s task n 3).2.2 ∧ Stp o w g w' g') := by
  refine f47.calls _ _ _ ?_
  unfold f47.wp
  refine Calls.use (take85 h hN hQ task n 3) ?_
  rintro _ w1 ⟨rfl, hI⟩
  exact ⟨_, _, rfl, rfl, hI⟩
theorem wlock49 (h : InvG w base N Q o g s) (hN : N ≤ 4000000000000000000) (hQ : Q ≤ 4398046511104) (task n : Int) :
    Calls Try.prog 49 #[.pointer (some (ad o)), .int .i64 task, .int .i64 n] w (Ret fun v w' => v = .tuple #[.bool (takeF s task n 5).1, .int .i64 (takeF s task n 5).2.1] ∧ ∃ g', InvG w' base (N + 1) (Q + 1) o g' (takeF s task n 5).2.2 ∧ Stp o w g w' g') := by
  refine f49.calls _ _ _ ?_
  unfold f49.wp
  refine Calls.use (take85 h hN hQ task n 5) ?_
  rintro _ w1 ⟨rfl, hI⟩
  exact ⟨_, _, rfl, rfl, hI⟩
end
end Full
end Go.Proofs.Ytibpbbjlecohiaa
