import Derived.Test.YtibpbbjlecohiaaLbK
set_option maxRecDepth 20000
namespace Go.Proofs.Ytibpbbjlecohiaa
namespace Full
open Go Go.Vc Go.RowKit
section
variable {w w' : World} {base N Q o : Nat} {g : G8} {s : S8}
theorem InvG.crow_at (h : InvG w base N Q o g s) {i : Nat} {xs : List Wt} (hcx : s.cs[i]? = some xs) : ∃ (a : Addr) (hd : Hd), g.q3 = some a ∧ g.ch[i]? = some hd ∧ SE En.wt w base 106 hd.1 hd.2.1 hd.2.2 xs ∧ w.cell? (a.add (i * 1)) = some (.slice hd.1 hd.2.1 hd.2.2) := by
  have hil := get_lt hcx
  obtain ⟨a, hd, ha, hhx, hr⟩ := h.cd.re.ex (i := i) hil
  have hq := h.cq_at hhx hcx
  exact ⟨a, hd, ha, hhx, h.que.se _ hd xs hq.1 hq.2, reads_one' hr⟩
theorem ccan {l c : Nat} {ch : List Hd} {a : Addr} (S : SE En.hd w base 95 (some a) l c ch) {i : Nat} (hi : i < l) : canStore w (a.add (i * 1)) 1 := by
  obtain ⟨a', ha', hcan⟩ := S.can hi
  cases ha'
  have hc0 := hcan 0 1 (by decide)
  rw [add_zero'] at hc0
  exact hc0
/-- the first that waits for a condition goes -/
def letF (s : S8) (i : Nat) (x : Wt) (xs : List Wt) (mx : Mx) : List Int × S8 :=
  if 0 ≤ mx.owner then ([], { s with cs := s.cs.set i xs, ms := s.ms.set x.mutex.toNat ⟨mx.owner, mx.queue ++ [x]⟩, wt := updF s.wt x.task (some (x.task, 1, x.mutex)) })
  else ([x.task], { s with cs := s.cs.set i xs, ms := s.ms.set x.mutex.toNat ⟨x.task, mx.queue⟩, wt := updF s.wt x.task none })
theorem let89 (h : InvG w base N Q o g s) (hN : N ≤ 4000000000000000000) (hQ : Q ≤ 4398046511104) {i : Nat} {x : Wt} {xs : List Wt} (hcx : s.cs[i]? = some (x :: xs)) {mx : Mx} (hmx : s.ms[x.mutex.toNat]? = some mx) :
    Calls Try.prog 89 #[.pointer (some (ad o)), .int .i64 (i : Int)] w (Ret fun v w' => ∃ q l c, v = .slice q l c ∧ Woke w w' base N Q o g q l (letF s i x xs mx).1 (letF s i x xs mx).2) := by
  have hil := get_lt hcx
  have et : ((i : Int)).toNat = i := by omega
  obtain ⟨a, hd, ha, hhx, Qe, c0⟩ := h.crow_at hcx
  have O := h.obj
  rw [ha] at O
  have hcb := h.hc (x :: xs) (List.mem_of_getElem? hcx) x (.head _)
  obtain ⟨mi, hmi⟩ : ∃ mi : Nat, x.mutex = mi := ⟨x.mutex.toNat, by omega⟩
  have hmt : x.mutex.toNat = mi := by omega
  rw [hmt] at hmx
  have htq := h.ht (x :: xs) (List.mem_of_getElem? (h.cq_at hhx hcx).2)
  refine f89.calls _ _ ?_
  unfold f89.wp
  refine onPtr_mk ⟨_, _, _, (O.cell0 2).trans rfl, onPtr_mk ⟨by omega, by omega, ?_⟩⟩
  rw [et]
  have hlen : xs.length + 1 = hd.2.1 := Qe.len
  obtain ⟨qa, y, hqa, hy, hrq⟩ := Qe.re.ex (i := 0) (by omega)
  cases hy
  refine ⟨_, _, _, c0, ?_⟩
  rw [hqa]
  refine onPtr_mk ⟨by decide, by omega, _, _, _, hrq, boxed rfl rfl fun w2 B2 k2 s2 => ?_⟩
  have n0 : ¬ Own g o w.heap.size := fun ho => Nat.lt_irrefl _ (h.own_lt ho).1
  have kd := k2.drew
  have h2 := h.chgN kd
  have st2 : Stp o w g w2.drew g := Stp.ofN kd
  have B2' := B2.drew
  have Q2 := Qe.chgN kd
  have c02 := (kd.cell (cell_some c0) (fun x => x)).trans c0
  generalize w2.drew = W at *
  have O2 := h2.obj
  rw [ha] at O2
  have S2 := h2.cd
  rw [ha] at S2
  refine ⟨fun p => p.block = o ∨ p.block = a.block, onPtr_mk ⟨_, _, _, .inl (by rw [add_block]), (O2.cell0 2).trans rfl, onPtr_mk ⟨_, _, _, .inl (by rw [add_block]), (O2.cell0 2).trans rfl, onPtr_mk ⟨by omega, by omega, _, _, _, .inr (by rw [add_block]), c02, Calls.use (delete84 Q2) ?_⟩⟩⟩⟩
  rintro _ w3 ⟨rfl, Q3, k3⟩
  have P3 := (h2.toParts.turn Q2 k3).cd
  rw [ha] at P3
  have hKp : Keeps (fun p => p.block = o ∨ p.block = a.block) W w3 := fun p hp => by
    obtain ⟨curA, BA⟩ := S2.blk (g := a.block) rfl
    refine k3.cell ?_ ?_
    · rcases hp with hp | hp <;> rw [hp]
      · exact O2.lt
      · exact BA.lt
    · rcases hp with hp | hp <;> rw [hp] <;> intro e
      · exact SE.ne Q2 O2 (by decide) _ e.symm rfl
      · exact SE.ne Q2 BA (by decide) _ e.symm rfl
  refine ⟨_, _, _, rfl, hKp, onPtr_mk ⟨by omega, by omega, ccan P3 hil, fun w4 e4 => ?_⟩⟩
  have hN1 : 1 ≤ N := by have := h.hn; have := tot_at hcx; simp at this; omega
  have hQ1 : 1 ≤ Q := by have := wt_lt h (h.cq_at hhx hcx).2; simp at this; omega
  obtain ⟨I4, st4⟩ := h2.cq (N' := N - 1) (Q' := Q - 1) hhx hcx (h1 := (hd.1, hd.2.1 - 1, hd.2.2)) (ys := xs) k3 Q3 (.inl rfl) ha e4 (by simp; omega) (by simp; omega) (fun y hy => htq y (.tail _ hy)) (fun y hy => h.hc (x :: xs) (List.mem_of_getElem? hcx) y (.tail _ hy))
  have B4 := st4.blk B2' n0
  have n4 := st4.nown B2'.lt n0
  have kd4 := (Chg.refl none_ w4).drew
  have I4' := I4.chgN kd4
  have st4' : Stp o w4 { g with ch := g.ch.set i (hd.1, hd.2.1 - 1, hd.2.2) } w4.drew { g with ch := g.ch.set i (hd.1, hd.2.1 - 1, hd.2.2) } := Stp.ofN kd4
  have st04 := st2.trans (st4.trans st4')
  have B4' := B4.drew
  generalize w4.drew = V at *
  obtain ⟨b, hm, hb, hmh, Qm, d0, d1⟩ := I4'.mrow_at (i := mi) (mx := mx) hmx
  have O4 := I4'.obj
  rw [hb] at O4
  have hml : mi < s.ms.length := get_lt hmx
  have Sm := I4'.mx
  rw [hb] at Sm
  have emt : (x.mutex).toNat = mi := hmt
  refine onPtr_mk ⟨_, _, _, (O4.cell 0).trans rfl, x.mutex, (B4'.cell0 2).trans rfl, onPtr_mk ⟨hcb.1, hcb.2, ?_⟩⟩
  rw [emt]
  refine ⟨_, d0, bc (fun hown => ?_) (fun hown => ?_)⟩
  · have hown := of_decide_eq_true hown
    have eF : letF s i x xs mx = ([], { s with cs := s.cs.set i xs, ms := s.ms.set mi ⟨mx.owner, mx.queue ++ [x]⟩, wt := updF s.wt x.task (some (x.task, 1, x.mutex)) }) := by rw [letF, if_pos hown, hmt]
    rw [eF]
    have kv := (Chg.refl none_ V).drew
    have I5 := I4'.chgN kv
    have Q5m := Qm.chgN kv
    have B5c := B4'.drew
    have d1' := (kv.cell (cell_some d1) (fun x => x)).trans d1
    have st05 := st04.trans (Stp.ofN kv)
    generalize V.drew = U at *
    refine ⟨fun p => p = (b.add (mi * 2)).add 1 ∨ p.block = w.heap.size, _, _, _, .inl rfl, d1', _, _, _, fun j _ => .inr (by rw [add_block]), B5c.reads0, newBox fun w5 B5 k5 _ => ?_⟩
    have hKn : Keeps (fun p => p = (b.add (mi * 2)).add 1 ∨ p.block = w.heap.size) U w5 := fun p hp => k5.cell (by
      rcases hp with rfl | hp
      · exact cell_some d1'
      · rw [hp]; exact B5c.lt) (fun x => x)
    have I5' := I5.chgN k5
    have hb5 : base ≤ w5.heap.size := Nat.le_trans I5'.bo (Nat.le_of_lt I5'.obj.lt)
    have hml' : mx.queue.length = hm.2.1 := Qm.len
    have hmq := wt_lt I4' (j := mi) (app_at (map_at (f := Mx.queue) hmx))
    obtain ⟨q', c', w6, hrun, Q6, k6, hq6, _⟩ := (Q5m.chgN k5).append1 (t := 95) (ty := 95) (x := x) elemWt B5 (by simp only [maxLen]; omega) (by show (hm.2.1 + 1) * 24 ≤ _; omega) hb5
    have P6 := (I5'.toParts.turn (Q5m.chgN k5) k6).mx
    rw [hb] at P6
    have B5o := k5.blk B5c (fun x => x)
    have S5' := I5'.mx
    rw [hb] at S5'
    have nb : ¬ (some b.block = qB hm.1) := fun e => SE.ne2 (Q5m.chgN k5) S5' (by decide) _ e.symm rfl
    have nc : ¬ (some w.heap.size = qB hm.1) := fun e => n4 (.que (List.mem_of_getElem? (app_at (map_at (f := MxH.hd) hmh))) e.symm)
    refine ⟨hKn, _, _, _, w6, hrun, fun p hp => ?_, (mcan P6 hml).2, fun w7 e7 => ?_⟩
    · rw [k6.cell ?_ ?_]
      · exact hKn p hp
      · rcases hp with rfl | hp
        · exact Nat.lt_of_lt_of_le (cell_some d1') k5.size
        · rw [hp]; exact B5o.lt
      · rcases hp with rfl | hp
        · rw [add_block, add_block]; exact nb
        · rw [hp]; exact nc
    · obtain ⟨I7, st7⟩ := I5'.mq (Q' := Q) hmh hmx (h1 := (q', hm.2.1 + 1, c')) k6 Q6 (hq6.imp id .inl) hb e7 (by simp; omega) (fun y hy => by
        rcases List.mem_append.1 hy with hy | hy
        · exact I4'.ht mx.queue (List.mem_of_getElem? (app_at (map_at (f := Mx.queue) hmx))) y hy
        · simp at hy; subst hy; exact htq y (.head _))
      have B7 := st7.blk B5o n4
      refine ⟨x.task, (B7.cell 0).trans rfl, x.mutex, (B7.cell0 2).trans rfl, Calls.use (wait45 I7 (by omega) (htq x (.head _)) 1 x.mutex) ?_⟩
      rintro _ w8 ⟨rfl, g8, I8, st8⟩
      have e1 : N - 1 + 1 = N := by omega
      rw [e1] at I8
      exact ⟨rfl, _, _, _, rfl, Woke.nil I8 (st05.trans ((Stp.ofN k5).trans (st7.trans st8)))⟩
  · have hown : ¬ 0 ≤ mx.owner := by have := of_decide_eq_false hown; omega
    have eF : letF s i x xs mx = ([x.task], { s with cs := s.cs.set i xs, ms := s.ms.set mi ⟨x.task, mx.queue⟩, wt := updF s.wt x.task none }) := by rw [letF, if_neg hown, hmt]
    rw [eF]
    refine ⟨x.task, (B4'.cell 0).trans rfl, (mcan Sm hml).1, fun w9 e9 => ?_⟩
    obtain ⟨I9, st9⟩ := I4'.ow hmh hmx x.task hb e9
    have B9 := st9.blk B4' n4
    have n9 := st9.nown B4'.lt n4
    have k9 := (Chg.refl none_ w9).drew
    have I9' := I9.chgN k9
    have B9' := B9.drew
    have st09 := st04.trans (st9.trans (Stp.ofN k9))
    generalize w9.drew = U at *
    obtain ⟨w10, hrun, M10, k10⟩ := I9'.wts.delete (t := 87) (e := 47) key3 Try.underlying87 (htq x (.head _)) 0
    obtain ⟨I10, st10⟩ := I9'.wt' k10 M10 I9'.hn
    have B10 := st10.blk B9' n9
    have st010 := st09.trans st10
    refine onPtr_mk ⟨_, (I9'.obj.cell0 4).trans rfl, x.task, (B9'.cell 0).trans rfl, w10, hrun, x.task, (B10.cell 0).trans rfl, newBox fun w11 B11 k11 _ => ⟨_, _, _, rfl, RE.of_flat rfl B11.reads0, fun b' hb' => ?_, _, (I10.chgN k11).up (by omega) (by omega), st010.trans (Stp.ofN k11), fun b' hb' ho => ?_⟩⟩
    · obtain rfl : b' = w10.heap.size := (Option.some.inj hb').symm
      exact ⟨st010.chg.size, B11.lt⟩
    · obtain rfl : b' = w10.heap.size := (Option.some.inj hb').symm
      exact Nat.lt_irrefl _ (I10.own_lt ho).1
end
end Full
end Go.Proofs.Ytibpbbjlecohiaa
