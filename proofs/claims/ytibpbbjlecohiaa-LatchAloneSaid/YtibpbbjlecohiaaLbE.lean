import Derived.Test.YtibpbbjlecohiaaLbD
set_option maxRecDepth 20000
namespace Go.Proofs.Ytibpbbjlecohiaa
namespace Full
open Go Go.Vc Go.RowKit
section
variable {w w' : World} {base N Q o : Nat} {g : G8} {s : S8}
theorem InvG.mrow_at (h : InvG w base N Q o g s) {i : Nat} {mx : Mx} (hmx : s.ms[i]? = some mx) : ∃ (a : Addr) (hd : Hd), g.qm = some a ∧ g.hs[i]? = some ⟨mx.owner, hd⟩ ∧ SE En.wt w base 106 hd.1 hd.2.1 hd.2.2 mx.queue ∧
    w.cell? (a.add (i * 2)) = some (.int .i64 mx.owner) ∧ w.cell? ((a.add (i * 2)).add 1) = some (.slice hd.1 hd.2.1 hd.2.2) := by
  have hil := get_lt hmx
  obtain ⟨hx, hhx⟩ := get_ex (l := g.hs) (i := i) (by rw [h.mx.len]; exact hil)
  have hown : hx.owner = mx.owner := by
    have a1 := map_at (f := MxH.owner) hhx
    rw [h.own, map_at (f := Mx.owner) hmx] at a1
    exact (Option.some.inj a1).symm
  obtain ⟨a, y, ha, hy, hr⟩ := h.mx.re.ex (i := i) hil
  rw [hhx] at hy; cases hy
  obtain ⟨ho, hd⟩ := hx
  simp only at hown
  subst hown
  have c0 := reads_at hr (i := 0) rfl
  have c1 := reads_at hr (i := 1) rfl
  rw [add_zero'] at c0
  exact ⟨a, hd, ha, hhx, h.que.se i hd mx.queue (app_at (map_at (f := MxH.hd) hhx)) (app_at (map_at (f := Mx.queue) hmx)), c0, c1⟩
theorem mcan {l c : Nat} {hs : List MxH} {a : Addr} (S : SE En.mxh w base 97 (some a) l c hs) {i : Nat} (hi : i < l) : canStore w (a.add (i * 2)) 1 ∧ canStore w ((a.add (i * 2)).add 1) 1 := by
  obtain ⟨a', ha', hcan⟩ := S.can hi
  cases ha'
  have hc0 := hcan 0 1 (by decide)
  rw [add_zero'] at hc0
  exact ⟨hc0, hcan 1 1 (by decide)⟩
theorem InvG.lrow_at (h : InvG w base N Q o g s) {i : Nat} {lx : Lk} (hlx : s.ls[i]? = some lx) : ∃ (a : Addr) (hr hd : Hd), g.q2 = some a ∧ g.lh[i]? = some ⟨hr, lx.writer, hd⟩ ∧ SE En.wt w base 106 hd.1 hd.2.1 hd.2.2 lx.queue ∧ SE En.int w base 3 hr.1 hr.2.1 hr.2.2 lx.readers ∧
    w.cell? (a.add (i * 3)) = some (.slice hr.1 hr.2.1 hr.2.2) ∧ w.cell? ((a.add (i * 3)).add 1) = some (.int .i64 lx.writer) ∧ w.cell? ((a.add (i * 3)).add 2) = some (.slice hd.1 hd.2.1 hd.2.2) := by
  have hil := get_lt hlx
  obtain ⟨hx, hhx⟩ := get_ex (l := g.lh) (i := i) (by rw [h.lk.len]; exact hil)
  have hw : hx.writer = lx.writer := by
    have a1 := map_at (f := LkH.writer) hhx
    rw [h.wri, map_at (f := Lk.writer) hlx] at a1
    exact (Option.some.inj a1).symm
  obtain ⟨a, y, ha, hy, hr⟩ := h.lk.re.ex (i := i) hil
  rw [hhx] at hy; cases hy
  have hq := h.lq_at hhx hlx
  have hrs := h.rds.se i hx.readers lx.readers (map_at (f := LkH.readers) hhx) (map_at (f := Lk.readers) hlx)
  obtain ⟨hr', ho, hd⟩ := hx
  simp only at hw
  subst hw
  have c0 := reads_at hr (i := 0) rfl
  have c1 := reads_at hr (i := 1) rfl
  have c2 := reads_at hr (i := 2) rfl
  rw [add_zero'] at c0
  exact ⟨a, hr', hd, ha, hhx, h.que.se _ hd lx.queue hq.1 hq.2, hrs, c0, c1, c2⟩
theorem lcan {l c : Nat} {lh : List LkH} {a : Addr} (S : SE En.lkh w base 99 (some a) l c lh) {i : Nat} (hi : i < l) : canStore w (a.add (i * 3)) 1 ∧ canStore w ((a.add (i * 3)).add 1) 1 ∧ canStore w ((a.add (i * 3)).add 2) 1 := by
  obtain ⟨a', ha', hcan⟩ := S.can hi
  cases ha'
  have hc0 := hcan 0 1 (by decide)
  rw [add_zero'] at hc0
  exact ⟨hc0, hcan 1 1 (by decide), hcan 2 1 (by decide)⟩
theorem asks44 (h : InvG w base N Q o g s) {q : Option Addr} {l c : Nat} {ps : List (Int × Int)} (task : Int) (G : RE En.i2 w q l ps) (hl : l ≤ 9223372036854775807) :
    Calls Try.prog 44 #[.pointer (some (ad o)), .int .i64 task, .slice q l c] w (Ret fun v w' => v = .int .i64 (askL task ps s.wt) ∧ Chg none_ w w') := by
  refine f44.calls _ _ _ _ _ ?_
  unfold f44.wp
  have hlen := G.len
  refine ⟨fun x w' => x = false ∧ w = w', ?_, ptrOk_none _ _, bcF rfl (onPtr_mk ⟨_, (h.obj.cell0 4).trans rfl, _, w, run_eqmap Try.underlying87 g.m w, rfl, rfl⟩)⟩
  rintro _ _ ⟨rfl, rfl⟩
  refine bcF rfl (bc (fun h => ⟨?_, Chg.refl _ _⟩) (fun h0 => bc (fun h => ⟨?_, Chg.refl _ _⟩) (fun h1 => ?_)))
  · have h := of_decide_eq_true h
    rw [askL, if_pos (.inl h)]
  · have h := of_decide_eq_true h
    rw [askL, if_pos (.inr h)]
  have h0 := of_decide_eq_false h0
  have h1 := of_decide_eq_false h1
  have e1 : askL task ps s.wt = if badN ps then 80 else if (s.wt task).isSome then 83 else 0 := by rw [askL, if_neg (by omega)]
  refine ⟨fun x w' => ∃ i : Nat, x = i ∧ i ≤ l ∧ Chg none_ w w' ∧ ∀ (j : Nat) p, j < i → ps[j]? = some p → ¬ (p.1 < 0 ∨ p.2 ≤ p.1), fun x _ => l - x.toNat, ⟨0, rfl, Nat.zero_le _, Chg.refl _ _, fun j p hj => by omega⟩, ?_⟩
  rintro x w3 ⟨i, rfl, hi, k3, hin⟩
  refine bc (fun hlt => ?_) (fun hge => ?_)
  · have hi' : i < l := by simpa using hlt
    obtain ⟨a, p, rfl, hp, hr⟩ := (G.chg k3).ex hi'
    rw [wrapS (x := (i : Int) + 1) (by omega) (by omega)]
    refine onPtr_mk ⟨by omega, by omega, _, _, hr, boxed rfl rfl fun w5 B5 k5 _ => ⟨by decide, by decide, _, (B5.cell 0).trans rfl, ?_⟩⟩
    have k35 := k3.trans k5
    refine bc (fun h => ⟨?_, k35⟩) (fun h2 => ⟨by decide, by decide, _, (B5.cell 0).trans rfl, by decide, by decide, _, (B5.cell0 1).trans rfl, bc (fun h => ⟨?_, k35⟩) (fun h3 => ⟨⟨i + 1, by omega, hi', k35, fun j p' hj hp' => ?_⟩, meas hi'⟩)⟩)
    · have h := of_decide_eq_true h
      rw [e1, if_pos (badN_at hp (.inl h))]
    · have h := of_decide_eq_true h
      rw [e1, if_pos (badN_at hp (.inr h))]
    · rcases Nat.lt_or_ge j i with h4 | h4
      · exact hin j p' h4 hp'
      · have : j = i := by omega
        subst this
        rw [hp] at hp'; cases hp'
        have := of_decide_eq_false h2; have := of_decide_eq_false h3; omega
  · have hge : ¬ i < l := by simpa using hge
    have hb : badN ps = false := badN_no fun j p hp => hin j p (by have := get_lt hp; omega) hp
    have M3 := h.wts.chg k3 (fun x => x)
    have hlook := M3.look (t := 87) (e := 47) key3 Try.underlying87 zeroW3 (x := task) (by simp [ok64, Lit.wf, IntKind.min, IntKind.max, IntKind.signed, IntKind.bits]; omega)
    refine onPtr_mk ⟨_, ((k3.blk h.obj (fun x => x)).cell0 4).trans rfl, _, _, _, _, w3, hlook, boxed rfl rfl fun w8 B8 k8 _ => ?_⟩
    rw [e1, hb]
    refine bc (fun h => ⟨by simp [h], k3.trans k8⟩) (fun h => ⟨by simp [h], k3.trans k8⟩)
theorem askL_ok {task : Int} {ps : List (Int × Int)} {wt : Int → Option W3} (h : askL task ps wt = 0) : 0 ≤ task ∧ task < 16 ∧ badN ps = false ∧ wt task = none := by
  unfold askL at h
  split at h
  · cases h
  · split at h
    · cases h
    · split at h
      · cases h
      · rename_i h1 h2 h3
        exact ⟨by omega, by omega, by simpa using h2, by simpa using h3⟩
theorem badN_one {n b : Int} (h : badN [(n, b)] = false) : 0 ≤ n ∧ n < b := by
  simp [badN] at h
  omega
theorem ok64_task {task : Int} (h0 : 0 ≤ task) (h1 : task < 16) : ok64 task := by simp [ok64, Lit.wf, IntKind.min, IntKind.max, IntKind.signed, IntKind.bits]; omega
theorem wait45 (h : InvG w base N Q o g s) (hN : N ≤ 4000000000000000000) {task : Int} (ht : ok64 task) (kind n : Int) :
    Calls Try.prog 45 #[.pointer (some (ad o)), .int .i64 task, .int .i64 kind, .int .i64 n] w (Ret fun v w' => v = .tuple #[] ∧ ∃ g', InvG w' base (N + 1) Q o g' { s with wt := updF s.wt task (some (task, kind, n)) } ∧ Stp o w g w' g') := by
  refine f45.calls _ _ _ _ ?_
  unfold f45.wp
  have hn := h.hn
  obtain ⟨w', hrun, M', kk⟩ := h.wts.update (t := 87) (e := 47) key3 Try.underlying87 (by simp only [maxLen]; omega) ht (task, kind, n)
  obtain ⟨I, st⟩ := h.wt' (N' := N + 1) kk M' (by omega)
  exact onPtr_mk ⟨_, (h.obj.cell0 4).trans rfl, w', hrun, rfl, _, I, st⟩
/-- Lock -/
def lockF (s : S8) (task n : Int) : Bool × Int × S8 :=
  if askL task [(n, s.ms.length)] s.wt ≠ 0 then (false, askL task [(n, s.ms.length)] s.wt, s) else
  match s.ms[n.toNat]? with
  | none => (false, 0, s)
  | some m => if m.owner = task then (false, 81, s) else if m.owner = -1 then (true, 0, { s with ms := s.ms.set n.toNat ⟨task, m.queue⟩ }) else
    (false, 0, { s with ms := s.ms.set n.toNat ⟨m.owner, m.queue ++ [⟨task, false, 0⟩]⟩, wt := updF s.wt task (some (task, 1, n)) })
theorem lock18 (h : InvG w base N Q o g s) (hN : N ≤ 4000000000000000000) (hQ : Q ≤ 4398046511104) (task n : Int) :
    Calls Try.prog 18 #[.pointer (some (ad o)), .int .i64 task, .int .i64 n] w (Ret fun v w' => v = .tuple #[.bool (lockF s task n).1, .int .i64 (lockF s task n).2.1] ∧ ∃ g', InvG w' base (N + 1) (Q + 1) o g' (lockF s task n).2.2 ∧ Stp o w g w' g') := by
  refine f18.calls _ _ _ ?_
  unfold f18.wp
  refine Calls.use (sizes43 h) ?_
  rintro _ w1 ⟨rfl, k1⟩
  refine ⟨_, _, _, _, rfl, newBox fun w2 B2 k2 _ => Calls.use (asks44 ((h.chgN k1).chgN k2) task (RE.of_flat (xs := [(n, (s.ms.length : Int))]) rfl B2.reads0) (by decide)) ?_⟩
  rintro _ w3 ⟨rfl, k3⟩
  have k03 := k1.trans (k2.trans k3)
  have h3 := h.chgN k03
  have L03 : Stp o w g w3 g := Stp.ofN k03
  refine ⟨_, rfl, bc (fun he => ?_) (fun he => ?_)⟩
  · have he : askL task [(n, s.ms.length)] s.wt ≠ 0 := by simpa using he
    have e : lockF s task n = (false, askL task [(n, s.ms.length)] s.wt, s) := by rw [lockF, if_pos he]
    rw [e]
    exact ⟨rfl, g, h3.up (by omega) (by omega), L03⟩
  have he : askL task [(n, s.ms.length)] s.wt = 0 := by simpa using he
  obtain ⟨t0, t1, hbad, hw⟩ := askL_ok he
  obtain ⟨n0, n1⟩ := badN_one hbad
  obtain ⟨i, rfl⟩ : ∃ i : Nat, n = i := ⟨n.toNat, by omega⟩
  obtain ⟨mx, hmx⟩ := get_ex (l := s.ms) (i := i) (by omega)
  have hil := get_lt hmx
  have e0 : lockF s task i = if mx.owner = task then (false, 81, s) else if mx.owner = -1 then (true, 0, { s with ms := s.ms.set i ⟨task, mx.queue⟩ }) else (false, 0, { s with ms := s.ms.set i ⟨mx.owner, mx.queue ++ [⟨task, false, 0⟩]⟩, wt := updF s.wt task (some (task, 1, (i : Int))) }) := by
    unfold lockF
    rw [if_neg (by simp [he]), Int.toNat_natCast, hmx]
  have ht64 := ok64_task t0 t1
  obtain ⟨a, hd, ha, hhx, Qe, c0, c1⟩ := h3.mrow_at hmx
  have et : ((i : Int)).toNat = i := by omega
  have O := h3.obj
  rw [ha] at O
  have S3 := h3.mx
  rw [ha] at S3
  refine onPtr_mk ⟨_, _, _, (O.cell 0).trans rfl, onPtr_mk ⟨by omega, by omega, _, c0, ?_⟩⟩
  rw [e0]
  refine bc (fun h81 => ?_) (fun hne => ?_)
  · have h81 : mx.owner = task := by simpa using h81
    rw [if_pos h81]
    exact ⟨rfl, g, h3.up (by omega) (by omega), L03⟩
  have hne : ¬ mx.owner = task := by simpa using hne
  rw [if_neg hne]
  refine bc (fun hfree => ?_) (fun hheld => ?_)
  · have hfree : mx.owner = -1 := by simpa using hfree
    rw [if_pos hfree]
    refine ⟨(mcan S3 hil).1, fun w4 e4 => ?_⟩
    obtain ⟨I4, st4⟩ := h3.ow hhx hmx task ha e4
    exact ⟨rfl, _, I4.up (by omega) (by omega), L03.trans st4⟩
  · have hheld : ¬ mx.owner = -1 := by simpa using hheld
    rw [if_neg hheld]
    have hql : mx.queue.length = hd.2.1 := Qe.len
    have hqN := wt_lt h3 (j := i) (app_at (map_at (f := Mx.queue) hmx))
    have hb3 : base ≤ w3.heap.size := Nat.le_trans h3.bo (Nat.le_of_lt h3.obj.lt)
    refine ⟨_, _, _, c1, newBox fun w5 B5 k5 s5 => ?_⟩
    have h5 := h3.chgN k5
    obtain ⟨q', c', w6, hrun, Q6, k6, hq6, _⟩ := (Qe.chgN k5).append1 (t := 95) (ty := 95) (x := ⟨task, false, 0⟩) elemWt B5 (by simp only [maxLen]; omega) (by show (hd.2.1 + 1) * 24 ≤ _; omega) (by omega)
    have P6 := (h5.toParts.turn (Qe.chgN k5) k6).mx
    rw [ha] at P6
    refine ⟨_, _, _, w6, hrun, (mcan P6 hil).2, fun w7 e7 => ?_⟩
    obtain ⟨I7, st7⟩ := h5.mq (Q' := Q + 1) hhx hmx (h1 := (q', hd.2.1 + 1, c')) k6 Q6 (hq6.imp id .inl) ha e7 (by simp; omega) (fun y hy => by
      rcases List.mem_append.1 hy with hy | hy
      · exact h3.ht mx.queue (List.mem_of_getElem? (app_at (map_at (f := Mx.queue) hmx))) y hy
      · simp at hy; subst hy; exact ht64)
    refine Calls.use (wait45 I7 hN ht64 1 i) ?_
    rintro _ w8 ⟨rfl, g8, I8, st8⟩
    exact ⟨rfl, rfl, g8, I8, (L03.trans (Stp.ofN k5)).trans (st7.trans st8)⟩
end
end Full
end Go.Proofs.Ytibpbbjlecohiaa
