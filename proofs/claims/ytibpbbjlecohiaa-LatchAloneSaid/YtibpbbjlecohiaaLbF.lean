import Derived.Test.YtibpbbjlecohiaaLbE
set_option maxRecDepth 20000
namespace Go.Proofs.Ytibpbbjlecohiaa
namespace Full
open Go Go.Vc Go.RowKit
section
variable {w w' : World} {base N Q o : Nat} {g : G8} {s : S8}
theorem set_get {α : Type} {l : List α} {i : Nat} {x : α} (h : i < l.length) : (l.set i x)[i]? = some x := List.getElem?_set_self h
/-- hand: whom it wakes, and what is then -/
def handF (s : S8) (i : Nat) (mx : Mx) : List Int × S8 := match mx.queue with
  | [] => ([], { s with ms := s.ms.set i ⟨-1, []⟩ })
  | x :: xs => ([x.task], { s with ms := s.ms.set i ⟨x.task, xs⟩, wt := updF s.wt x.task none })
theorem hand46 (h : InvG w base N Q o g s) {i : Nat} {mx : Mx} (hmx : s.ms[i]? = some mx) {a : Addr} (ha : g.qm = some a) :
    Calls Try.prog 46 #[.pointer (some (ad o)), .pointer (some (a.add (i * 2)))] w (Ret fun v w' => ∃ q l c, v = .slice q l c ∧ RE En.int w' q l (handF s i mx).1 ∧ (∀ b, qB q = some b → w.heap.size ≤ b ∧ b < w'.heap.size) ∧ ∃ g', InvG w' base N Q o g' (handF s i mx).2 ∧ Stp o w g w' g' ∧ ∀ b, qB q = some b → ¬ Own g' o b) := by
  have hil := get_lt hmx
  obtain ⟨a', hd, ha', hhx, Qe, c0, c1⟩ := h.mrow_at hmx
  rw [ha] at ha'; cases ha'
  refine f46.calls _ _ ?_
  unfold f46.wp
  have S0 := h.mx
  rw [ha] at S0
  refine onPtr_mk ⟨(mcan S0 hil).1, fun w1 e1 => ?_⟩
  obtain ⟨I1, st1⟩ := h.ow hhx hmx (-1) ha e1
  have hm1 : ({ s with ms := s.ms.set i ⟨-1, mx.queue⟩ } : S8).ms[i]? = some ⟨-1, mx.queue⟩ := set_get hil
  obtain ⟨a1, hd1, ha1, hhx1, Q1, d0, d1⟩ := I1.mrow_at hm1
  have ha1' : g.qm = some a1 := ha1
  rw [ha] at ha1'; cases ha1'
  have hql : mx.queue.length = hd1.2.1 := Q1.len
  refine onPtr_mk ⟨_, _, _, d1, ?_⟩
  cases hqu : mx.queue with
  | nil =>
    rw [hqu] at hql
    have hl0 : hd1.2.1 = 0 := hql.symm
    have eF : handF s i mx = ([], { s with ms := s.ms.set i ⟨-1, []⟩ }) := by unfold handF; rw [hqu]
    rw [eF]
    rw [hqu] at I1
    exact bcT (by simp [hl0]) ⟨none, 0, 0, rfl, RE.nil _ _ _, fun b hb => by simp [qB] at hb, _, I1, st1, fun b hb => by simp [qB] at hb⟩
  | cons x xs =>
    have eF : handF s i mx = ([x.task], { s with ms := s.ms.set i ⟨x.task, xs⟩, wt := updF s.wt x.task none }) := by unfold handF; rw [hqu]
    rw [eF]
    rw [hqu] at hql
    simp at hql
    have Q1' : SE En.wt w1 base 106 hd1.1 hd1.2.1 hd1.2.2 (x :: xs) := by rw [← hqu]; exact Q1
    obtain ⟨qa, y, hqa, hy, hrq⟩ := Q1'.re.ex (i := 0) (by omega)
    cases hy
    obtain ⟨hq, hl, hc⟩ := hd1
    simp only at hqa hql
    subst hqa
    have t0 := reads_at hrq (i := 0) rfl
    rw [add_zero'] at t0
    have S1 := I1.mx
    rw [show ({ g with hs := g.hs.set i ⟨-1, hd⟩ } : G8).qm = some a from ha] at S1
    have hil1 : i < (s.ms.set i ⟨-1, mx.queue⟩).length := by rw [List.length_set]; exact hil
    refine bcF (by simp; omega) (onPtr_mk ⟨_, _, _, d1, onPtr_mk ⟨by decide, by show (0 : Int) < (hl : Int); omega, x.task, t0, onPtr_mk ⟨(mcan S1 hil1).1, fun w2 e2 => ?_⟩⟩⟩)
    obtain ⟨I2, st2⟩ := I1.ow hhx1 hm1 x.task ha e2
    have hm2 : ({ s with ms := (s.ms.set i ⟨-1, mx.queue⟩).set i ⟨x.task, mx.queue⟩ } : S8).ms[i]? = some ⟨x.task, mx.queue⟩ := set_get hil1
    obtain ⟨a2, hd2, ha2, hhx2, Q2, f0, f1⟩ := I2.mrow_at hm2
    have ha2' : g.qm = some a2 := ha2
    rw [ha] at ha2'; cases ha2'
    have Q2' : SE En.wt w2 base 106 hd2.1 hd2.2.1 hd2.2.2 (x :: xs) := by rw [← hqu]; exact Q2
    refine onPtr_mk ⟨_, _, _, f1, Calls.use (delete84 Q2') ?_⟩
    rintro _ w3 ⟨rfl, Q3, k3⟩
    have P3 := (I2.toParts.turn Q2' k3).mx
    have ha2g : ({ g with hs := ((g.hs.set i ⟨-1, hd⟩).set i ⟨x.task, some qa, hl, hc⟩) } : G8).qm = some a := ha
    rw [ha2g] at P3
    have hil2 : i < ((s.ms.set i ⟨-1, mx.queue⟩).set i ⟨x.task, mx.queue⟩).length := by rw [List.length_set]; exact hil1
    refine ⟨_, _, _, rfl, onPtr_mk ⟨(mcan P3 hil2).2, fun w4 e4 => ?_⟩⟩
    have htx := h.ht mx.queue (List.mem_of_getElem? (app_at (map_at (f := Mx.queue) hmx)))
    rw [hqu] at htx
    obtain ⟨I4, st4⟩ := I2.mq (Q' := Q) hhx2 hm2 (h1 := (hd2.1, hd2.2.1 - 1, hd2.2.2)) (ys := xs) k3 Q3 (.inl rfl) ha e4 (by rw [hqu]; simp) (fun y hy => htx y (.tail _ hy))
    have I4' := I4.chgN (Chg.refl none_ w4).drew
    have st4' : Stp o w4 _ w4.drew _ := Stp.ofN (g := { g with hs := ((g.hs.set i ⟨-1, hd⟩).set i ⟨x.task, some qa, hl, hc⟩).set i ⟨x.task, hd2.1, hd2.2.1 - 1, hd2.2.2⟩ }) (Chg.refl none_ w4).drew
    generalize w4.drew = W at *
    have hm4 : ({ s with ms := ((s.ms.set i ⟨-1, mx.queue⟩).set i ⟨x.task, mx.queue⟩).set i ⟨x.task, xs⟩ } : S8).ms[i]? = some ⟨x.task, xs⟩ := set_get hil2
    obtain ⟨a4, hd4, ha4, hhx4, Q4, g0, g1⟩ := I4'.mrow_at hm4
    have ha4' : g.qm = some a4 := ha4
    rw [ha] at ha4'; cases ha4'
    have ht64 := htx x (.head _)
    obtain ⟨w5, hrun, M5, k5⟩ := I4'.wts.delete (t := 87) (e := 47) key3 Try.underlying87 ht64 0
    obtain ⟨I5, st5⟩ := I4'.wt' k5 M5 I4'.hn
    have hm5 := hm4
    obtain ⟨a5, hd5, ha5, hhx5, Q5, p0, p1⟩ := I5.mrow_at (i := i) (mx := ⟨x.task, xs⟩) hm5
    have ha5' : g.qm = some a5 := ha5
    rw [ha] at ha5'; cases ha5'
    have es : ({ s with ms := ((s.ms.set i ⟨-1, mx.queue⟩).set i ⟨x.task, mx.queue⟩).set i ⟨x.task, xs⟩, wt := updF s.wt x.task none } : S8) = { s with ms := s.ms.set i ⟨x.task, xs⟩, wt := updF s.wt x.task none } := by
      rw [List.set_set, List.set_set]
    refine onPtr_mk ⟨_, (I4'.obj.cell0 4).trans rfl, onPtr_mk ⟨_, g0, w5, hrun, onPtr_mk ⟨_, p0, newBox fun w6 B6 k6 s6 => ⟨_, _, _, rfl, RE.of_flat rfl B6.reads0, fun b hb => ?_, _, (es ▸ I5).chgN k6, (((st1.trans st2).trans (st4.trans st4')).trans st5).trans (Stp.ofN k6), fun b hb ho => ?_⟩⟩⟩⟩
    · cases hb
      have := ((st1.trans st2).trans (st4.trans st4')).trans st5
      exact ⟨this.chg.size, B6.lt⟩
    · obtain rfl : b = w5.heap.size := (Option.some.inj hb).symm
      exact Nat.lt_irrefl _ (I5.own_lt ho).1
/-- Unlock -/
def unlockF (s : S8) (task n : Int) : List Int × Int × S8 :=
  if askL task [(n, s.ms.length)] s.wt ≠ 0 then ([], askL task [(n, s.ms.length)] s.wt, s) else
  match s.ms[n.toNat]? with
  | none => ([], 0, s)
  | some m => if m.owner ≠ task then ([], 82, s) else ((handF s n.toNat m).1, 0, (handF s n.toNat m).2)
/-- what a call tells of whom it wakes: a slice of its own -/
def Woke (w w' : World) (base N Q o : Nat) (g : G8) (q : Option Addr) (l : Nat) (r : List Int) (s' : S8) : Prop :=
  RE En.int w' q l r ∧ (∀ b, qB q = some b → w.heap.size ≤ b ∧ b < w'.heap.size) ∧ ∃ g', InvG w' base N Q o g' s' ∧ Stp o w g w' g' ∧ ∀ b, qB q = some b → ¬ Own g' o b
theorem unlock19 (h : InvG w base N Q o g s) (task n : Int) :
    Calls Try.prog 19 #[.pointer (some (ad o)), .int .i64 task, .int .i64 n] w (Ret fun v w' => ∃ q l c, v = .tuple #[.slice q l c, .int .i64 (unlockF s task n).2.1] ∧ Woke w w' base N Q o g q l (unlockF s task n).1 (unlockF s task n).2.2) := by
  refine f19.calls _ _ _ ?_
  unfold f19.wp
  refine Calls.use (sizes43 h) ?_
  rintro _ w1 ⟨rfl, k1⟩
  refine ⟨_, _, _, _, rfl, newBox fun w2 B2 k2 _ => Calls.use (asks44 ((h.chgN k1).chgN k2) task (RE.of_flat (xs := [(n, (s.ms.length : Int))]) rfl B2.reads0) (by decide)) ?_⟩
  rintro _ w3 ⟨rfl, k3⟩
  have k03 := k1.trans (k2.trans k3)
  have h3 := h.chgN k03
  have L03 : Stp o w g w3 g := Stp.ofN k03
  have nil : ∀ s', InvG w3 base N Q o g s' → Woke w w3 base N Q o g none 0 [] s' := fun s' I => ⟨RE.nil _ _ _, fun b hb => by simp [qB] at hb, g, I, L03, fun b hb => by simp [qB] at hb⟩
  refine ⟨_, rfl, bc (fun he => ?_) (fun he => ?_)⟩
  · have he : askL task [(n, s.ms.length)] s.wt ≠ 0 := by simpa using he
    have e : unlockF s task n = ([], askL task [(n, s.ms.length)] s.wt, s) := by unfold unlockF; rw [if_pos he]
    rw [e]
    exact ⟨_, _, _, rfl, nil _ h3⟩
  have he : askL task [(n, s.ms.length)] s.wt = 0 := by simpa using he
  obtain ⟨t0, t1, hbad, hw⟩ := askL_ok he
  obtain ⟨n0, n1⟩ := badN_one hbad
  obtain ⟨i, rfl⟩ : ∃ i : Nat, n = i := ⟨n.toNat, by omega⟩
  obtain ⟨mx, hmx⟩ := get_ex (l := s.ms) (i := i) (by omega)
  have e0 : unlockF s task i = if mx.owner ≠ task then (([], 82, s) : List Int × Int × S8) else ((handF s i mx).1, 0, (handF s i mx).2) := by
    unfold unlockF
    rw [if_neg (by simp [he]), Int.toNat_natCast, hmx]
  obtain ⟨a, hd, ha, hhx, Qe, c0, c1⟩ := h3.mrow_at hmx
  have et : ((i : Int)).toNat = i := by omega
  have O := h3.obj
  rw [ha] at O
  refine onPtr_mk ⟨_, _, _, (O.cell 0).trans rfl, onPtr_mk ⟨by omega, by omega, _, c0, ?_⟩⟩
  rw [e0]
  refine bc (fun hne => ?_) (fun heq => ?_)
  · have hne : mx.owner ≠ task := by simpa using hne
    rw [if_pos hne]
    exact ⟨_, _, _, rfl, nil _ h3⟩
  · have heq : ¬ (mx.owner ≠ task) := by simpa using heq
    rw [if_neg heq]
    refine onPtr_mk ⟨_, _, _, (O.cell 0).trans rfl, onPtr_mk ⟨by omega, by omega, ?_⟩⟩
    rw [et]
    refine Calls.use (hand46 h3 hmx ha) ?_
    rintro _ w4 ⟨q, l, c, rfl, h1, h2, g4, I4, st4, hn⟩
    exact ⟨_, _, _, rfl, _, _, _, rfl, h1, fun b hb => ⟨Nat.le_trans k03.size (h2 b hb).1, (h2 b hb).2⟩, g4, I4, L03.trans st4, hn⟩
end
end Full
end Go.Proofs.Ytibpbbjlecohiaa
