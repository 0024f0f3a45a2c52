import Derived.Test.YtibpbbjlecohiaaLbI
set_option maxRecDepth 20000
namespace Go.Proofs.Ytibpbbjlecohiaa
namespace Full
open Go Go.Vc Go.RowKit
theorem Stp.nown {o : Nat} {w w' : World} {g g' : G8} (h : Stp o w g w' g') {b : Nat} (hb : b < w.heap.size) (hn : ¬ Own g o b) : ¬ Own g' o b := fun ho => by
  rcases h.grow b ho with h1 | h1
  · exact hn h1
  · omega
theorem Stp.blk {o : Nat} {w w' : World} {g g' : G8} (h : Stp o w g w' g') {b : Nat} {t : TypeId} {cs : Array Value} (B : Blk w b t cs) (hn : ¬ Own g o b) : Blk w' b t cs := h.chg.blk B hn
theorem Stp.se {o : Nat} {w w' : World} {g g' : G8} (h : Stp o w g w' g') {α : Type} {E : En α} {base : Nat} {e : TypeId} {q : Option Addr} {l c : Nat} {xs : List α} (S : SE E w base e q l c xs) (hn : ∀ b, qB q = some b → ¬ Own g o b) : SE E w' base e q l c xs ∧ ∀ b, qB q = some b → ¬ Own g' o b :=
  ⟨S.chg h.chg hn, fun b hb => h.nown (S.lt hb).1 (hn b hb)⟩
/-- those at the queue's head that may have it -/
def passG (rs : List Int) (wr : Int) : List Wt → List Int × Lk
  | [] => ([], ⟨rs, wr, []⟩)
  | x :: xs => if mayF ⟨rs, wr, x :: xs⟩ x.write then
      let r := passG (giveF ⟨rs, wr, xs⟩ x).readers (giveF ⟨rs, wr, xs⟩ x).writer xs
      (x.task :: r.1, r.2)
    else ([], ⟨rs, wr, x :: xs⟩)
def passL (lx : Lk) : List Int × Lk := passG lx.readers lx.writer lx.queue
def unwait (f : Int → Option W3) (ts : List Int) : Int → Option W3 := ts.foldl (fun f t => updF f t none) f
theorem passL_nil {lx : Lk} (h : lx.queue = []) : passL lx = ([], lx) := by
  obtain ⟨r, w, q⟩ := lx
  simp only at h
  subst h
  rfl
theorem passL_no {lx : Lk} {x : Wt} {xs : List Wt} (h : lx.queue = x :: xs) (hm : mayF lx x.write = false) : passL lx = ([], lx) := by
  obtain ⟨r, w, q⟩ := lx
  simp only at h
  subst h
  have : mayF ⟨r, w, x :: xs⟩ x.write = false := hm
  simp [passL, passG, this]
theorem giveF_queue (lx : Lk) (x : Wt) : (giveF lx x).queue = lx.queue := by unfold giveF; split <;> rfl
theorem passL_yes {lx : Lk} {x : Wt} {xs : List Wt} (h : lx.queue = x :: xs) (hm : mayF lx x.write = true) : passL lx = (x.task :: (passL (giveF ⟨lx.readers, lx.writer, xs⟩ x)).1, (passL (giveF ⟨lx.readers, lx.writer, xs⟩ x)).2) := by
  obtain ⟨r, w, q⟩ := lx
  simp only at h
  subst h
  have : mayF ⟨r, w, x :: xs⟩ x.write = true := hm
  have e : (giveF ⟨r, w, xs⟩ x).queue = xs := giveF_queue _ _
  simp [passL, passG, this, e]
section
variable {w w' : World} {base N Q o : Nat} {g : G8} {s : S8}
theorem pass88 (h : InvG w base N Q o g s) (hQ : Q ≤ 4398046511104) {i : Nat} {lx : Lk} (hlx : s.ls[i]? = some lx) {a : Addr} (ha : g.q2 = some a) :
    Calls Try.prog 88 #[.pointer (some (ad o)), .pointer (some (a.add (i * 3)))] w (Ret fun v w' => ∃ q l c, v = .slice q l c ∧ Woke w w' base N Q o g q l (passL lx).1 { s with ls := s.ls.set i (passL lx).2, wt := unwait s.wt (passL lx).1 }) := by
  have hil := get_lt hlx
  refine f88.calls _ _ ?_
  unfold f88.wp
  refine ⟨fun q1 l1 c1 w1 => ∃ (acc : List Int) (g1 : G8) (l' : Lk), SE En.int w1 w.heap.size 3 q1 l1 c1 acc ∧ (∀ b, qB q1 = some b → ¬ Own g1 o b) ∧ InvG w1 base N Q o g1 { s with ls := s.ls.set i l', wt := unwait s.wt acc } ∧ Stp o w g w1 g1 ∧ g1.q2 = some a ∧ acc ++ (passL l').1 = (passL lx).1 ∧ (passL l').2 = (passL lx).2, fun _ l1 _ _ => (passL lx).1.length - l1, ⟨[], g, lx, SE.nil _ _ _ _, fun b hb => by simp [qB] at hb, by rw [set_same hlx]; exact h, Stp.refl _ _ _, ha, by simp, rfl⟩, ?_⟩
  rintro q1 l1 c1 w1 ⟨acc, g1, l', A1, nA, I1, st1, ha1, e1, e2⟩
  have hl' : ({ s with ls := s.ls.set i l', wt := unwait s.wt acc } : S8).ls[i]? = some l' := set_get hil
  obtain ⟨a', hr, hd, ha', hhx, Qe, Re, c0, c1', c2⟩ := I1.lrow_at hl'
  rw [ha1] at ha'; cases ha'
  have hql : l'.queue.length = hd.2.1 := Qe.len
  have fin : (passL l').1 = [] → (passL l').2 = l' → Woke w w1 base N Q o g q1 l1 (passL lx).1 { s with ls := s.ls.set i (passL lx).2, wt := unwait s.wt (passL lx).1 } := fun h1 h2 => by
    rw [← e1, ← e2, h1, h2, List.append_nil]
    exact ⟨A1.re, fun b hb => ⟨(A1.lt hb).2, (A1.lt hb).1⟩, g1, I1, st1, nA⟩
  refine onPtr_mk ⟨_, _, _, c2, bc (fun hpos => ?_) (fun hz => ?_)⟩
  rotate_left
  · have hz : l'.queue = [] := List.eq_nil_of_length_eq_zero (by have := of_decide_eq_false hz; omega)
    have := passL_nil hz
    exact ⟨_, _, _, rfl, fin (by rw [this]) (by rw [this])⟩
  have hpos : 0 < hd.2.1 := by have := of_decide_eq_true hpos; omega
  obtain ⟨x, xs, hqu⟩ : ∃ x xs, l'.queue = x :: xs := by
    cases hq : l'.queue with
    | nil => rw [hq] at hql; simp at hql; omega
    | cons x xs => exact ⟨x, xs, rfl⟩
  have Qe' : SE En.wt w1 base 106 hd.1 hd.2.1 hd.2.2 (x :: xs) := by rw [← hqu]; exact Qe
  obtain ⟨qa, y, hqa, hy, hrq⟩ := Qe'.re.ex (i := 0) hpos
  cases hy
  have tw := reads_at hrq (i := 1) rfl
  refine onPtr_mk ⟨_, _, _, c2, ?_⟩
  rw [hqa]
  refine onPtr_mk ⟨by decide, by omega, x.write, tw, Calls.use (may111 I1 hl' ha1 x.write) ?_⟩
  rintro _ _ ⟨rfl, rfl⟩
  refine ⟨_, rfl, bc (fun hm => ?_) (fun hm => ?_)⟩
  rotate_left
  · have := passL_no hqu hm
    exact ⟨_, _, _, rfl, fin (by rw [this]) (by rw [this])⟩
  have hy := passL_yes hqu hm
  refine onPtr_mk ⟨_, _, _, c2, ?_⟩
  rw [hqa]
  refine onPtr_mk ⟨by decide, by omega, _, _, _, hrq, boxed rfl rfl fun w4 B4 k4 s4 => ?_⟩
  have I4 := I1.chgN k4
  have Q4 := Qe'.chgN k4
  have c24 := k4.cell (cell_some c2) (fun x => x) |>.trans c2
  have n4 : ¬ Own g1 o w1.heap.size := fun ho => by have := (I1.own_lt ho).1; omega
  refine onPtr_mk ⟨_, _, _, c24, Calls.use (delete84 Q4) ?_⟩
  rintro _ w5 ⟨rfl, Q5, k5⟩
  have P5 := (I4.toParts.turn Q4 k5).lk
  rw [ha1] at P5
  have hil' : i < (s.ls.set i l').length := by rw [List.length_set]; exact hil
  refine ⟨_, _, _, rfl, onPtr_mk ⟨(lcan P5 hil').2.2, fun w6 e6 => ?_⟩⟩
  have hQ1 : 1 ≤ Q := by
    have := wt_lt I1 (I1.lq_at hhx hl').2
    rw [hqu] at this
    simp at this; omega
  have htx := I1.ht l'.queue (List.mem_of_getElem? (I1.lq_at hhx hl').2)
  rw [hqu] at htx
  obtain ⟨I6, st6⟩ := I4.lq (Q' := Q - 1) hhx hl' (h1 := (hd.1, hd.2.1 - 1, hd.2.2)) (ys := xs) k5 Q5 (.inl rfl) ha1 e6 (by rw [hqu]; simp; omega) (fun y hy => htx y (.tail _ hy))
  have B6 := st6.blk B4 n4
  have n6 := st6.nown B4.lt n4
  have hl6 : ((s.ls.set i l').set i ⟨l'.readers, l'.writer, xs⟩)[i]? = some ⟨l'.readers, l'.writer, xs⟩ := set_get hil'
  refine ⟨_, _, _, B6.reads0, Calls.use (give112 I6 hl6 ha1 x (by omega)) ?_⟩
  rintro _ w7 ⟨rfl, g7, I7, st7, ha7⟩
  have B7 := st7.blk B6 n6
  have n7 := st7.nown B6.lt n6
  have kd := (Chg.refl none_ w7).drew
  have I7' := I7.chgN kd
  have st7' : Stp o w7 g7 w7.drew g7 := Stp.ofN kd
  have B7' := B7.drew
  refine ⟨rfl, ?_⟩
  generalize w7.drew = W at *
  obtain ⟨w8, hrun, M8, k8⟩ := I7'.wts.delete (t := 87) (e := 47) key3 Try.underlying87 (htx x (.head _)) 0
  obtain ⟨I8, st8⟩ := I7'.wt' k8 M8 I7'.hn
  have B8 := st8.blk B7' n7
  refine onPtr_mk ⟨_, (I7'.obj.cell0 4).trans rfl, x.task, (B7'.cell 0).trans rfl, w8, hrun, x.task, (B8.cell 0).trans rfl, newBox fun w9 B9 k9 _ => ?_⟩
  have I9 := I8.chgN k9
  have st19 : Stp o w1 g1 w9 _ := (Stp.ofN k4).trans (st6.trans (st7.trans (st7'.trans (st8.trans (Stp.ofN k9)))))
  obtain ⟨A9, nA9⟩ := st19.se A1 nA
  have hal : acc.length = l1 := A1.len
  have hlt : l1 < (passL lx).1.length := by rw [← e1, hy, List.length_append, hal]; simp
  have hbd : (passL lx).1.length ≤ lx.queue.length := by
    have : ∀ (q : List Wt) (r : List Int) (wr : Int), (passG r wr q).1.length ≤ q.length := fun q => by
      induction q with
      | nil => intro r wr; exact Nat.le_refl _
      | cons x xs ih =>
        intro r wr
        unfold passG
        split
        · simp; exact ih _ _
        · simp
    exact this _ _ _
  have hlq : lx.queue.length ≤ Q := by
    obtain ⟨_, _, _, _, hhx0, _⟩ := h.lrow_at hlx
    exact wt_lt h (h.lq_at hhx0 hlx).2
  have hbase : w.heap.size ≤ w9.heap.size := (st1.trans st19).chg.size
  obtain ⟨q', c', w10, hrunA, A10, kA, hqA, _⟩ := A9.append1 (t := 35) (ty := 35) (x := x.task) elemInt B9 (by simp only [maxLen]; omega) (by show (l1 + 1) * 8 ≤ _; omega) hbase
  have I10 := I9.chg kA fun b hb => nA9 b hb.symm
  have es : ({ s with ls := ((s.ls.set i l').set i ⟨l'.readers, l'.writer, xs⟩).set i (giveF ⟨l'.readers, l'.writer, xs⟩ x), wt := updF (unwait s.wt acc) x.task none } : S8) = { s with ls := s.ls.set i (giveF ⟨l'.readers, l'.writer, xs⟩ x), wt := unwait s.wt (acc ++ [x.task]) } := by
    rw [List.set_set, List.set_set]
    simp [unwait]
  have e10 : Q - 1 + 1 = Q := by omega
  rw [e10] at I10
  refine ⟨_, _, _, w10, hrunA, ⟨acc ++ [x.task], _, giveF ⟨l'.readers, l'.writer, xs⟩ x, A10, fun b hb ho => ?_, es ▸ I10, ⟨(st1.trans st19).chg.trans' kA fun b hb => .inr (A9.lt hb.symm).2, (st1.trans st19).grow⟩, ha7, ?_, ?_⟩, ?_⟩
  · rcases hqA with e | e
    · exact nA9 b (e ▸ hb) ho
    · rw [e] at hb; cases hb
      exact absurd (I9.own_lt ho).1 (Nat.lt_irrefl _)
  · rw [← e1, hy]; simp
  · rw [← e2, hy]
  · show (passL lx).1.length - (l1 + 1) < (passL lx).1.length - l1
    omega
end
end Full
end Go.Proofs.Ytibpbbjlecohiaa
