import Derived.Test.YtibpbbjlecohiaaLbI
set_option maxRecDepth 20000
namespace Go.Proofs.Ytibpbbjlecohiaa
namespace Full
open Go Go.Vc Go.RowKit
theorem Stp.nown {o : Nat} {w w' : World} {g g' : G8} (h : Stp o w g w' g') {b : Nat} (hb : b < w.heap.size) (hn : ¬ Own g o b) : ¬ Own g' o b := fun ho => by
  rcases h.grow b ho with h1 | h1
  · exact hn h1
  · omega
theorem Stp.blk {o : Nat} {w w' : World} {g g' : G8} (h : Stp o w g w' g') {b : Nat} {t : TypeId} {cs : Array Value} (B : Blk w b t cs) (hn : ¬ Own g o b) : Blk w' b t cs := h.chg.blk B hn
theorem Stp.se {o : Nat} {w w' : World} {g g' : G8} (h : Stp o w g w' g') {α : Type} {E : En α} {base : Nat} {e : TypeId} {q : Option Addr} {l c : Nat} {xs : List α} (S : SE E w base e q l c xs) (hn : ∀ b, qB q = some b → ¬ Own g o b) : SE E w' base e q l c xs ∧ ∀ b, qB q = some b → ¬ Own g' o b :=
  ⟨S.chg h.chg hn, fun b hb => h.nown (S.lt hb).1 (hn b hb)⟩
/-- those at the queue's head that may have it -/
def passG (rs : List Int) (wr : Int) : List Wt → List Int × Lk
  | [] => ([], ⟨rs, wr, []⟩)
  | x :: xs => if mayF ⟨rs, wr, x :: xs⟩ x.write then
      let r := passG (giveF ⟨rs, wr, xs⟩ x).readers (giveF ⟨rs, wr, xs⟩ x).writer xs
      (x.task :: r.1, r.2)
    else ([], ⟨rs, wr, x :: xs⟩)
def passL (lx : Lk) : List Int × Lk := passG lx.readers lx.writer lx.queue
def unwait (f : Int → Option W3) (ts : List Int) : Int → Option W3 := ts.foldl (fun f t => updF f t none) f
theorem passL_nil {lx : Lk} (h : lx.queue = []) : passL lx = ([], lx) := by
  obtain ⟨r, w, q⟩ := lx
  simp only at h
  subst h
  rfl
theorem passL_no {lx : Lk} {x : Wt} {xs : List Wt} (h : lx.queue = x :: xs) (hm : mayF lx x.write = false) : passL lx = ([], lx) := by
  obtain ⟨r, w, q⟩ := lx
  simp only at h
  subst h
  have : mayF ⟨r, w, x :: xs⟩ x.write = false := hm
  simp [passL, passG, this]
theorem giveF_queue (lx : Lk) (x : Wt) : (giveF lx x).queue = lx.queue := by unfold giveF; split <;> rfl
theorem passL_yes {lx : Lk} {x : Wt} {xs : List Wt} (h : lx.queue = x :: xs) (hm : mayF lx x.write = true) : passL lx = (x.task :: (passL (giveF ⟨lx.readers, lx.writer, xs⟩ x)).1, (passL (giveF ⟨lx.readers, lx.writer, xs⟩ x)).2) := by
  obtain ⟨r, w, q⟩ := lx
  simp only at h
  subst h
  have : mayF ⟨r, w, x :: xs⟩ x.write = true := hm
  have e : (giveF ⟨r, w, xs⟩ x).queue = xs := giveF_queue _ _
  simp [passL, passG, this, e]
section
variable {w w' : World} {base N Q o : Nat} {g : G8} {s : S8}
theorem pass88 (h : InvG w base N Q o g s) (hQ : Q ≤ 4398046511104) {i : Nat} {lx : Lk} (hlx : s.ls[i]? = some lx) {a : Addr} (ha : g.q2 = some a) :
    Calls Try.prog 88 #[.pointer (some (ad o)), .pointer (some (a.add (i * 3)))] w (Ret fun v w' => ∃ q l c, v = .slice q l c ∧ Woke w w' base N Q o g q l (passL lx).1 { s with ls := s.ls.set i (passL lx).2, wt := unwait s.wt (passL lx).1 }) := by
  have hil := get_lt hlx
  refine f88.calls _ _ ?_
  unfold f88.wp
  refine ⟨fun q1 l1 c1 w1 => ∃ (acc : List Int) (g1 : G8) (l' : Lk), SE En.int w1 w.heap.size 3 q1 l1 c1 acc ∧ (∀ b, qB q1 = some b → ¬ Own g1 o b) ∧ InvG w1 base N Q o g1 { s with ls := s.ls.set i l', wt := unwait s.wt acc } ∧ Stp o w g w1 g1 ∧ g1.q2 = some a ∧ acc ++ (passL l').1 = (passL lx).1 ∧ (passL l').2 = (passL lx).2, fun _ l1 _ _ => (passL lx).1.length - l1, ⟨[], g, lx, SE.nil _ _ _ _, fun b hb => by simp [qB] at hb, by rw [set_same hlx]; exact h, Stp.refl _ _ _, ha, by simp, rfl⟩, ?_⟩
  rintro q1 l1 c1 w1 ⟨acc, g1, l', A1, nA, I1, st1, ha1, e1, e2⟩
  have hl' : ({ s with ls := s.ls.set i l', wt := unwait s.wt acc } : S8).ls[i]? = some l' := set_get hil
  obtain ⟨a', hr, hd, ha', hhx, Qe, Re, c0, c1', c2⟩ := I1.lrow_at hl'
  rw [ha1] at ha'; cases ha'
  have hql : l'.queue.length = hd.2.1 := Qe.len
  have fin : (passL l').1 = [] → (passL l').2 = l' → Woke w w1 base N Q o g q1 l1 (passL lx).1 { s with ls := s.ls.set i (passL lx).2, wt := unwait s.wt (passL lx).1 } := fun h1 h2 => by
    rw [← e1, ← e2, h1, h2, List.append_nil]
    exact ⟨Mn.of A1, fun b hb => ⟨(A1.lt hb).2, (A1.lt hb).1⟩, g1, I1, st1, nA⟩
  refine onPtr_mk ⟨_, _, _, c2, bc (fun hpos => ?_) (fun hz => ?_)⟩
  rotate_left
  · have hz : l'.queue = [] := List.eq_nil_of_length_eq_zero (by have := of_decide_eq_false hz; omega)
    have := passL_nil hz
    exact ⟨_, _, _, rfl, fin (by rw [this]) (by rw [this])⟩
  have hpos : 0 < hd.2.1 := by have := of_decide_eq_true hpos; omega
  obtain ⟨x, xs, hqu⟩ : ∃ x xs, l'.queue = x :: xs := by
    cases hq : l'.queue with
    | nil => rw [hq] at hql; simp at hql; omega
    | cons x xs => exact ⟨x, xs, rfl⟩
  have Qe' : SE En.wt w1 base 106 hd.1 hd.2.1 hd.2.2 (x :: xs) := by rw [← hqu]; exact Qe
  obtain ⟨qa, y, hqa, hy, hrq⟩ := Qe'.re.ex (i := 0) hpos
  cases hy
  have tw := reads_at hrq (i := 1) rfl
  refine onPtr_mk ⟨_, _, _, c2, ?_⟩
  rw [hqa]
  refine onPtr_mk ⟨by decide, by omega, x.write, tw, Calls.use (may111 I1 hl' ha1 x.write) ?_⟩
  rintro _ _ ⟨rfl, rfl⟩
  refine ⟨_, rfl, bc (fun hm => ?_) (fun hm => ?_)⟩
  rotate_left
  · have := passL_no hqu hm
    exact ⟨_, _, _, rfl, fin (by rw [this]) (by rw [this])⟩
  have hy := passL_yes hqu hm
  refine onPtr_mk ⟨_, _, _, c2, ?_⟩
  rw [hqa]
  refine onPtr_mk ⟨by decide, by omega, _, _, _, hrq, boxed rfl rfl fun w4 B4 k4 s4 => ?_⟩
  have I4 := I1.chgN k4
  have Q4 := Qe'.chgN k4
  have c24 := k4.cell (cell_some c2) (fun x => x) |>.trans c2
  have n4 : ¬ Own g1 o w1.heap.size := fun ho => by have := (I1.own_lt ho).1; omega
  refine onPtr_mk ⟨_, _, _, c24, Calls.use (delete84 Q4) ?_⟩
  rintro _ w5 ⟨rfl, Q5, k5⟩
  have P5 := (I4.toParts.turn Q4 k5).lk
  rw [ha1] at P5
  have hil' : i < (s.ls.set i l').length := by rw [List.length_set]; exact hil
  refine ⟨_, _, _, rfl, onPtr_mk ⟨(lcan P5 hil').2.2, fun w6 e6 => ?_⟩⟩
  have hQ1 : 1 ≤ Q := by
    have := wt_lt I1 (I1.lq_at hhx hl').2
    rw [hqu] at this
    simp at this; omega
  have htx := I1.ht l'.queue (List.mem_of_getElem? (I1.lq_at hhx hl').2)
  rw [hqu] at htx
  obtain ⟨I6, st6⟩ := I4.lq (Q' := Q - 1) hhx hl' (h1 := (hd.1, hd.2.1 - 1, hd.2.2)) (ys := xs) k5 Q5 (.inl rfl) ha1 e6 (by rw [hqu]; simp; omega) (fun y hy => htx y (.tail _ hy))
  have B6 := st6.blk B4 n4
  have n6 := st6.nown B4.lt n4
  have hl6 : ((s.ls.set i l').set i ⟨l'.readers, l'.writer, xs⟩)[i]? = some ⟨l'.readers, l'.writer, xs⟩ := set_get hil'
  refine ⟨_, _, _, B6.reads0, Calls.use (give112 I6 hl6 ha1 x (by omega)) ?_⟩
  rintro _ w7 ⟨rfl, g7, I7, st7, ha7⟩
  have B7 := st7.blk B6 n6
  have n7 := st7.nown B6.lt n6
  have kd := (Chg.refl none_ w7).drew
  have I7' := I7.chgN kd
  have st7' : Stp o w7 g7 w7.drew g7 := Stp.ofN kd
  have B7' := B7.drew
  refine ⟨rfl, ?_⟩
  generalize w7.drew = W at *
  obtain ⟨w8, hrun, M8, k8⟩ := I7'.wts.delete (t := 87) (e := 47) key3 Try.underlying87 (htx x (.head _)) 0
  obtain ⟨I8, st8⟩ := I7'.wt' k8 M8 I7'.hn
  have B8 := st8.blk B7' n7
  refine onPtr_mk ⟨_, (I7'.obj.cell0 4).trans rfl, x.task, (B7'.cell 0).trans rfl, w8, hrun, x.task, (B8.cell 0).trans rfl, newBox fun w9 B9 k9 _ => ?_⟩
  have I9 := I8.chgN k9
  have st19 : Stp o w1 g1 w9 _ := (Stp.ofN k4).trans (st6.trans (st7.trans (st7'.trans (st8.trans (Stp.ofN k9)))))
  obtain ⟨A9, nA9⟩ := st19.se A1 nA
  have hal : acc.length = l1 := A1.len
  have hlt : l1 < (passL lx).1.length := by rw [← e1, hy, List.length_append, hal]; simp
  have hbd : (passL lx).1.length ≤ lx.queue.length := by
    have : ∀ (q : List Wt) (r : List Int) (wr : Int), (passG r wr q).1.length ≤ q.length := fun q => by
      induction q with
      | nil => intro r wr; exact Nat.le_refl _
      | cons x xs ih =>
        intro r wr
        unfold passG
        split
        · simp; exact ih _ _
        · simp
    exact this _ _ _
  have hlq : lx.queue.length ≤ Q := by
    obtain ⟨_, _, _, _, hhx0, _⟩ := h.lrow_at hlx
    exact wt_lt h (h.lq_at hhx0 hlx).2
  have hbase : w.heap.size ≤ w9.heap.size := (st1.trans st19).chg.size
  obtain ⟨q', c', w10, hrunA, A10, kA, hqA, _⟩ := A9.append1 (t := 35) (ty := 35) (x := x.task) elemInt B9 (by simp only [maxLen]; omega) (by show (l1 + 1) * 8 ≤ _; omega) hbase
  have I10 := I9.chg kA fun b hb => nA9 b hb.symm
  have es : ({ s with ls := ((s.ls.set i l').set i ⟨l'.readers, l'.writer, xs⟩).set i (giveF ⟨l'.readers, l'.writer, xs⟩ x), wt := updF (unwait s.wt acc) x.task none } : S8) = { s with ls := s.ls.set i (giveF ⟨l'.readers, l'.writer, xs⟩ x), wt := unwait s.wt (acc ++ [x.task]) } := by
    rw [List.set_set, List.set_set]
    simp [unwait]
  have e10 : Q - 1 + 1 = Q := by omega
  rw [e10] at I10
  refine ⟨_, _, _, w10, hrunA, ⟨acc ++ [x.task], _, giveF ⟨l'.readers, l'.writer, xs⟩ x, A10, fun b hb ho => ?_, es ▸ I10, ⟨(st1.trans st19).chg.trans' kA fun b hb => .inr (A9.lt hb.symm).2, (st1.trans st19).grow⟩, ha7, ?_, ?_⟩, ?_⟩
  · rcases hqA with e | e
    · exact nA9 b (e ▸ hb) ho
    · rw [e] at hb; cases hb
      exact absurd (I9.own_lt ho).1 (Nat.lt_irrefl _)
  · rw [← e1, hy]; simp
  · rw [← e2, hy]
  · show (passL lx).1.length - (l1 + 1) < (passL lx).1.length - l1
    omega
end
end Full
end Go.Proofs.Ytibpbbjlecohiaa
set_option maxRecDepth 20000
namespace Go.Proofs.Ytibpbbjlecohiaa
namespace Full
open Go Go.Vc Go.RowKit
section
variable {w w' : World} {base N Q o : Nat} {g : G8} {s : S8}
theorem Woke.nil {w w' : World} {g' : G8} {s' : S8} (I : InvG w' base N Q o g' s') (st : Stp o w g w' g') : Woke w w' base N Q o g none 0 [] s' :=
  ⟨Mn.nil _, fun b hb => by simp [qB] at hb, g', I, st, fun b hb => by simp [qB] at hb⟩
theorem Woke.after {w w1 w' : World} {g1 : G8} {q : Option Addr} {l : Nat} {r : List Int} {s' : S8} (h : Woke w1 w' base N Q o g1 q l r s') (st : Stp o w g w1 g1) : Woke w w' base N Q o g q l r s' := by
  obtain ⟨h1, h2, g', I, st', hn⟩ := h
  exact ⟨h1, fun b hb => ⟨Nat.le_trans st.chg.size (h2 b hb).1, (h2 b hb).2⟩, g', I, st.trans st', hn⟩
theorem Woke.upQ {Q' : Nat} {q : Option Addr} {l : Nat} {r : List Int} {s' : S8} (h : Woke w w' base N Q o g q l r s') (hQ : Q ≤ Q') : Woke w w' base N Q' o g q l r s' := by
  obtain ⟨h1, h2, g', I, st', hn⟩ := h
  exact ⟨h1, h2, g', I.up (Nat.le_refl _) hQ, st', hn⟩
def passS (s : S8) (i : Nat) (lx : Lk) : List Int × S8 := ((passL lx).1, { s with ls := s.ls.set i (passL lx).2, wt := unwait s.wt (passL lx).1 })
/-- RUnlock -/
def runF (s : S8) (task n : Int) : List Int × Int × S8 :=
  if askL task [(n, s.ls.length)] s.wt ≠ 0 then ([], askL task [(n, s.ls.length)] s.wt, s) else
  match s.ls[n.toNat]? with
  | none => ([], 0, s)
  | some m => if idxI m.readers task < 0 then ([], 82, s) else
    let r := passS s n.toNat ⟨m.readers.take (idxI m.readers task).toNat ++ m.readers.drop ((idxI m.readers task).toNat + 1), m.writer, m.queue⟩
    (r.1, 0, r.2)
theorem idxI_lt (xs : List Int) (x : Int) : idxI xs x < xs.length ∧ -1 ≤ idxI xs x := by
  unfold idxI
  cases h : xs.findIdx? (· == x) with
  | none => exact ⟨show (-1 : Int) < xs.length by omega, show (-1 : Int) ≤ -1 by decide⟩
  | some i =>
    have := (List.findIdx?_eq_some_iff_getElem.1 h).1
    exact ⟨show (i : Int) < xs.length by omega, show (-1 : Int) ≤ i by omega⟩
theorem runlock48 (h : InvG w base N Q o g s) (hQ : Q ≤ 4398046511104) (task n : Int) :
    Calls Try.prog 48 #[.pointer (some (ad o)), .int .i64 task, .int .i64 n] w (Ret fun v w' => ∃ q l c, v = .tuple #[.slice q l c, .int .i64 (runF s task n).2.1] ∧ Woke w w' base N Q o g q l (runF s task n).1 (runF s task n).2.2) := by
  refine f48.calls _ _ _ ?_
  unfold f48.wp
  refine Calls.use (sizes43 h) ?_
  rintro _ w1 ⟨rfl, k1⟩
  refine ⟨_, _, _, _, rfl, newBox fun w2 B2 k2 _ => Calls.use (asks44 ((h.chgN k1).chgN k2) task (RE.of_flat (xs := [(n, (s.ls.length : Int))]) rfl B2.reads0) (by decide)) ?_⟩
  rintro _ w3 ⟨rfl, k3⟩
  have k03 := k1.trans (k2.trans k3)
  have h3 := h.chgN k03
  have L03 : Stp o w g w3 g := Stp.ofN k03
  refine ⟨_, rfl, bc (fun he => ?_) (fun he => ?_)⟩
  · have he : askL task [(n, s.ls.length)] s.wt ≠ 0 := by simpa using he
    have e : runF s task n = ([], askL task [(n, s.ls.length)] s.wt, s) := by unfold runF; rw [if_pos he]
    rw [e]
    exact ⟨_, _, _, rfl, Woke.nil h3 L03⟩
  have he : askL task [(n, s.ls.length)] s.wt = 0 := by simpa using he
  obtain ⟨t0, t1, hbad, hw⟩ := askL_ok he
  obtain ⟨n0, n1⟩ := badN_one hbad
  obtain ⟨i, rfl⟩ : ∃ i : Nat, n = i := ⟨n.toNat, by omega⟩
  obtain ⟨lx, hlx⟩ := get_ex (l := s.ls) (i := i) (by omega)
  have hil := get_lt hlx
  obtain ⟨a, hr, hd, ha, hhx, Qe, Re, c0, c1, c2⟩ := h3.lrow_at hlx
  have O := h3.obj
  rw [ha] at O
  have et : ((i : Int)).toNat = i := by omega
  have hrl : lx.readers.length = hr.2.1 := Re.len
  have hrq := h.rlen hlx
  obtain ⟨x1, x2⟩ := idxI_lt lx.readers task
  refine onPtr_mk ⟨_, _, _, (O.cell0 1).trans rfl, onPtr_mk ⟨by omega, by omega, ?_⟩⟩
  rw [et]
  refine ⟨_, _, _, c0, Calls.use (index86 Re.re task (by omega)) ?_⟩
  rintro _ _ ⟨rfl, rfl⟩
  refine ⟨_, rfl, bc (fun hneg => ?_) (fun hneg => ?_)⟩
  · have hneg := of_decide_eq_true hneg
    have e : runF s task i = ([], 82, s) := by
      unfold runF
      rw [if_neg (by simp [he]), Int.toNat_natCast, hlx]
      simp only
      rw [if_pos hneg]
    rw [e]
    exact ⟨_, _, _, rfl, Woke.nil h3 L03⟩
  have hneg := of_decide_eq_false hneg
  obtain ⟨j, hj⟩ : ∃ j : Nat, idxI lx.readers task = j := ⟨(idxI lx.readers task).toNat, by omega⟩
  have e : runF s task i = ((passS s i ⟨lx.readers.take j ++ lx.readers.drop (j + 1), lx.writer, lx.queue⟩).1, 0, (passS s i ⟨lx.readers.take j ++ lx.readers.drop (j + 1), lx.writer, lx.queue⟩).2) := by
    unfold runF
    rw [if_neg (by simp [he]), Int.toNat_natCast, hlx]
    simp only
    rw [if_neg hneg, hj, Int.toNat_natCast]
  rw [e, hj, wrapS (x := (j : Int) + 1) (by omega) (by omega)]
  refine ⟨_, _, _, c0, Calls.use (delete87 (i := j) Re (by omega) (by omega)) ?_⟩
  rintro _ w5 ⟨rfl, R5, k5⟩
  obtain ⟨_, _, l5, _⟩ := h3.toParts.turnr Re k5
  rw [ha] at l5
  refine ⟨_, _, _, rfl, (lcan l5 hil).1, fun w6 e6 => ?_⟩
  obtain ⟨I6, st6⟩ := h3.rd (Q' := Q) hhx hlx (h1 := (hr.1, hr.2.1 - 1, hr.2.2)) k5 R5 (.inl rfl) ha e6 (by simp; omega)
  have hl6 : (s.ls.set i ⟨lx.readers.take j ++ lx.readers.drop (j + 1), lx.writer, lx.queue⟩)[i]? = some ⟨lx.readers.take j ++ lx.readers.drop (j + 1), lx.writer, lx.queue⟩ := set_get hil
  refine Calls.use (pass88 I6 hQ hl6 ha) ?_
  rintro _ w7 ⟨q, l, c, rfl, hW⟩
  refine ⟨_, _, _, rfl, _, _, _, rfl, ?_⟩
  have := hW.after (L03.trans st6)
  simp only [List.set_set] at this
  exact this
/-- WUnlock -/
def wunF (s : S8) (task n : Int) : List Int × Int × S8 :=
  if askL task [(n, s.ls.length)] s.wt ≠ 0 then ([], askL task [(n, s.ls.length)] s.wt, s) else
  match s.ls[n.toNat]? with
  | none => ([], 0, s)
  | some m => if m.writer ≠ task then ([], 82, s) else
    let r := passS s n.toNat ⟨m.readers, -1, m.queue⟩
    (r.1, 0, r.2)
theorem wunlock50 (h : InvG w base N Q o g s) (hQ : Q ≤ 4398046511104) (task n : Int) :
    Calls Try.prog 50 #[.pointer (some (ad o)), .int .i64 task, .int .i64 n] w (Ret fun v w' => ∃ q l c, v = .tuple #[.slice q l c, .int .i64 (wunF s task n).2.1] ∧ Woke w w' base N Q o g q l (wunF s task n).1 (wunF s task n).2.2) := by
  refine f50.calls _ _ _ ?_
  unfold f50.wp
  refine Calls.use (sizes43 h) ?_
  rintro _ w1 ⟨rfl, k1⟩
  refine ⟨_, _, _, _, rfl, newBox fun w2 B2 k2 _ => Calls.use (asks44 ((h.chgN k1).chgN k2) task (RE.of_flat (xs := [(n, (s.ls.length : Int))]) rfl B2.reads0) (by decide)) ?_⟩
  rintro _ w3 ⟨rfl, k3⟩
  have k03 := k1.trans (k2.trans k3)
  have h3 := h.chgN k03
  have L03 : Stp o w g w3 g := Stp.ofN k03
  refine ⟨_, rfl, bc (fun he => ?_) (fun he => ?_)⟩
  · have he : askL task [(n, s.ls.length)] s.wt ≠ 0 := by simpa using he
    have e : wunF s task n = ([], askL task [(n, s.ls.length)] s.wt, s) := by unfold wunF; rw [if_pos he]
    rw [e]
    exact ⟨_, _, _, rfl, Woke.nil h3 L03⟩
  have he : askL task [(n, s.ls.length)] s.wt = 0 := by simpa using he
  obtain ⟨t0, t1, hbad, hw⟩ := askL_ok he
  obtain ⟨n0, n1⟩ := badN_one hbad
  obtain ⟨i, rfl⟩ : ∃ i : Nat, n = i := ⟨n.toNat, by omega⟩
  obtain ⟨lx, hlx⟩ := get_ex (l := s.ls) (i := i) (by omega)
  have hil := get_lt hlx
  obtain ⟨a, hr, hd, ha, hhx, Qe, Re, c0, c1, c2⟩ := h3.lrow_at hlx
  have O := h3.obj
  rw [ha] at O
  have S3 := h3.lk
  rw [ha] at S3
  have et : ((i : Int)).toNat = i := by omega
  refine onPtr_mk ⟨_, _, _, (O.cell0 1).trans rfl, onPtr_mk ⟨by omega, by omega, ?_⟩⟩
  rw [et]
  refine ⟨_, c1, bc (fun hne => ?_) (fun heq => ?_)⟩
  · have hne : lx.writer ≠ task := by simpa using hne
    have e : wunF s task i = ([], 82, s) := by
      unfold wunF
      rw [if_neg (by simp [he]), Int.toNat_natCast, hlx]
      simp only
      rw [if_pos hne]
    rw [e]
    exact ⟨_, _, _, rfl, Woke.nil h3 L03⟩
  have heq : ¬ (lx.writer ≠ task) := by simpa using heq
  have e : wunF s task i = ((passS s i ⟨lx.readers, -1, lx.queue⟩).1, 0, (passS s i ⟨lx.readers, -1, lx.queue⟩).2) := by
    unfold wunF
    rw [if_neg (by simp [he]), Int.toNat_natCast, hlx]
    simp only
    rw [if_neg heq]
  rw [e]
  refine ⟨(lcan S3 hil).2.1, fun w4 e4 => ?_⟩
  obtain ⟨I4, st4⟩ := h3.wr hhx hlx (-1) ha e4
  have hl4 : (s.ls.set i ⟨lx.readers, -1, lx.queue⟩)[i]? = some ⟨lx.readers, -1, lx.queue⟩ := set_get hil
  refine Calls.use (pass88 I4 hQ hl4 ha) ?_
  rintro _ w5 ⟨q, l, c, rfl, hW⟩
  refine ⟨_, _, _, rfl, _, _, _, rfl, ?_⟩
  have := hW.after (L03.trans st4)
  simp only [List.set_set] at this
  exact this
/-- Add -/
def addF (s : S8) (task n by_ : Int) : Int × Int × S8 :=
  if askL task [(n, s.ns.length)] s.wt ≠ 0 then (0, askL task [(n, s.ns.length)] s.wt, s) else
  match s.ns[n.toNat]? with
  | none => (0, 0, s)
  | some m => (IntKind.wrap .i64 (m + by_), 0, { s with ns := s.ns.set n.toNat (IntKind.wrap .i64 (m + by_)) })
theorem add54 (h : InvG w base N Q o g s) (task n by_ : Int) :
    Calls Try.prog 54 #[.pointer (some (ad o)), .int .i64 task, .int .i64 n, .int .i64 by_] w (Ret fun v w' => v = .tuple #[.int .i64 (addF s task n by_).1, .int .i64 (addF s task n by_).2.1] ∧ ∃ g', InvG w' base N Q o g' (addF s task n by_).2.2 ∧ Stp o w g w' g') := by
  refine f54.calls _ _ _ _ ?_
  unfold f54.wp
  refine Calls.use (sizes43 h) ?_
  rintro _ w1 ⟨rfl, k1⟩
  refine ⟨_, _, _, _, rfl, newBox fun w2 B2 k2 _ => Calls.use (asks44 ((h.chgN k1).chgN k2) task (RE.of_flat (xs := [(n, (s.ns.length : Int))]) rfl B2.reads0) (by decide)) ?_⟩
  rintro _ w3 ⟨rfl, k3⟩
  have k03 := k1.trans (k2.trans k3)
  have h3 := h.chgN k03
  have L03 : Stp o w g w3 g := Stp.ofN k03
  refine ⟨_, rfl, bc (fun he => ?_) (fun he => ?_)⟩
  · have he : askL task [(n, s.ns.length)] s.wt ≠ 0 := by simpa using he
    have e : addF s task n by_ = (0, askL task [(n, s.ns.length)] s.wt, s) := by unfold addF; rw [if_pos he]
    rw [e]
    exact ⟨rfl, g, h3, L03⟩
  have he : askL task [(n, s.ns.length)] s.wt = 0 := by simpa using he
  obtain ⟨t0, t1, hbad, hw⟩ := askL_ok he
  obtain ⟨n0, n1⟩ := badN_one hbad
  obtain ⟨i, rfl⟩ : ∃ i : Nat, n = i := ⟨n.toNat, by omega⟩
  obtain ⟨m, hm⟩ := get_ex (l := s.ns) (i := i) (by omega)
  have hil := get_lt hm
  obtain ⟨a, y, ha, hy, hr⟩ := h3.ct.re.ex (i := i) hil
  rw [hm] at hy; cases hy
  have O := h3.obj
  rw [ha] at O
  have et : ((i : Int)).toNat = i := by omega
  have e : addF s task i by_ = (IntKind.wrap .i64 (m + by_), 0, { s with ns := s.ns.set i (IntKind.wrap .i64 (m + by_)) }) := by
    unfold addF
    rw [if_neg (by simp [he]), Int.toNat_natCast, hm]
  rw [e]
  obtain ⟨a', ha', hcan⟩ := h3.ct.can (i := i) hil
  rw [ha] at ha'; cases ha'
  have hc0 := hcan 0 1 (by decide)
  rw [add_zero'] at hc0
  refine onPtr_mk ⟨_, _, _, (O.cell0 3).trans rfl, onPtr_mk ⟨by omega, by omega, ?_⟩⟩
  rw [et]
  refine ⟨m, reads_one' hr, onPtr_mk ⟨by omega, by omega, hc0, fun w4 e4 => ?_⟩⟩
  obtain ⟨I4, st4⟩ := h3.ct' hil (IntKind.wrap .i64 (m + by_)) ha e4
  have O4 := I4.obj
  rw [ha] at O4
  have hil4 : i < (s.ns.set i (IntKind.wrap .i64 (m + by_))).length := by rw [List.length_set]; exact hil
  obtain ⟨a4, y4, ha4, hy4, hr4⟩ := I4.ct.re.ex (i := i) hil4
  rw [ha] at ha4; cases ha4
  rw [set_get hil] at hy4; cases hy4
  refine onPtr_mk ⟨_, _, _, (O4.cell0 3).trans rfl, onPtr_mk ⟨by omega, by rw [List.length_set]; omega, _, reads_one' hr4, rfl, _, I4, L03.trans st4⟩⟩
end
end Full
end Go.Proofs.Ytibpbbjlecohiaa
set_option maxRecDepth 20000
namespace Go.Proofs.Ytibpbbjlecohiaa
namespace Full
open Go Go.Vc Go.RowKit
section
variable {w w' : World} {base N Q o : Nat} {g : G8} {s : S8}
theorem InvG.crow_at (h : InvG w base N Q o g s) {i : Nat} {xs : List Wt} (hcx : s.cs[i]? = some xs) : ∃ (a : Addr) (hd : Hd), g.q3 = some a ∧ g.ch[i]? = some hd ∧ SE En.wt w base 106 hd.1 hd.2.1 hd.2.2 xs ∧ w.cell? (a.add (i * 1)) = some (.slice hd.1 hd.2.1 hd.2.2) := by
  have hil := get_lt hcx
  obtain ⟨a, hd, ha, hhx, hr⟩ := h.cd.re.ex (i := i) hil
  have hq := h.cq_at hhx hcx
  exact ⟨a, hd, ha, hhx, h.que.se _ hd xs hq.1 hq.2, reads_one' hr⟩
theorem ccan {l c : Nat} {ch : List Hd} {a : Addr} (S : SE En.hd w base 95 (some a) l c ch) {i : Nat} (hi : i < l) : canStore w (a.add (i * 1)) 1 := by
  obtain ⟨a', ha', hcan⟩ := S.can hi
  cases ha'
  have hc0 := hcan 0 1 (by decide)
  rw [add_zero'] at hc0
  exact hc0
/-- the first that waits for a condition goes -/
def letF (s : S8) (i : Nat) (x : Wt) (xs : List Wt) (mx : Mx) : List Int × S8 :=
  if 0 ≤ mx.owner then ([], { s with cs := s.cs.set i xs, ms := s.ms.set x.mutex.toNat ⟨mx.owner, mx.queue ++ [x]⟩, wt := updF s.wt x.task (some (x.task, 1, x.mutex)) })
  else ([x.task], { s with cs := s.cs.set i xs, ms := s.ms.set x.mutex.toNat ⟨x.task, mx.queue⟩, wt := updF s.wt x.task none })
theorem let89 (h : InvG w base N Q o g s) (hN : N ≤ 4000000000000000000) (hQ : Q ≤ 4398046511104) {i : Nat} {x : Wt} {xs : List Wt} (hcx : s.cs[i]? = some (x :: xs)) {mx : Mx} (hmx : s.ms[x.mutex.toNat]? = some mx) :
    Calls Try.prog 89 #[.pointer (some (ad o)), .int .i64 (i : Int)] w (Ret fun v w' => ∃ q l c, v = .slice q l c ∧ Woke w w' base N Q o g q l (letF s i x xs mx).1 (letF s i x xs mx).2) := by
  have hil := get_lt hcx
  have et : ((i : Int)).toNat = i := by omega
  obtain ⟨a, hd, ha, hhx, Qe, c0⟩ := h.crow_at hcx
  have O := h.obj
  rw [ha] at O
  have hcb := h.hc (x :: xs) (List.mem_of_getElem? hcx) x (.head _)
  obtain ⟨mi, hmi⟩ : ∃ mi : Nat, x.mutex = mi := ⟨x.mutex.toNat, by omega⟩
  have hmt : x.mutex.toNat = mi := by omega
  rw [hmt] at hmx
  have htq := h.ht (x :: xs) (List.mem_of_getElem? (h.cq_at hhx hcx).2)
  refine f89.calls _ _ ?_
  unfold f89.wp
  refine onPtr_mk ⟨_, _, _, (O.cell0 2).trans rfl, onPtr_mk ⟨by omega, by omega, ?_⟩⟩
  rw [et]
  have hlen : xs.length + 1 = hd.2.1 := Qe.len
  obtain ⟨qa, y, hqa, hy, hrq⟩ := Qe.re.ex (i := 0) (by omega)
  cases hy
  refine ⟨_, _, _, c0, ?_⟩
  rw [hqa]
  refine onPtr_mk ⟨by decide, by omega, _, _, _, hrq, boxed rfl rfl fun w2 B2 k2 s2 => ?_⟩
  have n0 : ¬ Own g o w.heap.size := fun ho => Nat.lt_irrefl _ (h.own_lt ho).1
  have kd := k2.drew
  have h2 := h.chgN kd
  have st2 : Stp o w g w2.drew g := Stp.ofN kd
  have B2' := B2.drew
  have Q2 := Qe.chgN kd
  have c02 := (kd.cell (cell_some c0) (fun x => x)).trans c0
  generalize w2.drew = W at *
  have O2 := h2.obj
  rw [ha] at O2
  have S2 := h2.cd
  rw [ha] at S2
  refine ⟨fun p => p.block = o ∨ p.block = a.block, onPtr_mk ⟨_, _, _, .inl (by rw [add_block]), (O2.cell0 2).trans rfl, onPtr_mk ⟨_, _, _, .inl (by rw [add_block]), (O2.cell0 2).trans rfl, onPtr_mk ⟨by omega, by omega, _, _, _, .inr (by rw [add_block]), c02, Calls.use (delete84 Q2) ?_⟩⟩⟩⟩
  rintro _ w3 ⟨rfl, Q3, k3⟩
  have P3 := (h2.toParts.turn Q2 k3).cd
  rw [ha] at P3
  have hKp : Keeps (fun p => p.block = o ∨ p.block = a.block) W w3 := fun p hp => by
    obtain ⟨curA, BA⟩ := S2.blk (g := a.block) rfl
    refine k3.cell ?_ ?_
    · rcases hp with hp | hp <;> rw [hp]
      · exact O2.lt
      · exact BA.lt
    · rcases hp with hp | hp <;> rw [hp] <;> intro e
      · exact SE.ne Q2 O2 (by decide) _ e.symm rfl
      · exact SE.ne Q2 BA (by decide) _ e.symm rfl
  refine ⟨_, _, _, rfl, hKp, onPtr_mk ⟨by omega, by omega, ccan P3 hil, fun w4 e4 => ?_⟩⟩
  have hN1 : 1 ≤ N := by have := h.hn; have := tot_at hcx; simp at this; omega
  have hQ1 : 1 ≤ Q := by have := wt_lt h (h.cq_at hhx hcx).2; simp at this; omega
  obtain ⟨I4, st4⟩ := h2.cq (N' := N - 1) (Q' := Q - 1) hhx hcx (h1 := (hd.1, hd.2.1 - 1, hd.2.2)) (ys := xs) k3 Q3 (.inl rfl) ha e4 (by simp; omega) (by simp; omega) (fun y hy => htq y (.tail _ hy)) (fun y hy => h.hc (x :: xs) (List.mem_of_getElem? hcx) y (.tail _ hy))
  have B4 := st4.blk B2' n0
  have n4 := st4.nown B2'.lt n0
  have kd4 := (Chg.refl none_ w4).drew
  have I4' := I4.chgN kd4
  have st4' : Stp o w4 { g with ch := g.ch.set i (hd.1, hd.2.1 - 1, hd.2.2) } w4.drew { g with ch := g.ch.set i (hd.1, hd.2.1 - 1, hd.2.2) } := Stp.ofN kd4
  have st04 := st2.trans (st4.trans st4')
  have B4' := B4.drew
  generalize w4.drew = V at *
  obtain ⟨b, hm, hb, hmh, Qm, d0, d1⟩ := I4'.mrow_at (i := mi) (mx := mx) hmx
  have O4 := I4'.obj
  rw [hb] at O4
  have hml : mi < s.ms.length := get_lt hmx
  have Sm := I4'.mx
  rw [hb] at Sm
  have emt : (x.mutex).toNat = mi := hmt
  refine onPtr_mk ⟨_, _, _, (O4.cell 0).trans rfl, x.mutex, (B4'.cell0 2).trans rfl, onPtr_mk ⟨hcb.1, hcb.2, ?_⟩⟩
  rw [emt]
  refine ⟨_, d0, bc (fun hown => ?_) (fun hown => ?_)⟩
  · have hown := of_decide_eq_true hown
    have eF : letF s i x xs mx = ([], { s with cs := s.cs.set i xs, ms := s.ms.set mi ⟨mx.owner, mx.queue ++ [x]⟩, wt := updF s.wt x.task (some (x.task, 1, x.mutex)) }) := by rw [letF, if_pos hown, hmt]
    rw [eF]
    have kv := (Chg.refl none_ V).drew
    have I5 := I4'.chgN kv
    have Q5m := Qm.chgN kv
    have B5c := B4'.drew
    have d1' := (kv.cell (cell_some d1) (fun x => x)).trans d1
    have st05 := st04.trans (Stp.ofN kv)
    generalize V.drew = U at *
    refine ⟨fun p => p = (b.add (mi * 2)).add 1 ∨ p.block = w.heap.size, _, _, _, .inl rfl, d1', _, _, _, fun j _ => .inr (by rw [add_block]), B5c.reads0, newBox fun w5 B5 k5 _ => ?_⟩
    have hKn : Keeps (fun p => p = (b.add (mi * 2)).add 1 ∨ p.block = w.heap.size) U w5 := fun p hp => k5.cell (by
      rcases hp with rfl | hp
      · exact cell_some d1'
      · rw [hp]; exact B5c.lt) (fun x => x)
    have I5' := I5.chgN k5
    have hb5 : base ≤ w5.heap.size := Nat.le_trans I5'.bo (Nat.le_of_lt I5'.obj.lt)
    have hml' : mx.queue.length = hm.2.1 := Qm.len
    have hmq := wt_lt I4' (j := mi) (app_at (map_at (f := Mx.queue) hmx))
    obtain ⟨q', c', w6, hrun, Q6, k6, hq6, _⟩ := (Q5m.chgN k5).append1 (t := 95) (ty := 95) (x := x) elemWt B5 (by simp only [maxLen]; omega) (by show (hm.2.1 + 1) * 24 ≤ _; omega) hb5
    have P6 := (I5'.toParts.turn (Q5m.chgN k5) k6).mx
    rw [hb] at P6
    have B5o := k5.blk B5c (fun x => x)
    have S5' := I5'.mx
    rw [hb] at S5'
    have nb : ¬ (some b.block = qB hm.1) := fun e => SE.ne2 (Q5m.chgN k5) S5' (by decide) _ e.symm rfl
    have nc : ¬ (some w.heap.size = qB hm.1) := fun e => n4 (.que (List.mem_of_getElem? (app_at (map_at (f := MxH.hd) hmh))) e.symm)
    refine ⟨hKn, _, _, _, w6, hrun, fun p hp => ?_, (mcan P6 hml).2, fun w7 e7 => ?_⟩
    · rw [k6.cell ?_ ?_]
      · exact hKn p hp
      · rcases hp with rfl | hp
        · exact Nat.lt_of_lt_of_le (cell_some d1') k5.size
        · rw [hp]; exact B5o.lt
      · rcases hp with rfl | hp
        · rw [add_block, add_block]; exact nb
        · rw [hp]; exact nc
    · obtain ⟨I7, st7⟩ := I5'.mq (Q' := Q) hmh hmx (h1 := (q', hm.2.1 + 1, c')) k6 Q6 (hq6.imp id .inl) hb e7 (by simp; omega) (fun y hy => by
        rcases List.mem_append.1 hy with hy | hy
        · exact I4'.ht mx.queue (List.mem_of_getElem? (app_at (map_at (f := Mx.queue) hmx))) y hy
        · simp at hy; subst hy; exact htq y (.head _))
      have B7 := st7.blk B5o n4
      refine ⟨x.task, (B7.cell 0).trans rfl, x.mutex, (B7.cell0 2).trans rfl, Calls.use (wait45 I7 (by omega) (htq x (.head _)) 1 x.mutex) ?_⟩
      rintro _ w8 ⟨rfl, g8, I8, st8⟩
      have e1 : N - 1 + 1 = N := by omega
      rw [e1] at I8
      exact ⟨rfl, _, _, _, rfl, Woke.nil I8 (st05.trans ((Stp.ofN k5).trans (st7.trans st8)))⟩
  · have hown : ¬ 0 ≤ mx.owner := by have := of_decide_eq_false hown; omega
    have eF : letF s i x xs mx = ([x.task], { s with cs := s.cs.set i xs, ms := s.ms.set mi ⟨x.task, mx.queue⟩, wt := updF s.wt x.task none }) := by rw [letF, if_neg hown, hmt]
    rw [eF]
    refine ⟨x.task, (B4'.cell 0).trans rfl, (mcan Sm hml).1, fun w9 e9 => ?_⟩
    obtain ⟨I9, st9⟩ := I4'.ow hmh hmx x.task hb e9
    have B9 := st9.blk B4' n4
    have n9 := st9.nown B4'.lt n4
    have k9 := (Chg.refl none_ w9).drew
    have I9' := I9.chgN k9
    have B9' := B9.drew
    have st09 := st04.trans (st9.trans (Stp.ofN k9))
    generalize w9.drew = U at *
    obtain ⟨w10, hrun, M10, k10⟩ := I9'.wts.delete (t := 87) (e := 47) key3 Try.underlying87 (htq x (.head _)) 0
    obtain ⟨I10, st10⟩ := I9'.wt' k10 M10 I9'.hn
    have B10 := st10.blk B9' n9
    have st010 := st09.trans st10
    refine onPtr_mk ⟨_, (I9'.obj.cell0 4).trans rfl, x.task, (B9'.cell 0).trans rfl, w10, hrun, x.task, (B10.cell 0).trans rfl, newBox fun w11 B11 k11 _ => ⟨_, _, _, rfl, Mn.of (SE.lit B11 (Nat.zero_le _) (fun n v hv => by rcases n with _ | n; exact hv; simp [En.flat, En.int] at hv) rfl (Nat.le_refl _) (by decide) (by show 1 * 1 ≤ 1; decide)), fun b' hb' => ?_, _, (I10.chgN k11).up (by omega) (by omega), st010.trans (Stp.ofN k11), fun b' hb' ho => ?_⟩⟩
    · obtain rfl : b' = w10.heap.size := (Option.some.inj hb').symm
      exact ⟨st010.chg.size, B11.lt⟩
    · obtain rfl : b' = w10.heap.size := (Option.some.inj hb').symm
      exact Nat.lt_irrefl _ (I10.own_lt ho).1
end
end Full
end Go.Proofs.Ytibpbbjlecohiaa
set_option maxRecDepth 20000
namespace Go.Proofs.Ytibpbbjlecohiaa
namespace Full
open Go Go.Vc Go.RowKit
section
variable {w w' : World} {base N Q o : Nat} {g : G8} {s : S8}
/-- a slice that was told stays as it was told -/
theorem Woke.then {w w1 w' : World} {q : Option Addr} {l : Nat} {r : List Int} {g1 g' : G8} {s' : S8} {N' Q' : Nat} (hr : Mn w1 q l r) (h2 : ∀ b, qB q = some b → w.heap.size ≤ b ∧ b < w1.heap.size) (hn : ∀ b, qB q = some b → ¬ Own g1 o b) (st : Stp o w g w1 g1) (st' : Stp o w1 g1 w' g') (I : InvG w' base N' Q' o g' s') : Woke w w' base N' Q' o g q l r s' :=
  ⟨hr.chgS st'.chg fun a ha => hn a.block (by rw [ha]; rfl), fun b hb => ⟨(h2 b hb).1, Nat.lt_of_lt_of_le (h2 b hb).2 st'.chg.size⟩, g', I, st.trans st', fun b hb => st'.nown (h2 b hb).2 (hn b hb)⟩
theorem badN_two {n b m c : Int} (h : badN [(n, b), (m, c)] = false) : (0 ≤ n ∧ n < b) ∧ 0 ≤ m ∧ m < c := by
  simp [badN] at h
  omega
/-- Wait -/
def waitF (s : S8) (task n m : Int) : List Int × Int × S8 :=
  if askL task [(n, s.cs.length), (m, s.ms.length)] s.wt ≠ 0 then ([], askL task [(n, s.cs.length), (m, s.ms.length)] s.wt, s) else
  match s.ms[m.toNat]?, s.cs[n.toNat]? with
  | some mx, some xs => if mx.owner ≠ task then ([], 82, s) else
    ((handF s m.toNat mx).1, 0, { (handF s m.toNat mx).2 with cs := s.cs.set n.toNat (xs ++ [⟨task, false, m⟩]), wt := updF (handF s m.toNat mx).2.wt task (some (task, 7, n)) })
  | _, _ => ([], 0, s)
theorem handF_cs (s : S8) (i : Nat) (mx : Mx) : (handF s i mx).2.cs = s.cs ∧ (handF s i mx).2.ms.length = s.ms.length ∧ (handF s i mx).2.ls = s.ls ∧ (handF s i mx).2.ns = s.ns := by
  unfold handF
  cases mx.queue <;> simp
theorem wait51 (h : InvG w base N Q o g s) (hN : N ≤ 3000000000000000000) (hQ : Q ≤ 4398046511104) (task n m : Int) :
    Calls Try.prog 51 #[.pointer (some (ad o)), .int .i64 task, .int .i64 n, .int .i64 m] w (Ret fun v w' => ∃ q l c, v = .tuple #[.slice q l c, .int .i64 (waitF s task n m).2.1] ∧ Woke w w' base (N + 2) (Q + 1) o g q l (waitF s task n m).1 (waitF s task n m).2.2) := by
  refine f51.calls _ _ _ _ ?_
  unfold f51.wp
  refine Calls.use (sizes43 h) ?_
  rintro _ w1 ⟨rfl, k1⟩
  refine ⟨_, _, _, _, rfl, newBox fun w2 B2 k2 _ => Calls.use (asks44 ((h.chgN k1).chgN k2) task (RE.of_flat (xs := [(n, (s.cs.length : Int)), (m, (s.ms.length : Int))]) rfl B2.reads0) (by decide)) ?_⟩
  rintro _ w3 ⟨rfl, k3⟩
  have k03 := k1.trans (k2.trans k3)
  have h3 := h.chgN k03
  have L03 : Stp o w g w3 g := Stp.ofN k03
  refine ⟨_, rfl, bc (fun he => ?_) (fun he => ?_)⟩
  · have he : askL task [(n, s.cs.length), (m, s.ms.length)] s.wt ≠ 0 := by simpa using he
    have e : waitF s task n m = ([], askL task [(n, s.cs.length), (m, s.ms.length)] s.wt, s) := by unfold waitF; rw [if_pos he]
    rw [e]
    exact ⟨_, _, _, rfl, Woke.nil (h3.up (by omega) (by omega)) L03⟩
  have he : askL task [(n, s.cs.length), (m, s.ms.length)] s.wt = 0 := by simpa using he
  obtain ⟨t0, t1, hbad, hw⟩ := askL_ok he
  obtain ⟨⟨n0, n1⟩, m0, m1⟩ := badN_two hbad
  obtain ⟨i, rfl⟩ : ∃ i : Nat, n = i := ⟨n.toNat, by omega⟩
  obtain ⟨j, rfl⟩ : ∃ j : Nat, m = j := ⟨m.toNat, by omega⟩
  obtain ⟨mx, hmx⟩ := get_ex (l := s.ms) (i := j) (by omega)
  obtain ⟨xs, hcx⟩ := get_ex (l := s.cs) (i := i) (by omega)
  have e0 : waitF s task i j = if mx.owner ≠ task then (([], 82, s) : List Int × Int × S8) else
    ((handF s j mx).1, 0, { (handF s j mx).2 with cs := s.cs.set i (xs ++ [⟨task, false, (j : Int)⟩]), wt := updF (handF s j mx).2.wt task (some (task, 7, (i : Int))) }) := by
    unfold waitF
    rw [if_neg (by simp [he]), Int.toNat_natCast, Int.toNat_natCast, hmx, hcx]
  have ht64 := ok64_task t0 t1
  obtain ⟨a, hd, ha, hhx, Qe, c0, c1⟩ := h3.mrow_at hmx
  have O := h3.obj
  rw [ha] at O
  have eti : ((i : Int)).toNat = i := by omega
  have etj : ((j : Int)).toNat = j := by omega
  refine onPtr_mk ⟨_, _, _, (O.cell 0).trans rfl, onPtr_mk ⟨by omega, by omega, _, c0, ?_⟩⟩
  rw [e0]
  refine bc (fun hne => ?_) (fun heq => ?_)
  · have hne : mx.owner ≠ task := by simpa using hne
    rw [if_pos hne]
    exact ⟨_, _, _, rfl, Woke.nil (h3.up (by omega) (by omega)) L03⟩
  have heq : ¬ (mx.owner ≠ task) := by simpa using heq
  rw [if_neg heq]
  refine onPtr_mk ⟨_, _, _, (O.cell 0).trans rfl, onPtr_mk ⟨by omega, by omega, ?_⟩⟩
  rw [etj]
  refine Calls.use (hand46 h3 hmx ha) ?_
  rintro _ w4 ⟨q, l, c, rfl, hr, h2, g4, I4, st4, hn⟩
  obtain ⟨ecs, eml, els, ens⟩ := handF_cs s j mx
  refine ⟨_, _, _, rfl, ?_⟩
  have kd := (Chg.refl none_ w4).drew
  have I5 := I4.chgN kd
  have stD : Stp o w4 g4 w4.drew g4 := Stp.ofN kd
  have st04 := L03.trans st4
  generalize w4.drew = W at *
  have hcx' : (handF s j mx).2.cs[i]? = some xs := by rw [ecs]; exact hcx
  have hil : i < (handF s j mx).2.cs.length := get_lt hcx'
  obtain ⟨b, hc, hb, hch, Qc, d0⟩ := I5.crow_at hcx'
  have O5 := I5.obj
  rw [hb] at O5
  have S5 := I5.cd
  rw [hb] at S5
  refine ⟨fun p => p.block = o ∨ p.block = b.block, onPtr_mk ⟨_, _, _, .inl (by rw [add_block]), (O5.cell0 2).trans rfl, onPtr_mk ⟨_, _, _, .inl (by rw [add_block]), (O5.cell0 2).trans rfl, onPtr_mk ⟨by omega, by omega, ?_⟩⟩⟩⟩
  rw [eti]
  obtain ⟨curB, BB⟩ := S5.blk (g := b.block) rfl
  have hKn : ∀ {w5 : World}, Chg none_ W w5 → Keeps (fun p => p.block = o ∨ p.block = b.block) W w5 := fun k p hp => k.cell (by
    rcases hp with hp | hp <;> rw [hp]
    · exact O5.lt
    · exact BB.lt) (fun x => x)
  refine ⟨_, _, _, .inr (by rw [add_block]), d0, newBox fun w5 B5 k5 _ => ⟨hKn k5, ?_⟩⟩
  have I6 := I5.chgN k5
  have hql : xs.length = hc.2.1 := Qc.len
  have hqN := wt_lt I5 (I5.cq_at hch hcx').2
  have hb5 : base ≤ w5.heap.size := Nat.le_trans I6.bo (Nat.le_of_lt I6.obj.lt)
  obtain ⟨q', c', w6, hrun, Q6, k6, hq6, _⟩ := (Qc.chgN k5).append1 (t := 95) (ty := 95) (x := ⟨task, false, (j : Int)⟩) elemWt B5 (by simp only [maxLen]; omega) (by show (hc.2.1 + 1) * 24 ≤ _; omega) hb5
  have P6 := (I6.toParts.turn (Qc.chgN k5) k6).cd
  rw [hb] at P6
  have S6 := I6.cd
  rw [hb] at S6
  refine ⟨_, _, _, w6, hrun, fun p hp => ?_, onPtr_mk ⟨by omega, by omega, ccan P6 hil, fun w7 e7 => ?_⟩⟩
  · rw [k6.cell ?_ ?_]
    · exact hKn k5 p hp
    · rcases hp with hp | hp <;> rw [hp]
      · exact I6.obj.lt
      · exact (k5.blk BB (fun x => x)).lt
    · rcases hp with hp | hp <;> rw [hp] <;> intro e
      · exact SE.ne (Qc.chgN k5) I6.obj (by decide) _ e.symm rfl
      · exact SE.ne (Qc.chgN k5) (k5.blk BB (fun x => x)) (by decide) _ e.symm rfl
  · obtain ⟨I7, st7⟩ := I6.cq (N' := N + 1) (Q' := Q + 1) hch hcx' (h1 := (q', hc.2.1 + 1, c')) k6 Q6 (hq6.imp id .inl) hb e7 (by simp; omega) (by simp; omega) (fun y hy => by
      rcases List.mem_append.1 hy with hy | hy
      · exact I5.ht xs (List.mem_of_getElem? (I5.cq_at hch hcx').2) y hy
      · simp at hy; subst hy; exact ht64) (fun y hy => by
      rcases List.mem_append.1 hy with hy | hy
      · exact I5.hc xs (List.mem_of_getElem? hcx') y hy
      · simp at hy; subst hy; exact ⟨by simp, by rw [eml]; exact m1⟩)
    refine Calls.use (wait45 I7 (by omega) ht64 7 i) ?_
    rintro _ w8 ⟨rfl, g8, I8, st8⟩
    have es : (handF s j mx).2.cs.set i (xs ++ [⟨task, false, (j : Int)⟩]) = s.cs.set i (xs ++ [⟨task, false, (j : Int)⟩]) := by rw [ecs]
    simp only [es] at I8
    exact ⟨rfl, _, _, _, rfl, Woke.then hr (fun b hb => ⟨Nat.le_trans k03.size (h2 b hb).1, (h2 b hb).2⟩) hn st04 (stD.trans ((Stp.ofN k5).trans (st7.trans st8))) I8⟩
end
end Full
end Go.Proofs.Ytibpbbjlecohiaa
set_option maxRecDepth 20000
namespace Go.Proofs.Ytibpbbjlecohiaa
namespace Full
open Go Go.Vc Go.RowKit
section
variable {w w' : World} {base N Q o : Nat} {g : G8} {s : S8}
def letS (s : S8) (i : Nat) : List Int × S8 := match s.cs[i]? with
  | some (x :: xs) => match s.ms[x.mutex.toNat]? with
    | some mx => letF s i x xs mx
    | none => ([], s)
  | _ => ([], s)
theorem letF_cs (s : S8) (i : Nat) (x : Wt) (xs : List Wt) (mx : Mx) : (letF s i x xs mx).2.cs = s.cs.set i xs ∧ (letF s i x xs mx).1.length ≤ 1 := by
  unfold letF
  split <;> simp
theorem let89' (h : InvG w base N Q o g s) (hN : N ≤ 4000000000000000000) (hQ : Q ≤ 4398046511104) {i : Nat} {x : Wt} {xs : List Wt} (hcx : s.cs[i]? = some (x :: xs)) :
    Calls Try.prog 89 #[.pointer (some (ad o)), .int .i64 (i : Int)] w (Ret fun v w' => ∃ q l c, v = .slice q l c ∧ Woke w w' base N Q o g q l (letS s i).1 (letS s i).2) ∧ (letS s i).2.cs = s.cs.set i xs ∧ (letS s i).1.length ≤ 1 := by
  have hcb := h.hc (x :: xs) (List.mem_of_getElem? hcx) x (.head _)
  obtain ⟨mx, hmx⟩ := get_ex (l := s.ms) (i := x.mutex.toNat) (by omega)
  have e : letS s i = letF s i x xs mx := by unfold letS; rw [hcx]; simp only; rw [hmx]
  rw [e]
  exact ⟨let89 h hN hQ hcx hmx, letF_cs s i x xs mx⟩
/-- Signal -/
def sigF (s : S8) (task n : Int) : List Int × Int × S8 :=
  if askL task [(n, s.cs.length)] s.wt ≠ 0 then ([], askL task [(n, s.cs.length)] s.wt, s) else ((letS s n.toNat).1, 0, (letS s n.toNat).2)
theorem signal52 (h : InvG w base N Q o g s) (hN : N ≤ 4000000000000000000) (hQ : Q ≤ 4398046511104) (task n : Int) :
    Calls Try.prog 52 #[.pointer (some (ad o)), .int .i64 task, .int .i64 n] w (Ret fun v w' => ∃ q l c, v = .tuple #[.slice q l c, .int .i64 (sigF s task n).2.1] ∧ Woke w w' base N Q o g q l (sigF s task n).1 (sigF s task n).2.2) := by
  refine f52.calls _ _ _ ?_
  unfold f52.wp
  refine Calls.use (sizes43 h) ?_
  rintro _ w1 ⟨rfl, k1⟩
  refine ⟨_, _, _, _, rfl, newBox fun w2 B2 k2 _ => Calls.use (asks44 ((h.chgN k1).chgN k2) task (RE.of_flat (xs := [(n, (s.cs.length : Int))]) rfl B2.reads0) (by decide)) ?_⟩
  rintro _ w3 ⟨rfl, k3⟩
  have k03 := k1.trans (k2.trans k3)
  have h3 := h.chgN k03
  have L03 : Stp o w g w3 g := Stp.ofN k03
  refine ⟨_, rfl, bc (fun he => ?_) (fun he => ?_)⟩
  · have he : askL task [(n, s.cs.length)] s.wt ≠ 0 := by simpa using he
    have e : sigF s task n = ([], askL task [(n, s.cs.length)] s.wt, s) := by unfold sigF; rw [if_pos he]
    rw [e]
    exact ⟨_, _, _, rfl, Woke.nil h3 L03⟩
  have he : askL task [(n, s.cs.length)] s.wt = 0 := by simpa using he
  obtain ⟨t0, t1, hbad, hw⟩ := askL_ok he
  obtain ⟨n0, n1⟩ := badN_one hbad
  obtain ⟨i, rfl⟩ : ∃ i : Nat, n = i := ⟨n.toNat, by omega⟩
  obtain ⟨xs, hcx⟩ := get_ex (l := s.cs) (i := i) (by omega)
  have e0 : sigF s task i = ((letS s i).1, 0, (letS s i).2) := by
    unfold sigF
    rw [if_neg (by simp [he]), Int.toNat_natCast]
  have et : ((i : Int)).toNat = i := by omega
  obtain ⟨a, hd, ha, hhx, Qe, c0⟩ := h3.crow_at hcx
  have O := h3.obj
  rw [ha] at O
  rw [e0]
  refine onPtr_mk ⟨_, _, _, (O.cell0 2).trans rfl, onPtr_mk ⟨by omega, by omega, ?_⟩⟩
  rw [et]
  have hql : xs.length = hd.2.1 := Qe.len
  refine ⟨_, _, _, c0, bc (fun hz => ?_) (fun hz => ?_)⟩
  · have hz : xs = [] := List.eq_nil_of_length_eq_zero (by have : hd.2.1 = 0 := by simpa using hz
                                                           omega)
    have e : letS s i = ([], s) := by unfold letS; rw [hcx, hz]
    rw [e]
    exact ⟨_, _, _, rfl, Woke.nil h3 L03⟩
  · have hz : hd.2.1 ≠ 0 := by simpa using hz
    cases xs with
    | nil => simp at hql; omega
    | cons x xs =>
      refine Calls.use (let89' h3 hN hQ hcx).1 ?_
      rintro _ w4 ⟨q, l, c, rfl, hW⟩
      exact ⟨_, _, _, rfl, _, _, _, rfl, hW.after L03⟩
def letN : Nat → S8 → Nat → List Int × S8
  | 0, s, _ => ([], s)
  | k + 1, s, i => ((letS s i).1 ++ (letN k (letS s i).2 i).1, (letN k (letS s i).2 i).2)
def lenQ (s : S8) (i : Nat) : Nat := ((s.cs[i]?).map List.length).getD 0
/-- Broadcast -/
def broF (s : S8) (task n : Int) : List Int × Int × S8 :=
  if askL task [(n, s.cs.length)] s.wt ≠ 0 then ([], askL task [(n, s.cs.length)] s.wt, s) else ((letN (lenQ s n.toNat) s n.toNat).1, 0, (letN (lenQ s n.toNat) s n.toNat).2)
def lenAt (w : World) (o i : Nat) : Nat := match w.cell? ((ad o).add 2) with
  | some (.slice (some a) _ _) => match w.cell? (a.add (i * 1)) with
    | some (.slice _ n _) => n
    | _ => 0
  | _ => 0
theorem lenAt_is (h : InvG w base N Q o g s) {i : Nat} {xs : List Wt} (hcx : s.cs[i]? = some xs) : lenAt w o i = xs.length := by
  obtain ⟨a, hd, ha, hhx, Qe, c0⟩ := h.crow_at hcx
  have O := h.obj
  rw [ha] at O
  have c2 : w.cell? ((ad o).add 2) = some (.slice (some a) s.cs.length g.c3) := (O.cell0 2).trans rfl
  unfold lenAt
  rw [c2]
  simp only
  rw [c0]
  exact Qe.len.symm
theorem broadcast53 (h : InvG w base N Q o g s) (hN : N ≤ 4000000000000000000) (hQ : Q ≤ 4398046511104) (task n : Int) :
    Calls Try.prog 53 #[.pointer (some (ad o)), .int .i64 task, .int .i64 n] w (Ret fun v w' => ∃ q l c, v = .tuple #[.slice q l c, .int .i64 (broF s task n).2.1] ∧ Woke w w' base N Q o g q l (broF s task n).1 (broF s task n).2.2) := by
  refine f53.calls _ _ _ ?_
  unfold f53.wp
  refine Calls.use (sizes43 h) ?_
  rintro _ w1 ⟨rfl, k1⟩
  refine ⟨_, _, _, _, rfl, newBox fun w2 B2 k2 _ => Calls.use (asks44 ((h.chgN k1).chgN k2) task (RE.of_flat (xs := [(n, (s.cs.length : Int))]) rfl B2.reads0) (by decide)) ?_⟩
  rintro _ w3 ⟨rfl, k3⟩
  have k03 := k1.trans (k2.trans k3)
  have h3 := h.chgN k03
  have L03 : Stp o w g w3 g := Stp.ofN k03
  refine ⟨_, rfl, bc (fun he => ?_) (fun he => ?_)⟩
  · have he : askL task [(n, s.cs.length)] s.wt ≠ 0 := by simpa using he
    have e : broF s task n = ([], askL task [(n, s.cs.length)] s.wt, s) := by unfold broF; rw [if_pos he]
    rw [e]
    exact ⟨_, _, _, rfl, Woke.nil h3 L03⟩
  have he : askL task [(n, s.cs.length)] s.wt = 0 := by simpa using he
  obtain ⟨t0, t1, hbad, hw⟩ := askL_ok he
  obtain ⟨n0, n1⟩ := badN_one hbad
  obtain ⟨i, rfl⟩ : ∃ i : Nat, n = i := ⟨n.toNat, by omega⟩
  obtain ⟨xs0, hcx0⟩ := get_ex (l := s.cs) (i := i) (by omega)
  have et : ((i : Int)).toNat = i := by omega
  have hlq : lenQ s i = xs0.length := by rw [lenQ, hcx0]; rfl
  have e0 : broF s task i = ((letN xs0.length s i).1, 0, (letN xs0.length s i).2) := by
    unfold broF
    rw [if_neg (by simp [he]), Int.toNat_natCast, hlq]
  have hqN : xs0.length ≤ Q := by
    obtain ⟨_, _, _, hhx, _⟩ := h3.crow_at hcx0
    exact wt_lt h3 (h3.cq_at hhx hcx0).2
  rw [e0]
  refine ⟨fun q1 l1 c1 w4 => ∃ (acc : List Int) (g4 : G8) (s4 : S8) (xs : List Wt), SE En.int w4 w.heap.size 3 q1 l1 c1 acc ∧ (∀ b, qB q1 = some b → ¬ Own g4 o b) ∧ InvG w4 base N Q o g4 s4 ∧ Stp o w g w4 g4 ∧ s4.cs[i]? = some xs ∧ s4.cs.length = s.cs.length ∧ acc.length + xs.length ≤ xs0.length ∧ acc ++ (letN xs.length s4 i).1 = (letN xs0.length s i).1 ∧ (letN xs.length s4 i).2 = (letN xs0.length s i).2, fun _ _ _ w4 => lenAt w4 o i, ⟨[], g, s, xs0, SE.nil _ _ _ _, fun b hb => by simp [qB] at hb, h3, L03, hcx0, rfl, by simp, by simp, rfl⟩, ?_⟩
  rintro q1 l1 c1 w4 ⟨acc, g4, s4, xs, A4, nA, I4, st4, hcx, hcl, hbd, ea, es⟩
  obtain ⟨a, hd, ha, hhx, Qe, c0⟩ := I4.crow_at hcx
  have O := I4.obj
  rw [ha] at O
  have hql : xs.length = hd.2.1 := Qe.len
  refine onPtr_mk ⟨_, _, _, (O.cell0 2).trans rfl, onPtr_mk ⟨by omega, by omega, ?_⟩⟩
  rw [et]
  refine ⟨_, _, _, c0, bc (fun hpos => ?_) (fun hz => ?_)⟩
  · have hpos : 0 < hd.2.1 := by have := of_decide_eq_true hpos; omega
    cases xs with
    | nil => simp at hql; omega
    | cons x xs =>
      obtain ⟨hC, hcs, hl1⟩ := let89' I4 hN hQ hcx
      refine Calls.use hC ?_
      rintro _ w5 ⟨q5, l5, c5, rfl, hr5, h25, g5, I5, st5, hn5⟩
      obtain ⟨A5, nA5⟩ := st5.se A4 nA
      have hl5 : l5 ≤ 1 := by rw [← hr5.len]; exact hl1
      have hal : acc.length = l1 := A4.len
      simp only [List.length_cons] at hbd
      have hbase : w.heap.size ≤ w5.heap.size := (st4.trans st5).chg.size
      obtain ⟨q6, c6, w6, hrun, A6, kA, hq6, _, _, _⟩ := A5.append (t := 35) (ty := 35) (c2 := c5) elemInt hr5.re (by simp only [maxLen]; omega) (by show (l1 + l5) * 8 ≤ _; omega) hbase
      have I6 := I5.chg kA fun b hb => nA5 b hb.symm
      have hcx6 : (letS s4 i).2.cs[i]? = some xs := by rw [hcs]; exact set_get (get_lt hcx)
      refine ⟨_, _, _, rfl, _, _, _, w6, hrun, ⟨acc ++ (letS s4 i).1, g5, (letS s4 i).2, xs, A6, fun b hb ho => ?_, I6, ⟨(st4.trans st5).chg.trans' kA fun b hb => .inr (A5.lt hb.symm).2, (st4.trans st5).grow⟩, hcx6, by rw [hcs, List.length_set]; exact hcl, by rw [List.length_append]; omega, ?_, ?_⟩, ?_⟩
      · rcases hq6 with e | e
        · exact nA5 b (e ▸ hb) ho
        · rw [e] at hb; cases hb
          exact Nat.lt_irrefl _ (I5.own_lt ho).1
      · rw [← ea, List.append_assoc]; rfl
      · rw [← es]; rfl
      · show lenAt w6 o i < lenAt w4 o i
        rw [lenAt_is I6 hcx6, lenAt_is I4 hcx]
        simp
  · have hz : xs = [] := List.eq_nil_of_length_eq_zero (by have := of_decide_eq_false hz; omega)
    subst hz
    refine ⟨_, _, _, rfl, ?_⟩
    rw [← ea, ← es]
    show Woke w w4 base N Q o g q1 l1 (acc ++ []) s4
    rw [List.append_nil]
    exact ⟨Mn.of A4, fun b hb => ⟨(A4.lt hb).2, (A4.lt hb).1⟩, g4, I4, st4, nA⟩
end
end Full
end Go.Proofs.Ytibpbbjlecohiaa
set_option maxRecDepth 20000
namespace Go.Proofs.Ytibpbbjlecohiaa
namespace Full
open Go Go.Vc Go.RowKit
def new8 (a b c d : Nat) : S8 := ⟨free a, List.replicate b ⟨[], -1, []⟩, List.replicate c [], List.replicate d 0, fun _ => none⟩
theorem new17 (w : World) (a b c d : Int) : Calls Try.prog 17 #[.agg #[.int .i64 a, .int .i64 b, .int .i64 c, .int .i64 d]] w (Ret fun v w' =>
    (¬ (okN a ∧ okN b ∧ okN c ∧ okN d) ∧ v = .tuple #[.pointer none, .int .i64 1] ∧ Chg none_ w w') ∨ ((okN a ∧ okN b ∧ okN c ∧ okN d) ∧ ∃ o g, v = .tuple #[.pointer (some (ad o)), .int .i64 0] ∧ InvG w' w.heap.size 0 0 o g (new8 a.toNat b.toNat c.toNat d.toNat) ∧ Chg none_ w w')) := by
  refine f17.calls _ _ _ _ ?_
  unfold f17.wp
  refine newBox fun w1 B1 k1 _ => ⟨_, (B1.cell 0).trans rfl, _, (B1.cell0 1).trans rfl, _, (B1.cell0 2).trans rfl, _, (B1.cell0 3).trans rfl, newBox fun w2 B2 k2 _ => ?_⟩
  have k02 := k1.trans k2
  have A2 := k2.blk B1 (fun x => x)
  have at4 : ∀ i : Nat, i < 4 → ∃ v, [a, b, c, d][i]? = some v ∧ w2.cell? ((⟨w1.heap.size, 0, none⟩ : Addr).add (i * 1)) = some (.int .i64 v) := fun i hi => by
    obtain ⟨v, hv⟩ := get_ex (l := [a, b, c, d]) (i := i) hi
    refine ⟨v, hv, ?_⟩
    rw [Nat.mul_one, B2.cell0]
    rcases i with _ | _ | _ | _ | i
    · cases hv; rfl
    · cases hv; rfl
    · cases hv; rfl
    · cases hv; rfl
    · omega
  refine ⟨fun x w' => ∃ i : Nat, x = i ∧ i ≤ 4 ∧ w2 = w' ∧ ∀ (j : Nat) v, j < i → [a, b, c, d][j]? = some v → okN v, fun x _ => 4 - x.toNat, ⟨0, rfl, by decide, rfl, fun j v hj => by omega⟩, ?_⟩
  rintro x _ ⟨i, rfl, hi, rfl, hin⟩
  refine bc (fun hlt => ?_) (fun hge => ?_)
  · have hi' : i < 4 := by have := of_decide_eq_true hlt; omega
    obtain ⟨v, hv, hc⟩ := at4 i hi'
    have bad : ¬ okN v → ¬ (okN a ∧ okN b ∧ okN c ∧ okN d) := fun hb h => hb (by
      have : v ∈ [a, b, c, d] := List.mem_of_getElem? hv
      simp at this
      rcases this with rfl | rfl | rfl | rfl
      · exact h.1
      · exact h.2.1
      · exact h.2.2.1
      · exact h.2.2.2)
    rw [wrapS (x := (i : Int) + 1) (by omega) (by omega)]
    refine ⟨by omega, by omega, v, hc, bc (fun h => .inl ⟨bad fun ho => ?_, rfl, k02⟩) (fun h0 => bc (fun h => .inl ⟨bad fun ho => ?_, rfl, k02⟩) (fun h1 => ⟨⟨i + 1, by omega, hi', rfl, fun j u hj hu => ?_⟩, ?_⟩))⟩
    · have := of_decide_eq_true h; have := ho.1; omega
    · have := of_decide_eq_true h; have := ho.2; omega
    · rcases Nat.lt_or_ge j i with h2 | h2
      · exact hin j u h2 hu
      · have : j = i := by omega
        subst this
        rw [hv] at hu; cases hu
        have := of_decide_eq_false h0; have := of_decide_eq_false h1
        exact ⟨by omega, by omega⟩
    · show 4 - ((i : Int) + 1).toNat < 4 - (i : Int).toNat
      omega
  have hi4 : i = 4 := by have := of_decide_eq_false hge; omega
  subst hi4
  have ha : okN a := hin 0 a (by decide) rfl
  have hb : okN b := hin 1 b (by decide) rfl
  have hc : okN c := hin 2 c (by decide) rfl
  have hd : okN d := hin 3 d (by decide) rfl
  have hall : okN a ∧ okN b ∧ okN c ∧ okN d := ⟨ha, hb, hc, hd⟩
  obtain ⟨ha0, ha1⟩ := ha
  obtain ⟨hb0, hb1⟩ := hb
  obtain ⟨hc0, hc1⟩ := hc
  obtain ⟨hd0, hd1⟩ := hd
  have D2 := A2.drew
  have k02' := k02.drew
  generalize w2.drew = W at *
  refine ⟨J W a b c d, ?_, fun p => p.block < W.heap.size, _, D2.lt, (D2.cell 0).trans rfl, _, D2.lt, (D2.cell0 1).trans rfl, _, D2.lt, (D2.cell0 2).trans rfl, _, D2.lt, (D2.cell0 3).trans rfl, ?_⟩
  · rintro p w4 ⟨b1, b2, b3, b4, m, o, rfl, O, M1, M2, M3, M4, M, p1, p2, p3, p4, pm, po, kJ⟩
    obtain ⟨n1, rfl⟩ : ∃ n : Nat, a = n := ⟨a.toNat, by omega⟩
    obtain ⟨n2, rfl⟩ : ∃ n : Nat, b = n := ⟨b.toNat, by omega⟩
    obtain ⟨n3, rfl⟩ : ∃ n : Nat, c = n := ⟨c.toNat, by omega⟩
    obtain ⟨n4, rfl⟩ : ∃ n : Nat, d = n := ⟨d.toNat, by omega⟩
    simp only [Int.toNat_natCast] at O M1 M2 M3 M4 ⊢
    have S1 : SE En.mxh w4 W.heap.size 97 (some (ad b1)) n1 n1 (List.replicate n1 (⟨0, (none, 0, 0)⟩ : MxH)) := SE.made (n := n1) (x := (⟨0, (none, 0, 0)⟩ : MxH)) M1 rfl p1 (by simp only [maxLen]; omega)
    have ob1 := blk_ne O M1 (by decide)
    have ob2 := blk_ne O M2 (by decide)
    have b12 := blk_ne M1 M2 (by decide)
    have b13 := blk_ne M1 M3 (by decide)
    have b14 := blk_ne M1 M4 (by decide)
    have b23 := blk_ne M2 M3 (by decide)
    have b24 := blk_ne M2 M4 (by decide)
    refine onPtr_mk ⟨_, _, _, (O.cell 0).trans rfl, fun x w' => ∃ (i : Nat) (hs : List MxH), x = i ∧ i ≤ n1 ∧ SE En.mxh w' W.heap.size 97 (some (ad b1)) n1 n1 hs ∧ (∀ (j : Nat) h, hs[j]? = some h → h.hd = (none, 0, 0) ∧ (j < i → h.owner = -1)) ∧ Chg (fun k => k = b1) w4 w', fun x _ => n1 - x.toNat, ⟨0, _, rfl, Nat.zero_le _, S1, fun j h hj => ⟨by have := List.mem_of_getElem? hj; rw [List.eq_of_mem_replicate this], fun h => by omega⟩, Chg.refl _ _⟩, ?_⟩
    rintro x w5 ⟨i, hs, rfl, hi, S5, hh, k5⟩
    have O5 := k5.blk O ob1
    refine bc (fun hlt => ?_) (fun hge => ?_)
    · have hi' : i < n1 := by have := of_decide_eq_true hlt; omega
      rw [wrapS (x := (i : Int) + 1) (by omega) (by omega)]
      obtain ⟨h0, hx⟩ := get_ex (l := hs) (i := i) (by rw [S5.len]; exact hi')
      obtain ⟨a', ha', hcan⟩ := S5.can hi'
      cases ha'
      have hc0 := hcan 0 1 (by decide)
      rw [add_zero'] at hc0
      refine onPtr_mk ⟨_, _, _, (O5.cell 0).trans rfl, onPtr_mk ⟨by omega, by omega, hc0, fun w6 e6 => ?_⟩⟩
      obtain ⟨S6, k6⟩ := S5.setAt (w' := w6) (o := 0) (x' := ⟨-1, h0.hd⟩) rfl hx (by decide) (mxh_own h0 (-1)) (by rw [add_zero']; exact e6)
      refine ⟨⟨i + 1, _, rfl, hi', S6, fun j h hj => ?_, k5.trans (k6.mono fun k _ hk => by simpa [qB] using hk)⟩, meas hi'⟩
      rcases set_cases hj with ⟨rfl, rfl⟩ | ⟨hne, hj⟩
      · exact ⟨(hh i h0 hx).1, fun _ => rfl⟩
      · exact ⟨(hh j h hj).1, fun hlt => (hh j h hj).2 (by omega)⟩
    · have hi1 : i = n1 := by have := of_decide_eq_false hge; omega
      subst hi1
      have S2 : SE En.lkh w5 W.heap.size 99 (some (ad b2)) n2 n2 (List.replicate n2 (⟨(none, 0, 0), 0, (none, 0, 0)⟩ : LkH)) := SE.made (n := n2) (x := (⟨(none, 0, 0), 0, (none, 0, 0)⟩ : LkH)) (k5.blk M2 (fun e => b12 e.symm)) rfl p2 (by simp only [maxLen]; omega)
      refine onPtr_mk ⟨_, _, _, (O5.cell0 1).trans rfl, fun x w' => ∃ (j : Nat) (ls : List LkH), x = j ∧ j ≤ n2 ∧ SE En.lkh w' W.heap.size 99 (some (ad b2)) n2 n2 ls ∧ (∀ (k : Nat) h, ls[k]? = some h → h.readers = (none, 0, 0) ∧ h.hd = (none, 0, 0) ∧ (k < j → h.writer = -1)) ∧ Chg (fun k => k = b2) w5 w', fun x _ => n2 - x.toNat, ⟨0, _, rfl, Nat.zero_le _, S2, fun k h hk => (by have := List.mem_of_getElem? hk; rw [List.eq_of_mem_replicate this]; exact ⟨rfl, rfl, fun h => by omega⟩), Chg.refl _ _⟩, ?_⟩
      rintro x w7 ⟨j, ls, rfl, hj, S7, hls, k7⟩
      have O7 := k7.blk O5 ob2
      refine bc (fun hlt => ?_) (fun hge => ?_)
      · have hj' : j < n2 := by have := of_decide_eq_true hlt; omega
        rw [wrapS (x := (j : Int) + 1) (by omega) (by omega)]
        obtain ⟨h0, hx⟩ := get_ex (l := ls) (i := j) (by rw [S7.len]; exact hj')
        obtain ⟨a', ha', hcan⟩ := S7.can hj'
        cases ha'
        refine onPtr_mk ⟨_, _, _, (O7.cell0 1).trans rfl, onPtr_mk ⟨by omega, by omega, hcan 1 1 (by decide), fun w8 e8 => ?_⟩⟩
        obtain ⟨S8, k8⟩ := S7.setAt (o := 1) (x' := ⟨h0.readers, -1, h0.hd⟩) rfl hx (by decide) (lkh_wr h0 (-1)) e8
        refine ⟨⟨j + 1, _, rfl, hj', S8, fun k h hk => ?_, k7.trans (k8.mono fun k _ hk => by simpa [qB] using hk)⟩, meas hj'⟩
        rcases set_cases hk with ⟨rfl, rfl⟩ | ⟨hne, hk⟩
        · exact ⟨(hls j h0 hx).1, (hls j h0 hx).2.1, fun _ => rfl⟩
        · exact ⟨(hls k h hk).1, (hls k h hk).2.1, fun hlt => (hls k h hk).2.2 (by omega)⟩
      · have kW5 : Chg none_ W w5 := kJ.up k5 fun k hk => by omega
        have kW7 : Chg none_ W w7 := kW5.up k7 fun k hk => by omega
        have hhs : hs = List.replicate i (⟨-1, (none, 0, 0)⟩ : MxH) := by
          refine List.eq_replicate_iff.2 ⟨S5.len, fun x hx => ?_⟩
          obtain ⟨j, hj⟩ := List.getElem?_of_mem hx
          have h1 := hh j x hj
          have h2 := h1.2 (by have := get_lt hj; rw [S5.len] at this; exact this)
          cases x
          simp only at h1 h2
          rw [h1.1, h2]
        subst hhs
        have hj2 : j = n2 := by have := of_decide_eq_false hge; omega
        subst hj2
        have hll : ls = List.replicate j (⟨(none, 0, 0), -1, (none, 0, 0)⟩ : LkH) := by
          refine List.eq_replicate_iff.2 ⟨S7.len, fun x hx => ?_⟩
          obtain ⟨k, hk⟩ := List.getElem?_of_mem hx
          obtain ⟨h1, h2, h3⟩ := hls k x hk
          have h3 := h3 (by have := get_lt hk; rw [S7.len] at this; exact this)
          cases x
          simp only at h1 h2 h3
          rw [h1, h2, h3]
        subst hll
        have s3 : SE En.hd w7 W.heap.size 95 (some (ad b3)) n3 n3 (List.replicate n3 ((none, 0, 0) : Hd)) := SE.made (n := n3) (x := ((none, 0, 0) : Hd)) (k7.blk (k5.blk M3 (fun e => b13 e.symm)) (fun e => b23 e.symm)) rfl p3 (by simp only [maxLen]; omega)
        have s4 : SE En.int w7 W.heap.size 2 (some (ad b4)) n4 n4 (List.replicate n4 (0 : Int)) := SE.made (n := n4) (x := (0 : Int)) (k7.blk (k5.blk M4 (fun e => b14 e.symm)) (fun e => b24 e.symm)) rfl p4 (by simp only [maxLen]; omega)
        have sm := S5.chg k7 fun g hg e => by simp [qB] at hg; omega
        have mp := (M.chg k5 (Mp.ne M M1)).chg k7 (Mp.ne (M.chg k5 (Mp.ne M M1)) (k5.blk M2 (fun e => b12 e.symm)))
        have hWb := k02'.size
        have nilr : ∀ {α : Type} (E : En α) (e : TypeId) (hs : List Hd) (xss : List (List α)), hs.length = xss.length → (∀ h ∈ hs, h = (none, 0, 0)) → (∀ x ∈ xss, x = []) → RowsE E w7 w.heap.size e hs xss := fun E e hs xss hl hh hx => ⟨hl, fun j h xs hj hxj => by
          rw [hh h (List.mem_of_getElem? hj), hx xs (List.mem_of_getElem? hxj)]
          exact SE.nil _ _ _ _, fun j j' h h' g hj _ hg _ => by
          rw [hh h (List.mem_of_getElem? hj)] at hg
          simp [qB] at hg⟩
        have tot0 : ∀ {α : Type} (xss : List (List α)), (∀ x ∈ xss, x = []) → tot xss = 0 := fun xss => by
          induction xss with
          | nil => intro _; rfl
          | cons x xs ih =>
            intro h
            have h1 := h x (.head _)
            have h2 := ih fun y hy => h y (.tail _ hy)
            subst h1
            simp [tot] at h2 ⊢; exact h2
        have hq0 : ∀ x ∈ (new8 i j n3 n4).qs, x = [] := fun x hx => by
          have hx : x ∈ (free i).map Mx.queue ++ ((List.replicate j (⟨[], -1, []⟩ : Lk)).map Lk.queue ++ List.replicate n3 []) := hx
          rcases List.mem_append.1 hx with h | h
          · obtain ⟨y, hy, rfl⟩ := List.mem_map.1 h
            rw [free] at hy
            rw [List.eq_of_mem_replicate hy]
          · rcases List.mem_append.1 h with h | h
            · obtain ⟨y, hy, rfl⟩ := List.mem_map.1 h
              rw [List.eq_of_mem_replicate hy]
            · exact List.eq_of_mem_replicate h
        refine .inr ⟨hall, o, ⟨some (ad b1), i, some (ad b2), j, some (ad b3), n3, some (ad b4), n4, m, 0, List.replicate i (⟨-1, (none, 0, 0)⟩ : MxH), List.replicate j (⟨(none, 0, 0), -1, (none, 0, 0)⟩ : LkH), List.replicate n3 ((none, 0, 0) : Hd)⟩, rfl, ?_, k02'.trans kW7⟩
        exact { obj := by simp only [new8, free, List.length_replicate]; exact O7
                mx := by simp only [new8, free, List.length_replicate]; exact sm.lower hWb
                lk := by simp only [new8, List.length_replicate]; exact S7.lower hWb
                cd := by simp only [new8, List.length_replicate]; exact s3.lower hWb
                ct := by simp only [new8, List.length_replicate]; exact s4.lower hWb
                rds := nilr _ _ _ _ (by simp [new8]) (fun h hh => by simp at hh; exact hh.2) (fun x hx => by simp [new8] at hx; exact hx.2)
                wts := mp
                bo := Nat.le_trans hWb po
                own := by simp [new8, free]
                wri := by simp [new8]
                que := nilr _ _ _ _ (by simp [new8, S8.qs, G8.qs, free]) (fun h hh => by
                  have hh : h ∈ (List.replicate i (⟨-1, (none, 0, 0)⟩ : MxH)).map MxH.hd ++ ((List.replicate j (⟨(none, 0, 0), -1, (none, 0, 0)⟩ : LkH)).map LkH.hd ++ List.replicate n3 ((none, 0, 0) : Hd)) := hh
                  rcases List.mem_append.1 hh with h' | h'
                  · obtain ⟨y, hy, rfl⟩ := List.mem_map.1 h'
                    rw [List.eq_of_mem_replicate hy]
                  · rcases List.mem_append.1 h' with h' | h'
                    · obtain ⟨y, hy, rfl⟩ := List.mem_map.1 h'
                      rw [List.eq_of_mem_replicate hy]
                    · exact List.eq_of_mem_replicate h') hq0
                bm := Nat.le_trans hWb pm
                hn := by
                  have : tot (new8 i j n3 n4).cs = 0 := tot0 _ fun x hx => by simp [new8] at hx; exact hx.2
                  simp only [this]; exact Nat.le_refl _
                hq := by
                  have h1 := tot0 _ hq0
                  have h2 : tot ((new8 i j n3 n4).ls.map Lk.readers) = 0 := tot0 _ fun x hx => by simp [new8] at hx; exact hx.2
                  omega
                ht := fun x hx y hy => by rw [hq0 x hx] at hy; cases hy
                hc := fun x hx y hy => by
                  have : x = [] := by simp [new8] at hx; exact hx.2
                  rw [this] at hy; cases hy }
  · have S0 : St W W [] none := ⟨Chg.refl _ _, fun b t cs hm => (by cases hm), fun m hm => (by cases hm)⟩
    repeat' (first
      | (refine mkStep (by assumption) (by omega) (by omega) (by omega) fun w' h' => ?_)
      | (refine mapStep (by assumption) fun w' h' => ?_)
      | (refine leaf (by assumption) (by repeat' (first | exact .head _ | apply List.Mem.tail)) (by repeat' (first | exact .head _ | apply List.Mem.tail)) (by repeat' (first | exact .head _ | apply List.Mem.tail)) (by repeat' (first | exact .head _ | apply List.Mem.tail)))
      | (refine ⟨?_, ?_⟩))
end Full
end Go.Proofs.Ytibpbbjlecohiaa
set_option maxRecDepth 20000
namespace Go.Proofs.Ytibpbbjlecohiaa
namespace Full
open Go Go.Vc Go.RowKit
structure Told where
  got : Bool
  woken : List Int
  n : Int
  err : Int
/-- a call of a task, by its kind -/
def doesF (s : S8) (task kind n m : Int) : Told × S8 :=
  if kind = 1 then (⟨(lockF s task n).1, [], 0, (lockF s task n).2.1⟩, (lockF s task n).2.2)
  else if kind = 2 then (⟨false, (unlockF s task n).1, 0, (unlockF s task n).2.1⟩, (unlockF s task n).2.2)
  else if kind = 3 then (⟨(takeF s task n 3).1, [], 0, (takeF s task n 3).2.1⟩, (takeF s task n 3).2.2)
  else if kind = 4 then (⟨false, (runF s task n).1, 0, (runF s task n).2.1⟩, (runF s task n).2.2)
  else if kind = 5 then (⟨(takeF s task n 5).1, [], 0, (takeF s task n 5).2.1⟩, (takeF s task n 5).2.2)
  else if kind = 6 then (⟨false, (wunF s task n).1, 0, (wunF s task n).2.1⟩, (wunF s task n).2.2)
  else if kind = 7 then (⟨false, (waitF s task n m).1, 0, (waitF s task n m).2.1⟩, (waitF s task n m).2.2)
  else if kind = 8 then (⟨false, (sigF s task n).1, 0, (sigF s task n).2.1⟩, (sigF s task n).2.2)
  else if kind = 9 then (⟨false, (broF s task n).1, 0, (broF s task n).2.1⟩, (broF s task n).2.2)
  else if kind = 10 then (⟨false, [], (addF s task n m).1, (addF s task n m).2.1⟩, (addF s task n m).2.2)
  else (⟨false, [], 0, 0⟩, s)
section
variable {w w' : World} {base N Q o : Nat} {g : G8} {s : S8}
theorem Woke.put {w w3 w4 w7 : World} {q : Option Addr} {l : Nat} {r : List Int} {s' : S8} (hW : Woke w3 w4 base N Q o g q l r s') {S : Nat → Prop} (k : Chg S w4 w7) (hS : ∀ b, S b → b < w3.heap.size ∧ ¬ Own g o b) (L : Stp o w g w3 g) (hlow : ∀ b, S b → w.heap.size ≤ b) : Woke w w7 base N Q o g q l r s' := by
  obtain ⟨h1, h2, g', I, st, hn⟩ := hW
  refine ⟨h1.chgS k fun a ha hs => ?_, fun b hb => ⟨Nat.le_trans L.chg.size (h2 b hb).1, Nat.lt_of_lt_of_le (h2 b hb).2 k.size⟩, g', I.chg k fun b hb => st.nown (hS b hb).1 (hS b hb).2, ⟨(L.trans st).chg.trans' k fun b hb => .inr (hlow b hb), (L.trans st).grow⟩, hn⟩
  have := (h2 a.block (by rw [ha]; rfl)).1
  have := (hS _ hs).1
  omega
theorem Woke.upN {N' : Nat} {q : Option Addr} {l : Nat} {r : List Int} {s' : S8} (h : Woke w w' base N Q o g q l r s') (hN : N ≤ N') : Woke w w' base N' Q o g q l r s' := by
  obtain ⟨h1, h2, g', I, st', hn⟩ := h
  exact ⟨h1, h2, g', I.up hN (Nat.le_refl _), st', hn⟩
/-- the end of each way: told's block written, copied, read -/
theorem told_end {w w3 w4 : World} {a b j : Nat} {q : Option Addr} {l c : Nat} {s' : S8} {t : Told} {v : Value} {C : Value → World → Prop} (hW : Woke w3 w4 base N Q o g q l t.woken s') (L : Stp o w g w3 g) (T3 : Blk w3 a 42 #[.bool false, .slice none 0 0, .int .i64 0, .int .i64 0]) (D3 : Blk w3 b 42 #[.bool false, .slice none 0 0, .int .i64 0, .int .i64 0]) (hab : a ≠ b) (na : ¬ Own g o a) (nb : ¬ Own g o b) (la : w.heap.size ≤ a) (lb : w.heap.size ≤ b)
    (T4 : Blk w4 a 42 #[.bool false, .slice none 0 0, .int .i64 0, .int .i64 0]) (D4 : Blk w4 b 42 #[.bool false, .slice none 0 0, .int .i64 0, .int .i64 0]) (hj : j < 3)
    (hres : putC (putC #[.bool false, .slice none 0 0, .int .i64 0, .int .i64 0] j [v]) 3 [.int .i64 t.err] = #[.bool t.got, .slice q l c, .int .i64 t.n, .int .i64 t.err])
    (hC : ∀ w7, Woke w w7 base N Q o g q l t.woken s' → C (.agg #[.bool t.got, .slice q l c, .int .i64 t.n, .int .i64 t.err]) w7) :
    canStore w4 ⟨a, j, none⟩ 1 ∧ ∀ w5 : World, w5 = setCells (⟨a, j, none⟩ : Addr) 0 [v] w4 → canStore w5 ((⟨a, 0, none⟩ : Addr).add 3) 1 ∧ ∀ w6 : World, w6 = setCells ((⟨a, 0, none⟩ : Addr).add 3) 0 [.int .i64 t.err] w5 →
      ∃ b2 : Bool, ∃ (q1 : Option Addr) (l1 c1 : Nat), ∃ n5 : Int, ∃ n6 : Int, reads w6 (⟨a, 0, none⟩ : Addr) [.bool b2, .slice q1 l1 c1, .int .i64 n5, .int .i64 n6] ∧ canStore w6 (⟨b, 0, none⟩ : Addr) 4 ∧
      ∀ w7 : World, w7 = setCells (⟨b, 0, none⟩ : Addr) 0 [.bool b2, .slice q1 l1 c1, .int .i64 n5, .int .i64 n6] w6 →
      ∃ b3 : Bool, ∃ (q2 : Option Addr) (l2 c2 : Nat), ∃ n7 : Int, ∃ n8 : Int, reads w7 (⟨b, 0, none⟩ : Addr) [.bool b3, .slice q2 l2 c2, .int .i64 n7, .int .i64 n8] ∧ C (.agg #[.bool b3, .slice q2 l2 c2, .int .i64 n7, .int .i64 n8]) w7 := by
  refine ⟨T4.canStore (by show j + 1 ≤ 4; omega), fun w5 e5 => ?_⟩
  have T5 := T4.sets' e5
  have k5 : Chg (fun k => k = a ∨ k = b) w4 w5 := (Chg.refl _ w4).sets' e5 (.inl (.inl rfl))
  have D5 := D4.far' e5 (fun e => hab e.symm)
  have hsz : (putC #[Value.bool false, .slice none 0 0, .int .i64 0, .int .i64 0] (j + 0) [v]).size = 4 := by
    rcases j with _ | _ | _ | j <;> first | rfl | omega
  refine ⟨T5.canStore0 (by rw [hsz]; decide), fun w6 e6 => ?_⟩
  rw [add_mk, Nat.zero_add] at e6
  have T6 := T5.sets' e6
  have k6 : Chg (fun k => k = a ∨ k = b) w5 w6 := (Chg.refl _ w5).sets' e6 (.inl (.inl rfl))
  have D6 := D5.far' e6 (fun e => hab e.symm)
  rw [show putC (putC #[Value.bool false, .slice none 0 0, .int .i64 0, .int .i64 0] (j + 0) [v]) (3 + 0) [.int .i64 t.err] = #[.bool t.got, .slice q l c, .int .i64 t.n, .int .i64 t.err] from hres] at T6
  refine ⟨_, _, _, _, _, _, T6.reads0, D6.canStore (by show 0 + 4 ≤ 4; decide), fun w7 e7 => ?_⟩
  have D7 := D6.over e7 rfl
  have k7 : Chg (fun k => k = a ∨ k = b) w6 w7 := (Chg.refl _ w6).sets' e7 (.inl (.inr rfl))
  exact ⟨_, _, _, _, _, _, D7.reads0, hC w7 (hW.put (k5.trans (k6.trans k7)) (fun x hx => by
    rcases hx with rfl | rfl
    · exact ⟨T3.lt, na⟩
    · exact ⟨D3.lt, nb⟩) L (fun x hx => by
    rcases hx with rfl | rfl
    · exact la
    · exact lb))⟩
def DoneR (w : World) (base N Q o : Nat) (g : G8) (t : Told) (s' : S8) (v : Value) (w' : World) : Prop := ∃ q l c, v = .agg #[.bool t.got, .slice q l c, .int .i64 t.n, .int .i64 t.err] ∧ Woke w w' base N Q o g q l t.woken s'
theorem does20 (h : InvG w base N Q o g s) (hN : N ≤ 3000000000000000000) (hQ : Q ≤ 4398046511104) (task kind n m : Int) :
    Calls Try.prog 20 #[.pointer (some (ad o)), .agg #[.int .i64 task, .int .i64 kind, .int .i64 n, .int .i64 m]] w (Ret (DoneR w base (N + 2) (Q + 1) o g (doesF s task kind n m).1 (doesF s task kind n m).2)) := by
  refine f20.calls _ _ _ _ _ ?_
  unfold f20.wp
  refine newBox fun w1 B1 k1 s1 => newBox fun w2 D2 k2 s2 => newBox fun w3 T3 k3 s3 => ?_
  have k13 := k2.trans k3
  have k03 := k1.trans k13
  have h3 := h.chgN k03
  have B3 := k13.blk B1 (fun x => x)
  have D3 := k3.blk D2 (fun x => x)
  have L : Stp o w g w3 g := Stp.ofN k03
  have n1 : ¬ Own g o w1.heap.size := fun ho => by have := (h.own_lt ho).1; omega
  have n2 : ¬ Own g o w2.heap.size := fun ho => by have := (h.own_lt ho).1; omega
  have hab : w2.heap.size ≠ w1.heap.size := by omega
  refine ⟨_, (B3.cell0 1).trans rfl, ?_⟩
  refine bc (fun hk => ?_) (fun hk1 => ?_)
  · have hk : kind = 1 := by simpa using hk
    subst hk
    refine ⟨_, (B3.cell 0).trans rfl, _, (B3.cell0 2).trans rfl, Calls.use (lock18 h3 (by omega) hQ task n) ?_⟩
    rintro _ w4 ⟨rfl, g4, I4, st4⟩
    refine ⟨_, _, rfl, told_end (j := 0) (q := none) (l := 0) (c := 0) (t := ⟨(lockF s task n).1, [], 0, (lockF s task n).2.1⟩) (s' := (lockF s task n).2.2) (Woke.nil (I4.up (by omega) (Nat.le_refl _)) st4) L T3 D3 hab n2 n1 (by omega) (by omega) (st4.blk T3 n2) (st4.blk D3 n1) (by decide) rfl fun w7 hW => ⟨none, 0, 0, rfl, hW⟩⟩
  refine bc (fun hk => ?_) (fun hk2 => ?_)
  · have hk : kind = 2 := by simpa using hk
    subst hk
    refine ⟨_, (B3.cell 0).trans rfl, _, (B3.cell0 2).trans rfl, Calls.use (unlock19 h3 task n) ?_⟩
    rintro _ w4 ⟨q, l, c, rfl, hW⟩
    have hW := (hW.upQ (Nat.le_succ Q)).upN (N' := N + 2) (by omega)
    have st4 := hW
    obtain ⟨_, _, g4, _, st4, _⟩ := st4
    refine ⟨_, _, _, _, rfl, ?_⟩
    have := told_end (j := 1) (v := .slice q l c) (c := c) (t := ⟨false, (unlockF s task n).1, 0, (unlockF s task n).2.1⟩) (C := DoneR w base (N + 2) (Q + 1) o g (⟨false, (unlockF s task n).1, 0, (unlockF s task n).2.1⟩) (unlockF s task n).2.2) hW L T3 D3 hab n2 n1 (by omega) (by omega) (st4.blk T3 n2) (st4.blk D3 n1) (by decide) rfl fun w7 hW => ⟨q, l, c, rfl, hW⟩
    rw [add_mk, Nat.zero_add]
    rw [add_mk, Nat.zero_add] at this
    exact this
  refine bc (fun hk => ?_) (fun hk3 => ?_)
  · have hk : kind = 3 := by simpa using hk
    subst hk
    refine ⟨_, (B3.cell 0).trans rfl, _, (B3.cell0 2).trans rfl, Calls.use (rlock47 h3 (by omega) hQ task n) ?_⟩
    rintro _ w4 ⟨rfl, g4, I4, st4⟩
    refine ⟨_, _, rfl, told_end (j := 0) (q := none) (l := 0) (c := 0) (t := ⟨(takeF s task n 3).1, [], 0, (takeF s task n 3).2.1⟩) (s' := (takeF s task n 3).2.2) (Woke.nil (I4.up (by omega) (Nat.le_refl _)) st4) L T3 D3 hab n2 n1 (by omega) (by omega) (st4.blk T3 n2) (st4.blk D3 n1) (by decide) rfl fun w7 hW => ⟨none, 0, 0, rfl, hW⟩⟩
  refine bc (fun hk => ?_) (fun hk4 => ?_)
  · have hk : kind = 4 := by simpa using hk
    subst hk
    refine ⟨_, (B3.cell 0).trans rfl, _, (B3.cell0 2).trans rfl, Calls.use (runlock48 h3 hQ task n) ?_⟩
    rintro _ w4 ⟨q, l, c, rfl, hW⟩
    have hW := (hW.upQ (Nat.le_succ Q)).upN (N' := N + 2) (by omega)
    have st4 := hW
    obtain ⟨_, _, g4, _, st4, _⟩ := st4
    refine ⟨_, _, _, _, rfl, ?_⟩
    have := told_end (j := 1) (v := .slice q l c) (c := c) (t := ⟨false, (runF s task n).1, 0, (runF s task n).2.1⟩) (C := DoneR w base (N + 2) (Q + 1) o g (⟨false, (runF s task n).1, 0, (runF s task n).2.1⟩) (runF s task n).2.2) hW L T3 D3 hab n2 n1 (by omega) (by omega) (st4.blk T3 n2) (st4.blk D3 n1) (by decide) rfl fun w7 hW => ⟨q, l, c, rfl, hW⟩
    rw [add_mk, Nat.zero_add]
    rw [add_mk, Nat.zero_add] at this
    exact this
  refine bc (fun hk => ?_) (fun hk5 => ?_)
  · have hk : kind = 5 := by simpa using hk
    subst hk
    refine ⟨_, (B3.cell 0).trans rfl, _, (B3.cell0 2).trans rfl, Calls.use (wlock49 h3 (by omega) hQ task n) ?_⟩
    rintro _ w4 ⟨rfl, g4, I4, st4⟩
    refine ⟨_, _, rfl, told_end (j := 0) (q := none) (l := 0) (c := 0) (t := ⟨(takeF s task n 5).1, [], 0, (takeF s task n 5).2.1⟩) (s' := (takeF s task n 5).2.2) (Woke.nil (I4.up (by omega) (Nat.le_refl _)) st4) L T3 D3 hab n2 n1 (by omega) (by omega) (st4.blk T3 n2) (st4.blk D3 n1) (by decide) rfl fun w7 hW => ⟨none, 0, 0, rfl, hW⟩⟩
  refine bc (fun hk => ?_) (fun hk6 => ?_)
  · have hk : kind = 6 := by simpa using hk
    subst hk
    refine ⟨_, (B3.cell 0).trans rfl, _, (B3.cell0 2).trans rfl, Calls.use (wunlock50 h3 hQ task n) ?_⟩
    rintro _ w4 ⟨q, l, c, rfl, hW⟩
    have hW := (hW.upQ (Nat.le_succ Q)).upN (N' := N + 2) (by omega)
    have st4 := hW
    obtain ⟨_, _, g4, _, st4, _⟩ := st4
    refine ⟨_, _, _, _, rfl, ?_⟩
    have := told_end (j := 1) (v := .slice q l c) (c := c) (t := ⟨false, (wunF s task n).1, 0, (wunF s task n).2.1⟩) (C := DoneR w base (N + 2) (Q + 1) o g (⟨false, (wunF s task n).1, 0, (wunF s task n).2.1⟩) (wunF s task n).2.2) hW L T3 D3 hab n2 n1 (by omega) (by omega) (st4.blk T3 n2) (st4.blk D3 n1) (by decide) rfl fun w7 hW => ⟨q, l, c, rfl, hW⟩
    rw [add_mk, Nat.zero_add]
    rw [add_mk, Nat.zero_add] at this
    exact this
  refine bc (fun hk => ?_) (fun hk7 => ?_)
  · have hk : kind = 7 := by simpa using hk
    subst hk
    refine ⟨_, (B3.cell 0).trans rfl, _, (B3.cell0 2).trans rfl, _, (B3.cell0 3).trans rfl, Calls.use (wait51 h3 hN hQ task n m) ?_⟩
    rintro _ w4 ⟨q, l, c, rfl, hW⟩
    have hW := hW
    have st4 := hW
    obtain ⟨_, _, g4, _, st4, _⟩ := st4
    refine ⟨_, _, _, _, rfl, ?_⟩
    have := told_end (j := 1) (v := .slice q l c) (c := c) (t := ⟨false, (waitF s task n m).1, 0, (waitF s task n m).2.1⟩) (C := DoneR w base (N + 2) (Q + 1) o g (⟨false, (waitF s task n m).1, 0, (waitF s task n m).2.1⟩) (waitF s task n m).2.2) hW L T3 D3 hab n2 n1 (by omega) (by omega) (st4.blk T3 n2) (st4.blk D3 n1) (by decide) rfl fun w7 hW => ⟨q, l, c, rfl, hW⟩
    rw [add_mk, Nat.zero_add]
    rw [add_mk, Nat.zero_add] at this
    exact this
  refine bc (fun hk => ?_) (fun hk8 => ?_)
  · have hk : kind = 8 := by simpa using hk
    subst hk
    refine ⟨_, (B3.cell 0).trans rfl, _, (B3.cell0 2).trans rfl, Calls.use (signal52 h3 (by omega) hQ task n) ?_⟩
    rintro _ w4 ⟨q, l, c, rfl, hW⟩
    have hW := (hW.upQ (Nat.le_succ Q)).upN (N' := N + 2) (by omega)
    have st4 := hW
    obtain ⟨_, _, g4, _, st4, _⟩ := st4
    refine ⟨_, _, _, _, rfl, ?_⟩
    have := told_end (j := 1) (v := .slice q l c) (c := c) (t := ⟨false, (sigF s task n).1, 0, (sigF s task n).2.1⟩) (C := DoneR w base (N + 2) (Q + 1) o g (⟨false, (sigF s task n).1, 0, (sigF s task n).2.1⟩) (sigF s task n).2.2) hW L T3 D3 hab n2 n1 (by omega) (by omega) (st4.blk T3 n2) (st4.blk D3 n1) (by decide) rfl fun w7 hW => ⟨q, l, c, rfl, hW⟩
    rw [add_mk, Nat.zero_add]
    rw [add_mk, Nat.zero_add] at this
    exact this
  refine bc (fun hk => ?_) (fun hk9 => ?_)
  · have hk : kind = 9 := by simpa using hk
    subst hk
    refine ⟨_, (B3.cell 0).trans rfl, _, (B3.cell0 2).trans rfl, Calls.use (broadcast53 h3 (by omega) hQ task n) ?_⟩
    rintro _ w4 ⟨q, l, c, rfl, hW⟩
    have hW := (hW.upQ (Nat.le_succ Q)).upN (N' := N + 2) (by omega)
    have st4 := hW
    obtain ⟨_, _, g4, _, st4, _⟩ := st4
    refine ⟨_, _, _, _, rfl, ?_⟩
    have := told_end (j := 1) (v := .slice q l c) (c := c) (t := ⟨false, (broF s task n).1, 0, (broF s task n).2.1⟩) (C := DoneR w base (N + 2) (Q + 1) o g (⟨false, (broF s task n).1, 0, (broF s task n).2.1⟩) (broF s task n).2.2) hW L T3 D3 hab n2 n1 (by omega) (by omega) (st4.blk T3 n2) (st4.blk D3 n1) (by decide) rfl fun w7 hW => ⟨q, l, c, rfl, hW⟩
    rw [add_mk, Nat.zero_add]
    rw [add_mk, Nat.zero_add] at this
    exact this
  refine bc (fun hk => ?_) (fun hk10 => ?_)
  · have hk : kind = 10 := by simpa using hk
    subst hk
    refine ⟨_, (B3.cell 0).trans rfl, _, (B3.cell0 2).trans rfl, _, (B3.cell0 3).trans rfl, Calls.use (add54 h3 task n m) ?_⟩
    rintro _ w4 ⟨rfl, g4, I4, st4⟩
    refine ⟨_, _, rfl, ?_⟩
    have := told_end (j := 2) (v := .int .i64 (addF s task n m).1) (q := none) (l := 0) (c := 0) (t := ⟨false, [], (addF s task n m).1, (addF s task n m).2.1⟩) (s' := (addF s task n m).2.2) (C := DoneR w base (N + 2) (Q + 1) o g (⟨false, [], (addF s task n m).1, (addF s task n m).2.1⟩) (addF s task n m).2.2) (Woke.nil (I4.up (by omega) (Nat.le_succ Q)) st4) L T3 D3 hab n2 n1 (by omega) (by omega) (st4.blk T3 n2) (st4.blk D3 n1) (by decide) rfl fun w7 hW => ⟨none, 0, 0, rfl, hW⟩
    rw [add_mk, Nat.zero_add]
    rw [add_mk, Nat.zero_add] at this
    exact this
  have e : doesF s task kind n m = (⟨false, [], 0, 0⟩, s) := by
    have f : ∀ k : Int, (kind == k) = false → ¬ kind = k := fun k h => ne_of_beq_false h
    unfold doesF
    rw [if_neg (f 1 hk1), if_neg (f 2 hk2), if_neg (f 3 hk3), if_neg (f 4 hk4), if_neg (f 5 hk5), if_neg (f 6 hk6), if_neg (f 7 hk7), if_neg (f 8 hk8), if_neg (f 9 hk9), if_neg (f 10 hk10)]
  rw [e]
  refine ⟨_, _, _, _, _, _, T3.reads0, D3.canStore (by show 0 + 4 ≤ 4; decide), fun w4 e4 => ?_⟩
  have D4 := D3.over e4 rfl
  have k4 : Chg (fun k => k = w1.heap.size) w3 w4 := (Chg.refl _ w3).sets' e4 (.inl rfl)
  refine ⟨_, _, _, _, _, _, D4.reads0, none, 0, 0, rfl, ?_⟩
  exact (Woke.nil (h3.up (by omega) (by omega)) (Stp.refl o w3 g)).put k4 (fun b hb => by
    subst hb
    exact ⟨D3.lt, n1⟩) L (fun b hb => by omega)
end
end Full
end Go.Proofs.Ytibpbbjlecohiaa
