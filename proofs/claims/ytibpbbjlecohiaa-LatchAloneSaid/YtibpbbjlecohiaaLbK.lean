import Derived.Test.YtibpbbjlecohiaaLbJ
set_option maxRecDepth 20000
namespace Go.Proofs.Ytibpbbjlecohiaa
namespace Full
open Go Go.Vc Go.RowKit
section
variable {w w' : World} {base N Q o : Nat} {g : G8} {s : S8}
theorem Woke.nil {w w' : World} {g' : G8} {s' : S8} (I : InvG w' base N Q o g' s') (st : Stp o w g w' g') : Woke w w' base N Q o g none 0 [] s' :=
  ⟨RE.nil _ _ _, fun b hb => by simp [qB] at hb, g', I, st, fun b hb => by simp [qB] at hb⟩
theorem Woke.after {w w1 w' : World} {g1 : G8} {q : Option Addr} {l : Nat} {r : List Int} {s' : S8} (h : Woke w1 w' base N Q o g1 q l r s') (st : Stp o w g w1 g1) : Woke w w' base N Q o g q l r s' := by
  obtain ⟨h1, h2, g', I, st', hn⟩ := h
  exact ⟨h1, fun b hb => ⟨Nat.le_trans st.chg.size (h2 b hb).1, (h2 b hb).2⟩, g', I, st.trans st', hn⟩
theorem Woke.upQ {Q' : Nat} {q : Option Addr} {l : Nat} {r : List Int} {s' : S8} (h : Woke w w' base N Q o g q l r s') (hQ : Q ≤ Q') : Woke w w' base N Q' o g q l r s' := by
  obtain ⟨h1, h2, g', I, st', hn⟩ := h
  exact ⟨h1, h2, g', I.up (Nat.le_refl _) hQ, st', hn⟩
def passS (s : S8) (i : Nat) (lx : Lk) : List Int × S8 := ((passL lx).1, { s with ls := s.ls.set i (passL lx).2, wt := unwait s.wt (passL lx).1 })
/-- RUnlock -/
def runF (s : S8) (task n : Int) : List Int × Int × S8 :=
  if askL task [(n, s.ls.length)] s.wt ≠ 0 then ([], askL task [(n, s.ls.length)] s.wt, s) else
  match s.ls[n.toNat]? with
  | none => ([], 0, s)
  | some m => if idxI m.readers task < 0 then ([], 82, s) else
    let r := passS s n.toNat ⟨m.readers.take (idxI m.readers task).toNat ++ m.readers.drop ((idxI m.readers task).toNat + 1), m.writer, m.queue⟩
    (r.1, 0, r.2)
theorem idxI_lt (xs : List Int) (x : Int) : idxI xs x < xs.length ∧ -1 ≤ idxI xs x := by
  unfold idxI
  cases h : xs.findIdx? (· == x) with
  | none => exact ⟨show (-1 : Int) < xs.length by omega, show (-1 : Int) ≤ -1 by decide⟩
  | some i =>
    have := (List.findIdx?_eq_some_iff_getElem.1 h).1
    exact ⟨show (i : Int) < xs.length by omega, show (-1 : Int) ≤ i by omega⟩
theorem runlock48 (h : InvG w base N Q o g s) (hQ : Q ≤ 4398046511104) (task n : Int) :
    Calls Try.prog 48 #[.pointer (some (ad o)), .int .i64 task, .int .i64 n] w (Ret fun v w' => ∃ q l c, v = .tuple #[.slice q l c, .int .i64 (runF s task n).2.1] ∧ Woke w w' base N Q o g q l (runF s task n).1 (runF s task n).2.2) := by
  refine f48.calls _ _ _ ?_
  unfold f48.wp
  refine Calls.use (sizes43 h) ?_
  rintro _ w1 ⟨rfl, k1⟩
  refine ⟨_, _, _, _, rfl, newBox fun w2 B2 k2 _ => Calls.use (asks44 ((h.chgN k1).chgN k2) task (RE.of_flat (xs := [(n, (s.ls.length : Int))]) rfl B2.reads0) (by decide)) ?_⟩
  rintro _ w3 ⟨rfl, k3⟩
  have k03 := k1.trans (k2.trans k3)
  have h3 := h.chgN k03
  have L03 : Stp o w g w3 g := Stp.ofN k03
  refine ⟨_, rfl, bc (fun he => ?_) (fun he => ?_)⟩
  · have he : askL task [(n, s.ls.length)] s.wt ≠ 0 := by simpa using he
    have e : runF s task n = ([], askL task [(n, s.ls.length)] s.wt, s) := by unfold runF; rw [if_pos he]
    rw [e]
    exact ⟨_, _, _, rfl, Woke.nil h3 L03⟩
  have he : askL task [(n, s.ls.length)] s.wt = 0 := by simpa using he
  obtain ⟨t0, t1, hbad, hw⟩ := askL_ok he
  obtain ⟨n0, n1⟩ := badN_one hbad
  obtain ⟨i, rfl⟩ : ∃ i : Nat, n = i := ⟨n.toNat, by omega⟩
  obtain ⟨lx, hlx⟩ := get_ex (l := s.ls) (i := i) (by omega)
  have hil := get_lt hlx
  obtain ⟨a, hr, hd, ha, hhx, Qe, Re, c0, c1, c2⟩ := h3.lrow_at hlx
  have O := h3.obj
  rw [ha] at O
  have et : ((i : Int)).toNat = i := by omega
  have hrl : lx.readers.length = hr.2.1 := Re.len
  have hrq := h.rlen hlx
  obtain ⟨x1, x2⟩ := idxI_lt lx.readers task
  refine onPtr_mk ⟨_, _, _, (O.cell0 1).trans rfl, onPtr_mk ⟨by omega, by omega, ?_⟩⟩
  rw [et]
  refine ⟨_, _, _, c0, Calls.use (index86 Re.re task (by omega)) ?_⟩
  rintro _ _ ⟨rfl, rfl⟩
  refine ⟨_, rfl, bc (fun hneg => ?_) (fun hneg => ?_)⟩
  · have hneg := of_decide_eq_true hneg
    have e : runF s task i = ([], 82, s) := by
      unfold runF
      rw [if_neg (by simp [he]), Int.toNat_natCast, hlx]
      simp only
      rw [if_pos hneg]
    rw [e]
    exact ⟨_, _, _, rfl, Woke.nil h3 L03⟩
  have hneg := of_decide_eq_false hneg
  obtain ⟨j, hj⟩ : ∃ j : Nat, idxI lx.readers task = j := ⟨(idxI lx.readers task).toNat, by omega⟩
  have e : runF s task i = ((passS s i ⟨lx.readers.take j ++ lx.readers.drop (j + 1), lx.writer, lx.queue⟩).1, 0, (passS s i ⟨lx.readers.take j ++ lx.readers.drop (j + 1), lx.writer, lx.queue⟩).2) := by
    unfold runF
    rw [if_neg (by simp [he]), Int.toNat_natCast, hlx]
    simp only
    rw [if_neg hneg, hj, Int.toNat_natCast]
  rw [e, hj, wrapS (x := (j : Int) + 1) (by omega) (by omega)]
  refine ⟨_, _, _, c0, Calls.use (delete87 (i := j) Re (by omega) (by omega)) ?_⟩
  rintro _ w5 ⟨rfl, R5, k5⟩
  obtain ⟨_, _, l5, _⟩ := h3.toParts.turnr Re k5
  rw [ha] at l5
  refine ⟨_, _, _, rfl, (lcan l5 hil).1, fun w6 e6 => ?_⟩
  obtain ⟨I6, st6⟩ := h3.rd (Q' := Q) hhx hlx (h1 := (hr.1, hr.2.1 - 1, hr.2.2)) k5 R5 (.inl rfl) ha e6 (by simp; omega)
  have hl6 : (s.ls.set i ⟨lx.readers.take j ++ lx.readers.drop (j + 1), lx.writer, lx.queue⟩)[i]? = some ⟨lx.readers.take j ++ lx.readers.drop (j + 1), lx.writer, lx.queue⟩ := set_get hil
  refine Calls.use (pass88 I6 hQ hl6 ha) ?_
  rintro _ w7 ⟨q, l, c, rfl, hW⟩
  refine ⟨_, _, _, rfl, _, _, _, rfl, ?_⟩
  have := hW.after (L03.trans st6)
  simp only [List.set_set] at this
  exact this
/-- WUnlock -/
def wunF (s : S8) (task n : Int) : List Int × Int × S8 :=
  if askL task [(n, s.ls.length)] s.wt ≠ 0 then ([], askL task [(n, s.ls.length)] s.wt, s) else
  match s.ls[n.toNat]? with
  | none => ([], 0, s)
  | some m => if m.writer ≠ task then ([], 82, s) else
    let r := passS s n.toNat ⟨m.readers, -1, m.queue⟩
    (r.1, 0, r.2)
theorem wunlock50 (h : InvG w base N Q o g s) (hQ : Q ≤ 4398046511104) (task n : Int) :
    Calls Try.prog 50 #[.pointer (some (ad o)), .int .i64 task, .int .i64 n] w (Ret fun v w' => ∃ q l c, v = .tuple #[.slice q l c, .int .i64 (wunF s task n).2.1] ∧ Woke w w' base N Q o g q l (wunF s task n).1 (wunF s task n).2.2) := by
  refine f50.calls _ _ _ ?_
  unfold f50.wp
  refine Calls.use (sizes43 h) ?_
  rintro _ w1 ⟨rfl, k1⟩
  refine ⟨_, _, _, _, rfl, newBox fun w2 B2 k2 _ => Calls.use (asks44 ((h.chgN k1).chgN k2) task (RE.of_flat (xs := [(n, (s.ls.length : Int))]) rfl B2.reads0) (by decide)) ?_⟩
  rintro _ w3 ⟨rfl, k3⟩
  have k03 := k1.trans (k2.trans k3)
  have h3 := h.chgN k03
  have L03 : Stp o w g w3 g := Stp.ofN k03
  refine ⟨_, rfl, bc (fun he => ?_) (fun he => ?_)⟩
  · have he : askL task [(n, s.ls.length)] s.wt ≠ 0 := by simpa using he
    have e : wunF s task n = ([], askL task [(n, s.ls.length)] s.wt, s) := by unfold wunF; rw [if_pos he]
    rw [e]
    exact ⟨_, _, _, rfl, Woke.nil h3 L03⟩
  have he : askL task [(n, s.ls.length)] s.wt = 0 := by simpa using he
  obtain ⟨t0, t1, hbad, hw⟩ := askL_ok he
  obtain ⟨n0, n1⟩ := badN_one hbad
  obtain ⟨i, rfl⟩ : ∃ i : Nat, n = i := ⟨n.toNat, by omega⟩
  obtain ⟨lx, hlx⟩ := get_ex (l := s.ls) (i := i) (by omega)
  have hil := get_lt hlx
  obtain ⟨a, hr, hd, ha, hhx, Qe, Re, c0, c1, c2⟩ := h3.lrow_at hlx
  have O := h3.obj
  rw [ha] at O
  have S3 := h3.lk
  rw [ha] at S3
  have et : ((i : Int)).toNat = i := by omega
  refine onPtr_mk ⟨_, _, _, (O.cell0 1).trans rfl, onPtr_mk ⟨by omega, by omega, ?_⟩⟩
  rw [et]
  refine ⟨_, c1, bc (fun hne => ?_) (fun heq => ?_)⟩
  · have hne : lx.writer ≠ task := by simpa using hne
    have e : wunF s task i = ([], 82, s) := by
      unfold wunF
      rw [if_neg (by simp [he]), Int.toNat_natCast, hlx]
      simp only
      rw [if_pos hne]
    rw [e]
    exact ⟨_, _, _, rfl, Woke.nil h3 L03⟩
  have heq : ¬ (lx.writer ≠ task) := by simpa using heq
  have e : wunF s task i = ((passS s i ⟨lx.readers, -1, lx.queue⟩).1, 0, (passS s i ⟨lx.readers, -1, lx.queue⟩).2) := by
    unfold wunF
    rw [if_neg (by simp [he]), Int.toNat_natCast, hlx]
    simp only
    rw [if_neg heq]
  rw [e]
  refine ⟨(lcan S3 hil).2.1, fun w4 e4 => ?_⟩
  obtain ⟨I4, st4⟩ := h3.wr hhx hlx (-1) ha e4
  have hl4 : (s.ls.set i ⟨lx.readers, -1, lx.queue⟩)[i]? = some ⟨lx.readers, -1, lx.queue⟩ := set_get hil
  refine Calls.use (pass88 I4 hQ hl4 ha) ?_
  rintro _ w5 ⟨q, l, c, rfl, hW⟩
  refine ⟨_, _, _, rfl, _, _, _, rfl, ?_⟩
  have := hW.after (L03.trans st4)
  simp only [List.set_set] at this
  exact this
/-- Add -/
def addF (s : S8) (task n by_ : Int) : Int × Int × S8 :=
  if askL task [(n, s.ns.length)] s.wt ≠ 0 then (0, askL task [(n, s.ns.length)] s.wt, s) else
  match s.ns[n.toNat]? with
  | none => (0, 0, s)
  | some m => (IntKind.wrap .i64 (m + by_), 0, { s with ns := s.ns.set n.toNat (IntKind.wrap .i64 (m + by_)) })
theorem add54 (h : InvG w base N Q o g s) (task n by_ : Int) :
    Calls Try.prog 54 #[.pointer (some (ad o)), .int .i64 task, .int .i64 n, .int .i64 by_] w (Ret fun v w' => v = .tuple #[.int .i64 (addF s task n by_).1, .int .i64 (addF s task n by_).2.1] ∧ ∃ g', InvG w' base N Q o g' (addF s task n by_).2.2 ∧ Stp o w g w' g') := by
  refine f54.calls _ _ _ _ ?_
  unfold f54.wp
  refine Calls.use (sizes43 h) ?_
  rintro _ w1 ⟨rfl, k1⟩
  refine ⟨_, _, _, _, rfl, newBox fun w2 B2 k2 _ => Calls.use (asks44 ((h.chgN k1).chgN k2) task (RE.of_flat (xs := [(n, (s.ns.length : Int))]) rfl B2.reads0) (by decide)) ?_⟩
  rintro _ w3 ⟨rfl, k3⟩
  have k03 := k1.trans (k2.trans k3)
  have h3 := h.chgN k03
  have L03 : Stp o w g w3 g := Stp.ofN k03
  refine ⟨_, rfl, bc (fun he => ?_) (fun he => ?_)⟩
  · have he : askL task [(n, s.ns.length)] s.wt ≠ 0 := by simpa using he
    have e : addF s task n by_ = (0, askL task [(n, s.ns.length)] s.wt, s) := by unfold addF; rw [if_pos he]
    rw [e]
    exact ⟨rfl, g, h3, L03⟩
  have he : askL task [(n, s.ns.length)] s.wt = 0 := by simpa using he
  obtain ⟨t0, t1, hbad, hw⟩ := askL_ok he
  obtain ⟨n0, n1⟩ := badN_one hbad
  obtain ⟨i, rfl⟩ : ∃ i : Nat, n = i := ⟨n.toNat, by omega⟩
  obtain ⟨m, hm⟩ := get_ex (l := s.ns) (i := i) (by omega)
  have hil := get_lt hm
  obtain ⟨a, y, ha, hy, hr⟩ := h3.ct.re.ex (i := i) hil
  rw [hm] at hy; cases hy
  have O := h3.obj
  rw [ha] at O
  have et : ((i : Int)).toNat = i := by omega
  have e : addF s task i by_ = (IntKind.wrap .i64 (m + by_), 0, { s with ns := s.ns.set i (IntKind.wrap .i64 (m + by_)) }) := by
    unfold addF
    rw [if_neg (by simp [he]), Int.toNat_natCast, hm]
  rw [e]
  obtain ⟨a', ha', hcan⟩ := h3.ct.can (i := i) hil
  rw [ha] at ha'; cases ha'
  have hc0 := hcan 0 1 (by decide)
  rw [add_zero'] at hc0
  refine onPtr_mk ⟨_, _, _, (O.cell0 3).trans rfl, onPtr_mk ⟨by omega, by omega, ?_⟩⟩
  rw [et]
  refine ⟨m, reads_one' hr, onPtr_mk ⟨by omega, by omega, hc0, fun w4 e4 => ?_⟩⟩
  obtain ⟨I4, st4⟩ := h3.ct' hil (IntKind.wrap .i64 (m + by_)) ha e4
  have O4 := I4.obj
  rw [ha] at O4
  have hil4 : i < (s.ns.set i (IntKind.wrap .i64 (m + by_))).length := by rw [List.length_set]; exact hil
  obtain ⟨a4, y4, ha4, hy4, hr4⟩ := I4.ct.re.ex (i := i) hil4
  rw [ha] at ha4; cases ha4
  rw [set_get hil] at hy4; cases hy4
  refine onPtr_mk ⟨_, _, _, (O4.cell0 3).trans rfl, onPtr_mk ⟨by omega, by rw [List.length_set]; omega, _, reads_one' hr4, rfl, _, I4, L03.trans st4⟩⟩
end
end Full
end Go.Proofs.Ytibpbbjlecohiaa
