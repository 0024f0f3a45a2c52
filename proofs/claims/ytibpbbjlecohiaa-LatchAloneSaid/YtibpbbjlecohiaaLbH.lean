import Derived.Test.YtibpbbjlecohiaaLbG
set_option maxRecDepth 20000
namespace Go.Proofs.Ytibpbbjlecohiaa
namespace Full
open Go Go.Vc Go.RowKit
section
variable {w w' : World} {base N Q o : Nat} {g : G8} {s : S8}
def mayF (lx : Lk) (write : Bool) : Bool := decide (lx.writer < 0) && (!write || lx.readers.length == 0)
def hasF (lx : Lk) (task : Int) : Bool := lx.writer == task || decide (idxI lx.readers task ≥ 0)
def giveF (lx : Lk) (x : Wt) : Lk := if x.write then ⟨lx.readers, x.task, lx.queue⟩ else ⟨lx.readers ++ [x.task], lx.writer, lx.queue⟩
theorem InvG.rlen (h : InvG w base N Q o g s) {i : Nat} {lx : Lk} (hlx : s.ls[i]? = some lx) : lx.readers.length ≤ Q := by
  have := tot_at (map_at (f := Lk.readers) hlx); have := h.hq; omega
theorem may111 (h : InvG w base N Q o g s) {i : Nat} {lx : Lk} (hlx : s.ls[i]? = some lx) {a : Addr} (ha : g.q2 = some a) (write : Bool) :
    Calls Try.prog 111 #[.pointer (some (a.add (i * 3))), .bool write] w (Ret fun v w' => v = .bool (mayF lx write) ∧ w = w') := by
  obtain ⟨a', hr, hd, ha', hhx, Qe, Re, c0, c1, c2⟩ := h.lrow_at hlx
  rw [ha] at ha'; cases ha'
  refine f111.calls _ _ ?_
  unfold f111.wp
  have hrl : lx.readers.length = hr.2.1 := Re.len
  refine onPtr_mk ⟨_, c1, bc (fun h1 => bc (fun h2 => ⟨?_, rfl⟩) (fun h2 => onPtr_mk ⟨_, _, _, c0, ?_, rfl⟩)) (fun h1 => ⟨?_, rfl⟩)⟩
  · rw [mayF, h1]
    have : write = false := by simpa using h2
    simp [this]
  · rw [mayF, h1]
    have : write = true := by simpa using h2
    rw [this, hrl]
    refine congrArg Value.bool (Bool.eq_iff_iff.2 ?_)
    simp
  · rw [mayF, h1]; rfl
theorem has110 (h : InvG w base N Q o g s) {i : Nat} {lx : Lk} (hlx : s.ls[i]? = some lx) {a : Addr} (ha : g.q2 = some a) (task : Int) (hQ : Q ≤ 4398046511104) :
    Calls Try.prog 110 #[.pointer (some (a.add (i * 3))), .int .i64 task] w (Ret fun v w' => v = .bool (hasF lx task) ∧ w = w') := by
  obtain ⟨a', hr, hd, ha', hhx, Qe, Re, c0, c1, c2⟩ := h.lrow_at hlx
  rw [ha] at ha'; cases ha'
  have hrl : lx.readers.length = hr.2.1 := Re.len
  have hrq := h.rlen hlx
  refine f110.calls _ _ ?_
  unfold f110.wp
  refine onPtr_mk ⟨_, c1, bc (fun h1 => ⟨by rw [hasF, h1]; rfl, rfl⟩) (fun h1 => onPtr_mk ⟨_, _, _, c0, ?_⟩)⟩
  refine Calls.mono (f55.calls _ _ _ _ (w := w) (R := fun v w' => v = .bool (decide (idxI lx.readers task ≥ 0)) ∧ w = w') ?_) ?_
  · unfold f55.wp
    refine Calls.use (index86 Re.re task (by omega)) ?_
    rintro _ _ ⟨rfl, rfl⟩
    exact ⟨_, rfl, rfl, rfl⟩
  · rintro e w1 ⟨_, rfl, rfl, rfl⟩
    exact ⟨_, rfl, by rw [hasF, h1]; rfl, rfl⟩
theorem give112 (h : InvG w base N Q o g s) {i : Nat} {lx : Lk} (hlx : s.ls[i]? = some lx) {a : Addr} (ha : g.q2 = some a) (x : Wt) (hQ : Q ≤ 4398046511104) :
    Calls Try.prog 112 #[.pointer (some (a.add (i * 3))), .agg #[.int .i64 x.task, .bool x.write, .int .i64 x.mutex]] w (Ret fun v w' => v = .tuple #[] ∧ ∃ g', InvG w' base N (Q + 1) o g' { s with ls := s.ls.set i (giveF lx x) } ∧ Stp o w g w' g' ∧ g'.q2 = some a) := by
  refine f112.calls _ _ _ _ ?_
  unfold f112.wp
  have hil := get_lt hlx
  refine newBox fun w1 B1 k1 _ => ⟨_, (B1.cell0 1).trans rfl, ?_⟩
  have h1 := h.chgN k1
  obtain ⟨a', hr, hd, ha', hhx, Qe, Re, c0, c1, c2⟩ := h1.lrow_at hlx
  rw [ha] at ha'; cases ha'
  have S1 := h1.lk
  rw [ha] at S1
  refine bc (fun hw => ⟨_, (B1.cell 0).trans rfl, onPtr_mk ⟨(lcan S1 hil).2.1, fun w2 e2 => ?_⟩⟩) (fun hw => ?_)
  · obtain ⟨I2, st2⟩ := h1.wr hhx hlx x.task ha e2
    have e : giveF lx x = ⟨lx.readers, x.task, lx.queue⟩ := by rw [giveF, if_pos hw]
    rw [e]
    exact ⟨rfl, _, I2.up (Nat.le_refl _) (by omega), (Stp.ofN k1).trans st2, ha⟩
  · have hrl : lx.readers.length = hr.2.1 := Re.len
    have hrq := h.rlen hlx
    have e : giveF lx x = ⟨lx.readers ++ [x.task], lx.writer, lx.queue⟩ := by rw [giveF, if_neg (by simp [hw])]
    rw [e]
    have kd := (Chg.refl none_ w1).drew
    have h1' := h1.chgN kd
    have B1' := B1.drew
    have Re' := Re.chgN kd
    have c0' := (kd.cell (cell_some c0) (fun x => x)).trans c0
    have st1 : Stp o w g w1.drew g := Stp.ofN (k1.trans kd)
    generalize w1.drew = W at *
    refine ⟨fun p => p = a.add (i * 3) ∨ p.block = w.heap.size, onPtr_mk ⟨_, _, _, .inl rfl, c0', _, .inr rfl, (B1'.cell 0).trans rfl, newBox fun w3 B3 k3 _ => ?_⟩⟩
    have hKn : Keeps (fun p => p = a.add (i * 3) ∨ p.block = w.heap.size) W w3 := fun p hp => k3.cell (by
      rcases hp with rfl | hp
      · exact cell_some c0'
      · rw [hp]; exact B1'.lt) (fun x => x)
    have hb : base ≤ w3.heap.size := Nat.le_trans (Nat.le_trans h1'.bo (Nat.le_of_lt h1'.obj.lt)) k3.size
    obtain ⟨q', c', w4, hrun, R4, k4, hq4, _⟩ := (Re'.chgN k3).append1 (t := 35) (ty := 35) (x := x.task) elemInt B3 (by simp only [maxLen]; omega) (by show (hr.2.1 + 1) * 8 ≤ _; omega) hb
    have h3 := h1'.chgN k3
    obtain ⟨_, _, l4, _⟩ := h3.toParts.turnr (Re'.chgN k3) k4
    rw [ha] at l4
    have B3o := k3.blk B1' (fun x => x)
    have Lb : ∀ cur, Blk w3 w.heap.size 106 cur → ¬ (some w.heap.size = qB hr.1) := fun cur B e => SE.ne (Re'.chgN k3) B (by decide) _ e.symm rfl
    have La' : ¬ (some a.block = qB hr.1) := fun e => by
      have S3 := h3.lk
      rw [ha] at S3
      exact SE.ne2 (Re'.chgN k3) S3 (by decide) _ e.symm rfl
    refine ⟨hKn, _, _, _, w4, hrun, fun p hp => ?_, onPtr_mk ⟨(lcan l4 hil).1, fun w5 e5 => ?_⟩⟩
    · rw [k4.cell ?_ ?_]
      · exact hKn p hp
      · rcases hp with rfl | hp
        · exact Nat.lt_of_lt_of_le (cell_some c0') k3.size
        · rw [hp]; exact B3o.lt
      · rcases hp with rfl | hp
        · rw [add_block]; exact La'
        · rw [hp]; exact Lb _ B3o
    · obtain ⟨I5, st5⟩ := h3.rd (Q' := Q + 1) hhx hlx (h1 := (q', hr.2.1 + 1, c')) k4 R4 (hq4.imp id .inl) ha e5 (by simp; omega)
      exact ⟨rfl, _, I5, st1.trans ((Stp.ofN k3).trans st5), ha⟩
end
end Full
end Go.Proofs.Ytibpbbjlecohiaa
