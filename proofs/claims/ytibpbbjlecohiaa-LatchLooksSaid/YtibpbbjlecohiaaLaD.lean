import Derived.Test.YtibpbbjlecohiaaLaC
set_option maxRecDepth 20000
namespace Go.Proofs.Ytibpbbjlecohiaa
open Go Go.Vc Go.RowKit
theorem hand46 {w : World} {base N Q o : Nat} {ms : List Mx} {wt : Int → Option W3} (h : Inv w base N Q o ms wt) {i : Nat} {mx : Mx} (hmx : ms[i]? = some mx) {a : Addr} {l0 c0 : Nat} (hc : w.cell? (ad o) = some (.slice (some a) l0 c0)) :
    Calls Try.prog 46 #[.pointer (some (ad o)), .pointer (some (a.add (i * 2)))] w (Ret fun v w' => ∃ q l c, v = .slice q l c ∧ match mx.queue with
      | [] => RE En.int w' q l [] ∧ Inv w' base N Q o (ms.set i ⟨-1, []⟩) wt ∧ LC base w w'
      | x :: xs => RE En.int w' q l [x.task] ∧ Inv w' base N Q o (ms.set i ⟨x.task, xs⟩) (updF wt x.task none) ∧ LC base w w') := by
  have hbase := h.base_le
  obtain ⟨qm, cm, q2, l2, c2, q3, l3, c3, q4, l4, c4, m, k, hs, B, hb, S, ho, R, M, hm, hk, hq, hq64⟩ := h.ex
  have hqa : qm = some a := by
    have := (B.cell 0).symm.trans hc
    simp at this
    exact this.1
  subst hqa
  have hil : i < ms.length := get_lt hmx
  obtain ⟨hx, hhx⟩ := get_ex (l := hs) (i := i) (by rw [S.len]; exact hil)
  have hown : hx.owner = mx.owner := by
    have a1 := map_at (f := MxH.owner) hhx
    rw [ho, map_at (f := Mx.owner) hmx] at a1
    exact (Option.some.inj a1).symm
  obtain ⟨ho0, q, l, c⟩ := hx
  simp only at hown
  subst hown
  have Qe := R.se i (q, l, c) mx.queue (map_at (f := MxH.hd) hhx) (map_at (f := Mx.queue) hmx)
  refine f46.calls _ _ ?_
  unfold f46.wp
  -- a row's cell read
  have rd : ∀ {w' : World} {hs' : List MxH} {x : MxH}, SE En.mxh w' base 97 (some a) ms.length cm hs' → hs'[i]? = some x → w'.cell? (a.add (i * 2)) = some (.int .i64 x.owner) ∧ w'.cell? ((a.add (i * 2)).add 1) = some (.slice x.hd.1 x.hd.2.1 x.hd.2.2) := fun S' hx => by
    obtain ⟨a', y, ha', hy, hr⟩ := S'.re.ex (i := i) hil
    cases ha'
    rw [hx] at hy; cases hy
    have d0 := reads_at hr (i := 0) rfl
    have d1 := reads_at hr (i := 1) rfl
    rw [add_zero'] at d0
    exact ⟨d0, d1⟩
  have cs : ∀ {w' : World} {hs' : List MxH}, SE En.mxh w' base 97 (some a) ms.length cm hs' → canStore w' (a.add (i * 2)) 1 ∧ canStore w' ((a.add (i * 2)).add 1) 1 := fun S' => by
    obtain ⟨a', ha', hcan⟩ := S'.can (i := i) hil
    cases ha'
    have hc0 := hcan 0 1 (by decide)
    rw [add_zero'] at hc0
    exact ⟨hc0, hcan 1 1 (by decide)⟩
  have lcS : ∀ {w1 w2 : World} {hs' : List MxH}, SE En.mxh w1 base 97 (some a) ms.length cm hs' → base ≤ w1.heap.size → Chg (fun k => some k = qB (some a)) w1 w2 → LC base w1 w2 := fun S' hb k => LC.of k hb fun g hg => by
    obtain ⟨cur, Bg⟩ := S'.blk hg.symm
    refine ⟨(S'.lt hg.symm).2, fun t cs Bt => .inl ?_⟩
    rw [Blk, Bg] at Bt
    cases Bt; rfl
  have neS : ∀ {w1 : World} {hs' : List MxH}, SE En.mxh w1 base 97 (some a) ms.length cm hs' → ∀ {b : Nat} {t : TypeId} {cs : Array Value}, Blk w1 b t cs → t ≠ 97 → ¬ (some b = qB (some a)) := fun S' b t cs Bt ht e => SE.ne S' Bt ht _ e.symm rfl
  have neM : ∀ {w1 : World} {hs' : List MxH} {n : Nat} {f : Int → Option W3}, SE En.mxh w1 base 97 (some a) ms.length cm hs' → Mp Try.prog 3 w1 m n f → ¬ (some m = qB (some a)) := fun S' M' e => by
    obtain ⟨cur, Bg⟩ := S'.blk e.symm
    exact Mp.ne M' Bg rfl
  refine onPtr_mk ⟨(cs S).1, fun w1 e1 => ?_⟩
  obtain ⟨S1, k1⟩ := S.setAt (w' := w1) (o := 0) (vs := [.int .i64 (-1)]) (x' := ⟨-1, q, l, c⟩) rfl hhx (by show 0 + 1 ≤ 2; decide) (mxh_own ⟨mx.owner, q, l, c⟩ (-1)) (by rw [add_zero']; exact e1)
  have x1 : (hs.set i ⟨-1, q, l, c⟩)[i]? = some ⟨-1, q, l, c⟩ := by rw [List.getElem?_set_self (by rw [S.len]; exact hil)]
  have R1 := R.chgS S (by decide) k1
  have B1 := k1.blk B (neS S B (by decide))
  have M1 := M.chg k1 (neM S M)
  have L1 := lcS S hbase k1
  have hb1 := Nat.le_trans hbase k1.size
  refine onPtr_mk ⟨_, _, _, (rd S1 x1).2, ?_⟩
  have hql : mx.queue.length = l := Qe.len
  cases hqu : mx.queue with
  | nil =>
    rw [hqu] at hql
    have hl0 : l = 0 := hql.symm
    refine bcT (by simp [hl0]) ⟨none, 0, 0, rfl, RE.nil _ _ _, ⟨some a, cm, q2, l2, c2, q3, l3, c3, q4, l4, c4, m, k, hs.set i ⟨-1, q, l, c⟩, by simp only [List.length_set]; exact B1, hb, by simp only [List.length_set]; exact S1, ?_, ?_, M1, hm, hk, fun x hx => ?_, fun x hx y hy => ?_⟩, L1⟩
    · rw [List.map_set, List.map_set, ho]
    · rw [List.map_set, List.map_set, set_same (x := (q, l, c)) (map_at (f := MxH.hd) hhx), set_same (x := ([] : List Wt)) (by rw [← hqu]; exact map_at (f := Mx.queue) hmx)]
      exact R1
    · rcases List.mem_or_eq_of_mem_set hx with hx | rfl
      · exact hq x hx
      · exact Nat.zero_le _
    · rcases List.mem_or_eq_of_mem_set hx with hx | rfl
      · exact hq64 x hx y hy
      · cases hy
  | cons x xs =>
    rw [hqu] at hql
    simp at hql
    have Q1 : SE En.wt w1 base 106 q l c (x :: xs) := by
      have := R1.se i (q, l, c) mx.queue (by rw [← set_same (x := (q, l, c)) (map_at (f := MxH.hd) hhx)]; rw [List.getElem?_set_self (by simp [S.len]; exact hil)]) (map_at (f := Mx.queue) hmx)
      rwa [hqu] at this
    obtain ⟨qa, y, rfl, hy, hrq⟩ := Q1.re.ex (i := 0) (by omega)
    cases hy
    have t0 := reads_at hrq (i := 0) rfl
    rw [add_zero'] at t0
    refine bcF (by simp; omega) (onPtr_mk ⟨_, _, _, (rd S1 x1).2, onPtr_mk ⟨by decide, by simp; omega, x.task, t0, onPtr_mk ⟨(cs S1).1, fun w2 e2 => ?_⟩⟩⟩)
    obtain ⟨S2, k2⟩ := S1.setAt (w' := w2) (o := 0) (vs := [.int .i64 x.task]) (x' := ⟨x.task, some qa, l, c⟩) rfl x1 (by show 0 + 1 ≤ 2; decide) (mxh_own ⟨-1, some qa, l, c⟩ x.task) (by rw [add_zero']; exact e2)
    rw [List.set_set] at S2
    have x2 : (hs.set i ⟨x.task, some qa, l, c⟩)[i]? = some ⟨x.task, some qa, l, c⟩ := by rw [List.getElem?_set_self (by rw [S.len]; exact hil)]
    have R2 := R1.chgS S1 (by decide) k2
    have B2 := k2.blk B1 (neS S1 B1 (by decide))
    have M2 := M1.chg k2 (neM S1 M1)
    have L2 := L1.trans (lcS S1 hb1 k2)
    have hb2 := Nat.le_trans hb1 k2.size
    have Q2 : SE En.wt w2 base 106 (some qa) l c (x :: xs) := Q1.chg k2 fun g hg e => SE.ne2 Q1 S1 (by decide) g hg e
    refine onPtr_mk ⟨_, _, _, (rd S2 x2).2, Calls.use (delete84 Q2) ?_⟩
    rintro _ w3 ⟨rfl, Q3, k3⟩
    have S3 := S2.chg k3 fun g hg e => SE.ne2 Q2 S2 (by decide) g e.symm hg.symm
    have nq : ∀ {b : Nat} {t : TypeId} {cs : Array Value}, Blk w2 b t cs → t ≠ 106 → ¬ (some b = qB (some qa)) := fun Bt ht e => SE.ne Q2 Bt ht _ e.symm rfl
    have B3 := k3.blk B2 (nq B2 (by decide))
    have M3 := M2.chg k3 (fun e => by
      obtain ⟨cur, Bg⟩ := Q2.blk e.symm
      exact Mp.ne M2 Bg rfl)
    have R3 := R2.set (h0 := (some qa, l, c)) (h1 := (some qa, l - 1, c)) (map_at (f := MxH.hd) hhx) k3 Q3 (.inl rfl)
    have L3 := L2.trans (LC.of k3 hb2 fun g hg => by
      obtain ⟨cur, Bg⟩ := Q2.blk hg.symm
      refine ⟨(Q2.lt hg.symm).2, fun t cs Bt => .inr ?_⟩
      rw [Blk, Bg] at Bt
      cases Bt; rfl)
    have hb3 := Nat.le_trans hb2 k3.size
    refine ⟨_, _, _, rfl, onPtr_mk ⟨(cs S3).2, fun w4 e4 => ?_⟩⟩
    obtain ⟨S4, k4⟩ := S3.setAt (w' := w4) (o := 1) (x' := ⟨x.task, some qa, l - 1, c⟩) rfl x2 (by show 1 + 1 ≤ 2; decide) (mxh_hd ⟨x.task, some qa, l, c⟩ (some qa, l - 1, c)) e4
    rw [List.set_set] at S4
    have x4 : (hs.set i ⟨x.task, some qa, l - 1, c⟩)[i]? = some ⟨x.task, some qa, l - 1, c⟩ := by rw [List.getElem?_set_self (by rw [S.len]; exact hil)]
    have R4 := (R3.chgS S3 (by decide) k4).chgN (Chg.refl none_ w4).drew
    have B4 := (k4.blk B3 (neS S3 B3 (by decide))).drew
    have M4 := (M3.chg k4 (neM S3 M3)).chg (Chg.refl none_ w4).drew (fun x => x)
    have L4 := L3.trans ((lcS S3 hb3 k4).trans (LC.ofN (Chg.refl none_ w4).drew (Nat.le_trans hb3 k4.size)))
    have S4' := S4.drew
    have hb4 : base ≤ w4.drew.heap.size := Nat.le_trans hb3 k4.size
    generalize w4.drew = W at *
    have ht64 := hq64 mx (List.mem_of_getElem? hmx) x (by rw [hqu]; exact .head _)
    obtain ⟨w5, hrun, M5, k5⟩ := M4.delete (t := 87) (e := 47) key3 Try.underlying87 ht64 0
    refine onPtr_mk ⟨_, (B4.cell0 4).trans rfl, onPtr_mk ⟨_, (rd S4' x4).1, w5, hrun, ?_⟩⟩
    have B5 := k5.blk B4 (fun e => Mp.ne M4 B4 e.symm)
    have S5 := S4'.chg k5 fun g hg e => by
      obtain ⟨cur, Bg⟩ := S4'.blk hg
      exact Mp.ne M4 Bg e.symm
    have R5 := R4.chg k5 fun x hx g hg e => by
      obtain ⟨i, hi⟩ := List.getElem?_of_mem hx
      obtain ⟨xs, _, s⟩ := R4.at' hi
      obtain ⟨cur, Bg⟩ := s.blk hg
      exact Mp.ne M4 Bg e.symm
    have L5 := L4.trans (LC.of k5 hb4 fun g hg => ⟨by omega, fun t cs Bg => absurd hg.symm (Mp.ne M4 Bg)⟩)
    have hb5 := Nat.le_trans hb4 k5.size
    refine onPtr_mk ⟨_, (rd S5 x4).1, newBox fun w6 B6 k6 _ => ⟨_, _, _, rfl, RE.of_flat rfl B6.reads0, ?_, L5.trans (LC.ofN k6 hb5)⟩⟩
    have I5 : Inv w5 base N Q o (ms.set i ⟨x.task, xs⟩) (updF wt x.task none) := by
      refine ⟨some a, cm, q2, l2, c2, q3, l3, c3, q4, l4, c4, m, k, hs.set i ⟨x.task, some qa, l - 1, c⟩, by simp only [List.length_set]; exact B5, hb, by simp only [List.length_set]; exact S5, ?_, ?_, M5, hm, hk, fun y hy => ?_, fun y hy z hz => ?_⟩
      · rw [List.map_set, List.map_set, ho]
      · rw [List.map_set, List.map_set]; exact R5
      · rcases List.mem_or_eq_of_mem_set hy with hy | rfl
        · exact hq y hy
        · have := hq mx (List.mem_of_getElem? hmx)
          rw [hqu] at this
          simp at this ⊢; omega
      · rcases List.mem_or_eq_of_mem_set hy with hy | rfl
        · exact hq64 y hy z hz
        · exact hq64 mx (List.mem_of_getElem? hmx) z (by rw [hqu]; exact .tail _ hz)
    exact I5.chgN k6
end Go.Proofs.Ytibpbbjlecohiaa
