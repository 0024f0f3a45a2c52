import Derived.Test.YtibpbbjlecohiaaLaB
set_option maxRecDepth 20000
namespace Go.Proofs.Ytibpbbjlecohiaa
open Go Go.Vc Go.RowKit
/-- what a call of the latches leaves as it was -/
structure LC (b : Nat) (w w' : World) : Prop where
  os : w'.os = w.os
  tape : w'.tape = w.tape
  output : w'.output = w.output
  size : w.heap.size ≤ w'.heap.size
  low : ∀ k, k < b → w'.heap[k]? = w.heap[k]?
  keep : ∀ k t cs, Blk w k t cs → t ≠ 97 → t ≠ 106 → Blk w' k t cs
theorem LC.of {b : Nat} {w w' : World} {S : Nat → Prop} (c : Chg S w w') (hb : b ≤ w.heap.size) (hS : ∀ k, S k → b ≤ k ∧ ∀ t cs, Blk w k t cs → t = 97 ∨ t = 106) : LC b w w' :=
  ⟨c.os, c.tape, c.output, c.size, fun k hk => c.block k (by omega) (fun h => by have := (hS k h).1; omega), fun k t cs B h1 h2 => c.blk B (fun h => by
    rcases (hS k h).2 t cs B with h | h
    · exact h1 h
    · exact h2 h)⟩
theorem LC.ofN {b : Nat} {w w' : World} (c : Chg none_ w w') (hb : b ≤ w.heap.size) : LC b w w' := LC.of c hb fun _ h => h.elim
theorem LC.trans {b : Nat} {w w' w'' : World} (h : LC b w w') (k : LC b w' w'') : LC b w w'' :=
  ⟨k.os.trans h.os, k.tape.trans h.tape, k.output.trans h.output, Nat.le_trans h.size k.size, fun i hi => (k.low i hi).trans (h.low i hi), fun i t cs B h1 h2 => k.keep i t cs (h.keep i t cs B h1 h2) h1 h2⟩
theorem LC.chg {b : Nat} {w0 w w' : World} (h : LC b w w') (c : Chg none_ w0 w) (hb : w0.heap.size ≤ b) : Chg none_ w0 w' :=
  ⟨h.os.trans c.os, h.tape.trans c.tape, h.output.trans c.output, Nat.le_trans c.size h.size, fun k hk hn => (h.low k (by omega)).trans (c.block k hk hn)⟩
theorem LC.se {α : Type} {E : En α} {b : Nat} {w w' : World} (h : LC b w w') {base : Nat} {e : TypeId} {q : Option Addr} {l c : Nat} {xs : List α} (s : SE E w base e q l c xs) (h1 : e ≠ 97) (h2 : e ≠ 106) : SE E w' base e q l c xs :=
  ⟨s.len, s.ex.imp id fun ⟨g, off, cur, a1, a2, a3, a4⟩ => ⟨g, off, cur, a1, a2, h.keep g e cur a3 h1 h2, a4⟩⟩
theorem LC.rows {α : Type} {E : En α} {b : Nat} {w w' : World} (h : LC b w w') {base : Nat} {e : TypeId} {hs : List Hd} {xss : List (List α)} (r : RowsE E w base e hs xss) (h1 : e ≠ 97) (h2 : e ≠ 106) : RowsE E w' base e hs xss :=
  ⟨r.len, fun i x xs hi hx => h.se (r.se i x xs hi hx) h1 h2, r.ap⟩
theorem set_same {α : Type} {l : List α} {i : Nat} {x : α} (h : l[i]? = some x) : l.set i x = l := by
  apply List.ext_getElem?
  intro j
  by_cases hij : i = j
  · subst hij
    rw [List.getElem?_set_self (get_lt h), h]
  · rw [List.getElem?_set_ne hij]
theorem map_at {α β : Type} {f : α → β} {l : List α} {i : Nat} {x : α} (h : l[i]? = some x) : (l.map f)[i]? = some (f x) := by rw [List.getElem?_map, h]; rfl
theorem Inv.base_le {w : World} {base N Q o : Nat} {ms : List Mx} {wt : Int → Option W3} (h : Inv w base N Q o ms wt) : base ≤ w.heap.size := by
  obtain ⟨qm, cm, q2, l2, c2, q3, l3, c3, q4, l4, c4, m, n, hs, B, hb, _⟩ := h.ex
  exact Nat.le_trans hb (Nat.le_of_lt B.lt)
theorem wait45 {w : World} {base N Q o : Nat} {ms : List Mx} {wt : Int → Option W3} (h : Inv w base N Q o ms wt) (hN : N ≤ 4398046511104) {task : Int} (ht : ok64 task) (kind n : Int) :
    Calls Try.prog 45 #[.pointer (some (ad o)), .int .i64 task, .int .i64 kind, .int .i64 n] w (Ret fun v w' => v = .tuple #[] ∧ Inv w' base (N + 1) Q o ms (updF wt task (some (task, kind, n))) ∧ LC base w w') := by
  have hbase := h.base_le
  obtain ⟨qm, cm, q2, l2, c2, q3, l3, c3, q4, l4, c4, m, k, hs, B, hb, S, ho, R, M, hm, hk, hq⟩ := h.ex
  refine f45.calls _ _ _ _ ?_
  unfold f45.wp
  obtain ⟨w', hrun, M', kk⟩ := M.update (t := 87) (e := 47) key3 Try.underlying87 (by simp only [maxLen]; omega) ht (task, kind, n)
  refine onPtr_mk ⟨_, (B.cell0 4).trans rfl, w', hrun, rfl, ⟨qm, cm, q2, l2, c2, q3, l3, c3, q4, l4, c4, m, k + 1, hs, kk.blk B (fun e => Mp.ne M B e.symm), hb, S.chg kk fun g hg e => ?_, ho, R.chg kk fun x hx g hg e => ?_, M', hm, by omega, hq⟩, LC.of kk hbase fun g hg => ⟨by omega, fun t cs Bg => absurd hg.symm (Mp.ne M Bg)⟩⟩
  · obtain ⟨cur, Bg⟩ := S.blk hg
    exact Mp.ne M Bg e.symm
  · obtain ⟨i, hi⟩ := List.getElem?_of_mem hx
    obtain ⟨xs, _, s⟩ := R.at' hi
    obtain ⟨cur, Bg⟩ := s.blk hg
    exact Mp.ne M Bg e.symm
structure LS where
  ms : List Mx
  wt : Int → Option W3
def lockS (s : LS) (task n : Int) : Bool × Int × LS :=
  if askE task n s.ms.length s.wt ≠ 0 then (false, askE task n s.ms.length s.wt, s) else
  match s.ms[n.toNat]? with
  | none => (false, 0, s)
  | some m => if m.owner = task then (false, 81, s) else if m.owner = -1 then (true, 0, ⟨s.ms.set n.toNat ⟨task, m.queue⟩, s.wt⟩) else
    (false, 0, ⟨s.ms.set n.toNat ⟨m.owner, m.queue ++ [⟨task, false, 0⟩]⟩, updF s.wt task (some (task, 1, n))⟩)
theorem askE_ok {task n b : Int} {wt : Int → Option W3} (h : askE task n b wt = 0) : 0 ≤ task ∧ task < 16 ∧ 0 ≤ n ∧ n < b ∧ wt task = none := by
  unfold askE at h
  split at h
  · cases h
  · split at h
    · cases h
    · split at h
      · cases h
      · rename_i h1 h2 h3
        exact ⟨by omega, by omega, by omega, by omega, by simpa using h3⟩
theorem lock18 {w : World} {base N Q o : Nat} {s : LS} (h : Inv w base N Q o s.ms s.wt) (hN : N ≤ 4398046511104) (hQ : Q ≤ 4398046511104) (task n : Int) :
    Calls Try.prog 18 #[.pointer (some (ad o)), .int .i64 task, .int .i64 n] w (Ret fun v w' => v = .tuple #[.bool (lockS s task n).1, .int .i64 (lockS s task n).2.1] ∧ Inv w' base (N + 1) (Q + 1) o (lockS s task n).2.2.ms (lockS s task n).2.2.wt ∧ LC base w w') := by
  have hbase := h.base_le
  refine f18.calls _ _ _ ?_
  unfold f18.wp
  refine Calls.use (sizes43 h) ?_
  rintro _ w1 ⟨_, _, _, rfl, k1⟩
  refine ⟨_, _, _, _, rfl, newBox fun w2 B2 k2 _ => Calls.use (asks44 ((h.chgN k1).chgN k2) task B2) ?_⟩
  rintro _ w3 ⟨rfl, k3⟩
  have k03 := k1.trans (k2.trans k3)
  have h3 := h.chgN k03
  have hb3 := h3.base_le
  have L03 : LC base w w3 := LC.ofN k03 hbase
  refine ⟨_, rfl, bc (fun he => ?_) (fun he => ?_)⟩
  · have he : askE task n s.ms.length s.wt ≠ 0 := by simpa using he
    have e : lockS s task n = (false, askE task n s.ms.length s.wt, s) := by rw [lockS, if_pos he]
    rw [e]
    exact ⟨rfl, h3.up (by omega) (by omega), L03⟩
  have he : askE task n s.ms.length s.wt = 0 := by simpa using he
  obtain ⟨t0, t1, n0, n1, hw⟩ := askE_ok he
  obtain ⟨i, rfl⟩ : ∃ i : Nat, n = i := ⟨n.toNat, by omega⟩
  obtain ⟨mx, hmx⟩ := get_ex (l := s.ms) (i := i) (by omega)
  have e0 : lockS s task i = if mx.owner = task then (false, 81, s) else if mx.owner = -1 then (true, 0, ⟨s.ms.set i ⟨task, mx.queue⟩, s.wt⟩) else (false, 0, ⟨s.ms.set i ⟨mx.owner, mx.queue ++ [⟨task, false, 0⟩]⟩, updF s.wt task (some (task, 1, (i : Int)))⟩) := by
    rw [lockS, if_neg (by simp [he]), Int.toNat_natCast, hmx]
  have ht64 : ok64 task := by simp [ok64, Lit.wf, IntKind.min, IntKind.max, IntKind.signed, IntKind.bits]; omega
  obtain ⟨qm, cm, q2, l2, c2, q3, l3, c3, q4, l4, c4, m, k, hs, B, hb, S, ho, R, M, hm, hk, hq, hq64⟩ := h3.ex
  have hil : i < s.ms.length := get_lt hmx
  obtain ⟨hx, hhx⟩ := get_ex (l := hs) (i := i) (by rw [S.len]; exact hil)
  have hown : hx.owner = mx.owner := by
    have a1 := map_at (f := MxH.owner) hhx
    rw [ho, map_at (f := Mx.owner) hmx] at a1
    exact (Option.some.inj a1).symm
  obtain ⟨a, y, rfl, hy, hr⟩ := S.re.ex (i := i) hil
  rw [hhx] at hy; cases hy
  obtain ⟨ho0, q, l, c⟩ := hx
  have hr : reads w3 (a.add (i * 2)) [.int .i64 ho0, .slice q l c] := hr
  simp only at hown
  subst hown
  have c0 := reads_at hr (i := 0) rfl
  have c1 := reads_at hr (i := 1) rfl
  rw [add_zero'] at c0
  obtain ⟨a', ha', hcan⟩ := S.can (i := i) hil
  cases ha'
  refine onPtr_mk ⟨_, _, _, (B.cell 0).trans rfl, onPtr_mk ⟨by omega, by omega, _, c0, ?_⟩⟩
  rw [e0]
  refine bc (fun h81 => ?_) (fun hne => ?_)
  · have h81 : mx.owner = task := by simpa using h81
    rw [if_pos h81]
    exact ⟨rfl, h3.up (by omega) (by omega), L03⟩
  have hne : ¬ mx.owner = task := by simpa using hne
  rw [if_neg hne]
  refine bc (fun hfree => ?_) (fun hheld => ?_)
  · have hfree : mx.owner = -1 := by simpa using hfree
    rw [if_pos hfree]
    have hc0 := hcan 0 1 (by decide)
    rw [add_zero'] at hc0
    refine ⟨hc0, fun w4 e4 => ⟨rfl, ?_, ?_⟩⟩
    all_goals obtain ⟨S4, k4⟩ := S.setAt (w' := w4) (o := 0) (vs := [.int .i64 task]) (x' := ⟨task, q, l, c⟩) rfl hhx (by show 0 + 1 ≤ 2; decide) (mxh_own ⟨mx.owner, q, l, c⟩ task) (by rw [add_zero']; exact e4)
    · have B4 := k4.blk B (fun e => (SE.ne S B (by decide)) _ e.symm rfl)
      have M4 := M.chg k4 (fun e => by
        obtain ⟨cur, Bg⟩ := S.blk e.symm
        exact Mp.ne M Bg rfl)
      refine ⟨some a, cm, q2, l2, c2, q3, l3, c3, q4, l4, c4, m, k, hs.set i ⟨task, q, l, c⟩, by simp only [List.length_set]; exact B4, hb, by simp only [List.length_set]; exact S4, ?_, ?_, M4, hm, by omega, fun x hx => ?_, fun x hx y hy => ?_⟩
      · rw [List.map_set, List.map_set, ho]
      · rw [List.map_set, List.map_set, set_same (x := (q, l, c)) (map_at (f := MxH.hd) hhx), set_same (x := mx.queue) (map_at (f := Mx.queue) hmx)]
        exact R.chgS S (by decide) k4
      · rcases List.mem_or_eq_of_mem_set hx with hx | rfl
        · exact Nat.le_trans (hq x hx) (by omega)
        · exact Nat.le_trans (hq mx (List.mem_of_getElem? hmx)) (by omega)
      · rcases List.mem_or_eq_of_mem_set hx with hx | rfl
        · exact hq64 x hx y hy
        · exact hq64 mx (List.mem_of_getElem? hmx) y hy
    · refine L03.trans (LC.of k4 hb3 fun g hg => ?_)
      obtain ⟨cur, Bg⟩ := S.blk hg.symm
      refine ⟨(S.lt hg.symm).2, fun t cs Bt => .inl ?_⟩
      rw [Blk, Bg] at Bt
      cases Bt; rfl
  · have hheld : ¬ mx.owner = -1 := by simpa using hheld
    rw [if_neg hheld]
    have Qe := R.se i (q, l, c) mx.queue (map_at (f := MxH.hd) hhx) (map_at (f := Mx.queue) hmx)
    have hql : mx.queue.length = l := Qe.len
    have hqN := hq mx (List.mem_of_getElem? hmx)
    refine ⟨_, _, _, c1, newBox fun w5 B5 k5 s5 => ?_⟩
    obtain ⟨q', c', w6, hrun, Q6, k6, hq6, _⟩ := (Qe.chgN k5).append1 (t := 95) (ty := 95) (x := ⟨task, false, 0⟩) elemWt B5 (by simp only [maxLen]; omega) (by show (l + 1) * 24 ≤ _; omega) (by omega)
    have S5 := S.chgN k5
    have S6 := S5.chg k6 fun g hg e => (SE.ne2 (Qe.chgN k5) S5 (by decide)) g e.symm hg.symm
    obtain ⟨a', ha', hcan6⟩ := S6.can (i := i) hil
    cases ha'
    refine ⟨_, _, _, w6, hrun, hcan6 1 1 (by decide), fun w7 e7 => ?_⟩
    obtain ⟨S7, k7⟩ := S6.setAt (w' := w7) (o := 1) (x' := ⟨mx.owner, q', l + 1, c'⟩) rfl hhx (by show 1 + 1 ≤ 2; decide) (mxh_hd ⟨mx.owner, q, l, c⟩ (q', l + 1, c')) e7
    have R6 := (R.chgN k5).set (h0 := (q, l, c)) (h1 := (q', l + 1, c')) (map_at (f := MxH.hd) hhx) k6 Q6 (hq6.imp id .inl)
    have R7 := R6.chgS S6 (by decide) k7
    have B5' := k5.blk B (fun x => x)
    have B6 := k6.blk B5' (fun e => (SE.ne (Qe.chgN k5) B5' (by decide)) _ e.symm rfl)
    have B7 := k7.blk B6 (fun e => (SE.ne S6 B6 (by decide)) _ e.symm rfl)
    have M5 := M.chg k5 (fun x => x)
    have M6 := M5.chg k6 (fun e => by
      obtain ⟨cur, Bg⟩ := (Qe.chgN k5).blk e.symm
      exact Mp.ne M5 Bg rfl)
    have M7 := M6.chg k7 (fun e => by
      obtain ⟨cur, Bg⟩ := S6.blk e.symm
      exact Mp.ne M6 Bg rfl)
    have I7 : Inv w7 base N (Q + 1) o (s.ms.set i ⟨mx.owner, mx.queue ++ [⟨task, false, 0⟩]⟩) s.wt := by
      refine ⟨some a, cm, q2, l2, c2, q3, l3, c3, q4, l4, c4, m, k, hs.set i ⟨mx.owner, q', l + 1, c'⟩, by simp only [List.length_set]; exact B7, hb, by simp only [List.length_set]; exact S7, ?_, ?_, M7, hm, by omega, fun x hx => ?_, fun x hx y hy => ?_⟩
      · rw [List.map_set, List.map_set, ho]
      · rw [List.map_set, List.map_set]; exact R7
      · rcases List.mem_or_eq_of_mem_set hx with hx | rfl
        · exact Nat.le_trans (hq x hx) (by omega)
        · simp; omega
      · rcases List.mem_or_eq_of_mem_set hx with hx | rfl
        · exact hq64 x hx y hy
        · rcases List.mem_append.1 hy with hy | hy
          · exact hq64 mx (List.mem_of_getElem? hmx) y hy
          · simp at hy; subst hy; exact ht64
    have L57 : LC base w3 w7 := by
      refine (LC.ofN k5 hb3).trans ((LC.of k6 (Nat.le_trans hb3 k5.size) fun g hg => ?_).trans (LC.of k7 (Nat.le_trans hb3 (Nat.le_trans k5.size k6.size)) fun g hg => ?_))
      · obtain ⟨cur, Bg⟩ := (Qe.chgN k5).blk hg.symm
        refine ⟨((Qe.chgN k5).lt hg.symm).2, fun t cs Bt => .inr ?_⟩
        rw [Blk, Bg] at Bt
        cases Bt; rfl
      · obtain ⟨cur, Bg⟩ := S6.blk hg.symm
        refine ⟨(S6.lt hg.symm).2, fun t cs Bt => .inl ?_⟩
        rw [Blk, Bg] at Bt
        cases Bt; rfl
    refine Calls.use (wait45 I7 hN ht64 1 i) ?_
    rintro _ w8 ⟨rfl, I8, L8⟩
    exact ⟨rfl, rfl, I8, L03.trans (L57.trans L8)⟩
/-- Unlock: whom it wakes, and with what -/
def unlockS (s : LS) (task n : Int) : List Int × Int × LS :=
  if askE task n s.ms.length s.wt ≠ 0 then ([], askE task n s.ms.length s.wt, s) else
  match s.ms[n.toNat]? with
  | none => ([], 0, s)
  | some m => if m.owner ≠ task then ([], 82, s) else match m.queue with
    | [] => ([], 0, ⟨s.ms.set n.toNat ⟨-1, []⟩, s.wt⟩)
    | x :: xs => ([x.task], 0, ⟨s.ms.set n.toNat ⟨x.task, xs⟩, updF s.wt x.task none⟩)
end Go.Proofs.Ytibpbbjlecohiaa
