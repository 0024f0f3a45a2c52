import Derived.Test.YtibpbbjlecohiaaLbM
set_option maxRecDepth 20000
namespace Go.Proofs.Ytibpbbjlecohiaa
namespace Full
open Go Go.Vc Go.RowKit
section
variable {w w' : World} {base N Q o : Nat} {g : G8} {s : S8}
def letS (s : S8) (i : Nat) : List Int × S8 := match s.cs[i]? with
  | some (x :: xs) => match s.ms[x.mutex.toNat]? with
    | some mx => letF s i x xs mx
    | none => ([], s)
  | _ => ([], s)
theorem letF_cs (s : S8) (i : Nat) (x : Wt) (xs : List Wt) (mx : Mx) : (letF s i x xs mx).2.cs = s.cs.set i xs ∧ (letF s i x xs mx).1.length ≤ 1 := by
  unfold letF
  split <;> simp
theorem let89' (h : InvG w base N Q o g s) (hN : N ≤ 4000000000000000000) (hQ : Q ≤ 4398046511104) {i : Nat} {x : Wt} {xs : List Wt} (hcx : s.cs[i]? = some (x :: xs)) :
    Calls Try.prog 89 #[.pointer (some (ad o)), .int .i64 (i : Int)] w (Ret fun v w' => ∃ q l c, v = .slice q l c ∧ Woke w w' base N Q o g q l (letS s i).1 (letS s i).2) ∧ (letS s i).2.cs = s.cs.set i xs ∧ (letS s i).1.length ≤ 1 := by
  have hcb := h.hc (x :: xs) (List.mem_of_getElem? hcx) x (.head _)
  obtain ⟨mx, hmx⟩ := get_ex (l := s.ms) (i := x.mutex.toNat) (by omega)
  have e : letS s i = letF s i x xs mx := by unfold letS; rw [hcx]; simp only; rw [hmx]
  rw [e]
  exact ⟨let89 h hN hQ hcx hmx, letF_cs s i x xs mx⟩
/-- Signal -/
def sigF (s : S8) (task n : Int) : List Int × Int × S8 :=
  if askL task [(n, s.cs.length)] s.wt ≠ 0 then ([], askL task [(n, s.cs.length)] s.wt, s) else ((letS s n.toNat).1, 0, (letS s n.toNat).2)
theorem signal52 (h : InvG w base N Q o g s) (hN : N ≤ 4000000000000000000) (hQ : Q ≤ 4398046511104) (task n : Int) :
    Calls Try.prog 52 #[.pointer (some (ad o)), .int .i64 task, .int .i64 n] w (Ret fun v w' => ∃ q l c, v = .tuple #[.slice q l c, .int .i64 (sigF s task n).2.1] ∧ Woke w w' base N Q o g q l (sigF s task n).1 (sigF s task n).2.2) := by
  refine f52.calls _ _ _ ?_
  unfold f52.wp
  refine Calls.use (sizes43 h) ?_
  rintro _ w1 ⟨rfl, k1⟩
  refine ⟨_, _, _, _, rfl, newBox fun w2 B2 k2 _ => Calls.use (asks44 ((h.chgN k1).chgN k2) task (RE.of_flat (xs := [(n, (s.cs.length : Int))]) rfl B2.reads0) (by decide)) ?_⟩
  rintro _ w3 ⟨rfl, k3⟩
  have k03 := k1.trans (k2.trans k3)
  have h3 := h.chgN k03
  have L03 : Stp o w g w3 g := Stp.ofN k03
  refine ⟨_, rfl, bc (fun he => ?_) (fun he => ?_)⟩
  · have he : askL task [(n, s.cs.length)] s.wt ≠ 0 := by simpa using he
    have e : sigF s task n = ([], askL task [(n, s.cs.length)] s.wt, s) := by unfold sigF; rw [if_pos he]
    rw [e]
    exact ⟨_, _, _, rfl, Woke.nil h3 L03⟩
  have he : askL task [(n, s.cs.length)] s.wt = 0 := by simpa using he
  obtain ⟨t0, t1, hbad, hw⟩ := askL_ok he
  obtain ⟨n0, n1⟩ := badN_one hbad
  obtain ⟨i, rfl⟩ : ∃ i : Nat, n = i := ⟨n.toNat, by omega⟩
  obtain ⟨xs, hcx⟩ := get_ex (l := s.cs) (i := i) (by omega)
  have e0 : sigF s task i = ((letS s i).1, 0, (letS s i).2) := by
    unfold sigF
    rw [if_neg (by simp [he]), Int.toNat_natCast]
  have et : ((i : Int)).toNat = i := by omega
  obtain ⟨a, hd, ha, hhx, Qe, c0⟩ := h3.crow_at hcx
  have O := h3.obj
  rw [ha] at O
  rw [e0]
  refine onPtr_mk ⟨_, _, _, (O.cell0 2).trans rfl, onPtr_mk ⟨by omega, by omega, ?_⟩⟩
  rw [et]
  have hql : xs.length = hd.2.1 := Qe.len
  refine ⟨_, _, _, c0, bc (fun hz => ?_) (fun hz => ?_)⟩
  · have hz : xs = [] := List.eq_nil_of_length_eq_zero (by have : hd.2.1 = 0 := by simpa using hz
                                                           omega)
    have e : letS s i = ([], s) := by unfold letS; rw [hcx, hz]
    rw [e]
    exact ⟨_, _, _, rfl, Woke.nil h3 L03⟩
  · have hz : hd.2.1 ≠ 0 := by simpa using hz
    cases xs with
    | nil => simp at hql; omega
    | cons x xs =>
      refine Calls.use (let89' h3 hN hQ hcx).1 ?_
      rintro _ w4 ⟨q, l, c, rfl, hW⟩
      exact ⟨_, _, _, rfl, _, _, _, rfl, hW.after L03⟩
def letN : Nat → S8 → Nat → List Int × S8
  | 0, s, _ => ([], s)
  | k + 1, s, i => ((letS s i).1 ++ (letN k (letS s i).2 i).1, (letN k (letS s i).2 i).2)
def lenQ (s : S8) (i : Nat) : Nat := ((s.cs[i]?).map List.length).getD 0
/-- Broadcast -/
def broF (s : S8) (task n : Int) : List Int × Int × S8 :=
  if askL task [(n, s.cs.length)] s.wt ≠ 0 then ([], askL task [(n, s.cs.length)] s.wt, s) else ((letN (lenQ s n.toNat) s n.toNat).1, 0, (letN (lenQ s n.toNat) s n.toNat).2)
def lenAt (w : World) (o i : Nat) : Nat := match w.cell? ((ad o).add 2) with
  | some (.slice (some a) _ _) => match w.cell? (a.add (i * 1)) with
    | some (.slice _ n _) => n
    | _ => 0
  | _ => 0
theorem lenAt_is (h : InvG w base N Q o g s) {i : Nat} {xs : List Wt} (hcx : s.cs[i]? = some xs) : lenAt w o i = xs.length := by
  obtain ⟨a, hd, ha, hhx, Qe, c0⟩ := h.crow_at hcx
  have O := h.obj
  rw [ha] at O
  have c2 : w.cell? ((ad o).add 2) = some (.slice (some a) s.cs.length g.c3) := (O.cell0 2).trans rfl
  unfold lenAt
  rw [c2]
  simp only
  rw [c0]
  exact Qe.len.symm
theorem broadcast53 (h : InvG w base N Q o g s) (hN : N ≤ 4000000000000000000) (hQ : Q ≤ 4398046511104) (task n : Int) :
    Calls Try.prog 53 #[.pointer (some (ad o)), .int .i64 task, .int .i64 n] w (Ret fun v w' => ∃ q l c, v = .tuple #[.slice q l c, .int .i64 (broF s task n).2.1] ∧ Woke w w' base N Q o g q l (broF s task n).1 (broF s task n).2.2) := by
  refine f53.calls _ _ _ ?_
  unfold f53.wp
  refine Calls.use (sizes43 h) ?_
  rintro _ w1 ⟨rfl, k1⟩
  refine ⟨_, _, _, _, rfl, newBox fun w2 B2 k2 _ => Calls.use (asks44 ((h.chgN k1).chgN k2) task (RE.of_flat (xs := [(n, (s.cs.length : Int))]) rfl B2.reads0) (by decide)) ?_⟩
  rintro _ w3 ⟨rfl, k3⟩
  have k03 := k1.trans (k2.trans k3)
  have h3 := h.chgN k03
  have L03 : Stp o w g w3 g := Stp.ofN k03
  refine ⟨_, rfl, bc (fun he => ?_) (fun he => ?_)⟩
  · have he : askL task [(n, s.cs.length)] s.wt ≠ 0 := by simpa using he
    have e : broF s task n = ([], askL task [(n, s.cs.length)] s.wt, s) := by unfold broF; rw [if_pos he]
    rw [e]
    exact ⟨_, _, _, rfl, Woke.nil h3 L03⟩
  have he : askL task [(n, s.cs.length)] s.wt = 0 := by simpa using he
  obtain ⟨t0, t1, hbad, hw⟩ := askL_ok he
  obtain ⟨n0, n1⟩ := badN_one hbad
  obtain ⟨i, rfl⟩ : ∃ i : Nat, n = i := ⟨n.toNat, by omega⟩
  obtain ⟨xs0, hcx0⟩ := get_ex (l := s.cs) (i := i) (by omega)
  have et : ((i : Int)).toNat = i := by omega
  have hlq : lenQ s i = xs0.length := by rw [lenQ, hcx0]; rfl
  have e0 : broF s task i = ((letN xs0.length s i).1, 0, (letN xs0.length s i).2) := by
    unfold broF
    rw [if_neg (by simp [he]), Int.toNat_natCast, hlq]
  have hqN : xs0.length ≤ Q := by
    obtain ⟨_, _, _, hhx, _⟩ := h3.crow_at hcx0
    exact wt_lt h3 (h3.cq_at hhx hcx0).2
  rw [e0]
  refine ⟨fun q1 l1 c1 w4 => ∃ (acc : List Int) (g4 : G8) (s4 : S8) (xs : List Wt), SE En.int w4 w.heap.size 3 q1 l1 c1 acc ∧ (∀ b, qB q1 = some b → ¬ Own g4 o b) ∧ InvG w4 base N Q o g4 s4 ∧ Stp o w g w4 g4 ∧ s4.cs[i]? = some xs ∧ s4.cs.length = s.cs.length ∧ acc.length + xs.length ≤ xs0.length ∧ acc ++ (letN xs.length s4 i).1 = (letN xs0.length s i).1 ∧ (letN xs.length s4 i).2 = (letN xs0.length s i).2, fun _ _ _ w4 => lenAt w4 o i, ⟨[], g, s, xs0, SE.nil _ _ _ _, fun b hb => by simp [qB] at hb, h3, L03, hcx0, rfl, by simp, by simp, rfl⟩, ?_⟩
  rintro q1 l1 c1 w4 ⟨acc, g4, s4, xs, A4, nA, I4, st4, hcx, hcl, hbd, ea, es⟩
  obtain ⟨a, hd, ha, hhx, Qe, c0⟩ := I4.crow_at hcx
  have O := I4.obj
  rw [ha] at O
  have hql : xs.length = hd.2.1 := Qe.len
  refine onPtr_mk ⟨_, _, _, (O.cell0 2).trans rfl, onPtr_mk ⟨by omega, by omega, ?_⟩⟩
  rw [et]
  refine ⟨_, _, _, c0, bc (fun hpos => ?_) (fun hz => ?_)⟩
  · have hpos : 0 < hd.2.1 := by have := of_decide_eq_true hpos; omega
    cases xs with
    | nil => simp at hql; omega
    | cons x xs =>
      obtain ⟨hC, hcs, hl1⟩ := let89' I4 hN hQ hcx
      refine Calls.use hC ?_
      rintro _ w5 ⟨q5, l5, c5, rfl, hr5, h25, g5, I5, st5, hn5⟩
      obtain ⟨A5, nA5⟩ := st5.se A4 nA
      have hl5 : l5 ≤ 1 := by rw [← hr5.len]; exact hl1
      have hal : acc.length = l1 := A4.len
      simp only [List.length_cons] at hbd
      have hbase : w.heap.size ≤ w5.heap.size := (st4.trans st5).chg.size
      obtain ⟨q6, c6, w6, hrun, A6, kA, hq6, _, _, _⟩ := A5.append (t := 35) (ty := 35) (c2 := c5) elemInt hr5 (by simp only [maxLen]; omega) (by show (l1 + l5) * 8 ≤ _; omega) hbase
      have I6 := I5.chg kA fun b hb => nA5 b hb.symm
      have hcx6 : (letS s4 i).2.cs[i]? = some xs := by rw [hcs]; exact set_get (get_lt hcx)
      refine ⟨_, _, _, rfl, _, _, _, w6, hrun, ⟨acc ++ (letS s4 i).1, g5, (letS s4 i).2, xs, A6, fun b hb ho => ?_, I6, ⟨(st4.trans st5).chg.trans' kA fun b hb => .inr (A5.lt hb.symm).2, (st4.trans st5).grow⟩, hcx6, by rw [hcs, List.length_set]; exact hcl, by rw [List.length_append]; omega, ?_, ?_⟩, ?_⟩
      · rcases hq6 with e | e
        · exact nA5 b (e ▸ hb) ho
        · rw [e] at hb; cases hb
          exact Nat.lt_irrefl _ (I5.own_lt ho).1
      · rw [← ea, List.append_assoc]; rfl
      · rw [← es]; rfl
      · show lenAt w6 o i < lenAt w4 o i
        rw [lenAt_is I6 hcx6, lenAt_is I4 hcx]
        simp
  · have hz : xs = [] := List.eq_nil_of_length_eq_zero (by have := of_decide_eq_false hz; omega)
    subst hz
    refine ⟨_, _, _, rfl, ?_⟩
    rw [← ea, ← es]
    show Woke w w4 base N Q o g q1 l1 (acc ++ []) s4
    rw [List.append_nil]
    exact ⟨A4.re, fun b hb => ⟨(A4.lt hb).2, (A4.lt hb).1⟩, g4, I4, st4, nA⟩
end
end Full
end Go.Proofs.Ytibpbbjlecohiaa
