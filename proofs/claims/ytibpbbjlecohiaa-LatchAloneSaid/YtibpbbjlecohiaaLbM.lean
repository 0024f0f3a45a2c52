import Derived.Test.YtibpbbjlecohiaaLbL
set_option maxRecDepth 20000
namespace Go.Proofs.Ytibpbbjlecohiaa
namespace Full
open Go Go.Vc Go.RowKit
section
variable {w w' : World} {base N Q o : Nat} {g : G8} {s : S8}
/-- a slice that was told stays as it was told -/
theorem Woke.then {w w1 w' : World} {q : Option Addr} {l : Nat} {r : List Int} {g1 g' : G8} {s' : S8} {N' Q' : Nat} (hr : RE En.int w1 q l r) (h2 : ∀ b, qB q = some b → w.heap.size ≤ b ∧ b < w1.heap.size) (hn : ∀ b, qB q = some b → ¬ Own g1 o b) (st : Stp o w g w1 g1) (st' : Stp o w1 g1 w' g') (I : InvG w' base N' Q' o g' s') : Woke w w' base N' Q' o g q l r s' :=
  ⟨hr.chgS st'.chg fun a ha => hn a.block (by rw [ha]; rfl), fun b hb => ⟨(h2 b hb).1, Nat.lt_of_lt_of_le (h2 b hb).2 st'.chg.size⟩, g', I, st.trans st', fun b hb => st'.nown (h2 b hb).2 (hn b hb)⟩
theorem badN_two {n b m c : Int} (h : badN [(n, b), (m, c)] = false) : (0 ≤ n ∧ n < b) ∧ 0 ≤ m ∧ m < c := by
  simp [badN] at h
  omega
/-- Wait -/
def waitF (s : S8) (task n m : Int) : List Int × Int × S8 :=
  if askL task [(n, s.cs.length), (m, s.ms.length)] s.wt ≠ 0 then ([], askL task [(n, s.cs.length), (m, s.ms.length)] s.wt, s) else
  match s.ms[m.toNat]?, s.cs[n.toNat]? with
  | some mx, some xs => if mx.owner ≠ task then ([], 82, s) else
    ((handF s m.toNat mx).1, 0, { (handF s m.toNat mx).2 with cs := s.cs.set n.toNat (xs ++ [⟨task, false, m⟩]), wt := updF (handF s m.toNat mx).2.wt task (some (task, 7, n)) })
  | _, _ => ([], 0, s)
theorem handF_cs (s : S8) (i : Nat) (mx : Mx) : (handF s i mx).2.cs = s.cs ∧ (handF s i mx).2.ms.length = s.ms.length ∧ (handF s i mx).2.ls = s.ls ∧ (handF s i mx).2.ns = s.ns := by
  unfold handF
  cases mx.queue <;> simp
theorem wait51 (h : InvG w base N Q o g s) (hN : N ≤ 3000000000000000000) (hQ : Q ≤ 4398046511104) (task n m : Int) :
    Calls Try.prog 51 #[.pointer (some (ad o)), .int .i64 task, .int .i64 n, .int .i64 m] w (Ret fun v w' => ∃ q l c, v = .tuple #[.slice q l c, .int .i64 (waitF s task n m).2.1] ∧ Woke w w' base (N + 2) (Q + 1) o g q l (waitF s task n m).1 (waitF s task n m).2.2) := by
  refine f51.calls _ _ _ _ ?_
  unfold f51.wp
  refine Calls.use (sizes43 h) ?_
  rintro _ w1 ⟨rfl, k1⟩
  refine ⟨_, _, _, _, rfl, newBox fun w2 B2 k2 _ => Calls.use (asks44 ((h.chgN k1).chgN k2) task (RE.of_flat (xs := [(n, (s.cs.length : Int)), (m, (s.ms.length : Int))]) rfl B2.reads0) (by decide)) ?_⟩
  rintro _ w3 ⟨rfl, k3⟩
  have k03 := k1.trans (k2.trans k3)
  have h3 := h.chgN k03
  have L03 : Stp o w g w3 g := Stp.ofN k03
  refine ⟨_, rfl, bc (fun he => ?_) (fun he => ?_)⟩
  · have he : askL task [(n, s.cs.length), (m, s.ms.length)] s.wt ≠ 0 := by simpa using he
    have e : waitF s task n m = ([], askL task [(n, s.cs.length), (m, s.ms.length)] s.wt, s) := by unfold waitF; rw [if_pos he]
    rw [e]
    exact ⟨_, _, _, rfl, Woke.nil (h3.up (by omega) (by omega)) L03⟩
  have he : askL task [(n, s.cs.length), (m, s.ms.length)] s.wt = 0 := by simpa using he
  obtain ⟨t0, t1, hbad, hw⟩ := askL_ok he
  obtain ⟨⟨n0, n1⟩, m0, m1⟩ := badN_two hbad
  obtain ⟨i, rfl⟩ : ∃ i : Nat, n = i := ⟨n.toNat, by omega⟩
  obtain ⟨j, rfl⟩ : ∃ j : Nat, m = j := ⟨m.toNat, by omega⟩
  obtain ⟨mx, hmx⟩ := get_ex (l := s.ms) (i := j) (by omega)
  obtain ⟨xs, hcx⟩ := get_ex (l := s.cs) (i := i) (by omega)
  have e0 : waitF s task i j = if mx.owner ≠ task then (([], 82, s) : List Int × Int × S8) else
    ((handF s j mx).1, 0, { (handF s j mx).2 with cs := s.cs.set i (xs ++ [⟨task, false, (j : Int)⟩]), wt := updF (handF s j mx).2.wt task (some (task, 7, (i : Int))) }) := by
    unfold waitF
    rw [if_neg (by simp [he]), Int.toNat_natCast, Int.toNat_natCast, hmx, hcx]
  have ht64 := ok64_task t0 t1
  obtain ⟨a, hd, ha, hhx, Qe, c0, c1⟩ := h3.mrow_at hmx
  have O := h3.obj
  rw [ha] at O
  have eti : ((i : Int)).toNat = i := by omega
  have etj : ((j : Int)).toNat = j := by omega
  refine onPtr_mk ⟨_, _, _, (O.cell 0).trans rfl, onPtr_mk ⟨by omega, by omega, _, c0, ?_⟩⟩
  rw [e0]
  refine bc (fun hne => ?_) (fun heq => ?_)
  · have hne : mx.owner ≠ task := by simpa using hne
    rw [if_pos hne]
    exact ⟨_, _, _, rfl, Woke.nil (h3.up (by omega) (by omega)) L03⟩
  have heq : ¬ (mx.owner ≠ task) := by simpa using heq
  rw [if_neg heq]
  refine onPtr_mk ⟨_, _, _, (O.cell 0).trans rfl, onPtr_mk ⟨by omega, by omega, ?_⟩⟩
  rw [etj]
  refine Calls.use (hand46 h3 hmx ha) ?_
  rintro _ w4 ⟨q, l, c, rfl, hr, h2, g4, I4, st4, hn⟩
  obtain ⟨ecs, eml, els, ens⟩ := handF_cs s j mx
  refine ⟨_, _, _, rfl, ?_⟩
  have kd := (Chg.refl none_ w4).drew
  have I5 := I4.chgN kd
  have stD : Stp o w4 g4 w4.drew g4 := Stp.ofN kd
  have st04 := L03.trans st4
  generalize w4.drew = W at *
  have hcx' : (handF s j mx).2.cs[i]? = some xs := by rw [ecs]; exact hcx
  have hil : i < (handF s j mx).2.cs.length := get_lt hcx'
  obtain ⟨b, hc, hb, hch, Qc, d0⟩ := I5.crow_at hcx'
  have O5 := I5.obj
  rw [hb] at O5
  have S5 := I5.cd
  rw [hb] at S5
  refine ⟨fun p => p.block = o ∨ p.block = b.block, onPtr_mk ⟨_, _, _, .inl (by rw [add_block]), (O5.cell0 2).trans rfl, onPtr_mk ⟨_, _, _, .inl (by rw [add_block]), (O5.cell0 2).trans rfl, onPtr_mk ⟨by omega, by omega, ?_⟩⟩⟩⟩
  rw [eti]
  obtain ⟨curB, BB⟩ := S5.blk (g := b.block) rfl
  have hKn : ∀ {w5 : World}, Chg none_ W w5 → Keeps (fun p => p.block = o ∨ p.block = b.block) W w5 := fun k p hp => k.cell (by
    rcases hp with hp | hp <;> rw [hp]
    · exact O5.lt
    · exact BB.lt) (fun x => x)
  refine ⟨_, _, _, .inr (by rw [add_block]), d0, newBox fun w5 B5 k5 _ => ⟨hKn k5, ?_⟩⟩
  have I6 := I5.chgN k5
  have hql : xs.length = hc.2.1 := Qc.len
  have hqN := wt_lt I5 (I5.cq_at hch hcx').2
  have hb5 : base ≤ w5.heap.size := Nat.le_trans I6.bo (Nat.le_of_lt I6.obj.lt)
  obtain ⟨q', c', w6, hrun, Q6, k6, hq6, _⟩ := (Qc.chgN k5).append1 (t := 95) (ty := 95) (x := ⟨task, false, (j : Int)⟩) elemWt B5 (by simp only [maxLen]; omega) (by show (hc.2.1 + 1) * 24 ≤ _; omega) hb5
  have P6 := (I6.toParts.turn (Qc.chgN k5) k6).cd
  rw [hb] at P6
  have S6 := I6.cd
  rw [hb] at S6
  refine ⟨_, _, _, w6, hrun, fun p hp => ?_, onPtr_mk ⟨by omega, by omega, ccan P6 hil, fun w7 e7 => ?_⟩⟩
  · rw [k6.cell ?_ ?_]
    · exact hKn k5 p hp
    · rcases hp with hp | hp <;> rw [hp]
      · exact I6.obj.lt
      · exact (k5.blk BB (fun x => x)).lt
    · rcases hp with hp | hp <;> rw [hp] <;> intro e
      · exact SE.ne (Qc.chgN k5) I6.obj (by decide) _ e.symm rfl
      · exact SE.ne (Qc.chgN k5) (k5.blk BB (fun x => x)) (by decide) _ e.symm rfl
  · obtain ⟨I7, st7⟩ := I6.cq (N' := N + 1) (Q' := Q + 1) hch hcx' (h1 := (q', hc.2.1 + 1, c')) k6 Q6 (hq6.imp id .inl) hb e7 (by simp; omega) (by simp; omega) (fun y hy => by
      rcases List.mem_append.1 hy with hy | hy
      · exact I5.ht xs (List.mem_of_getElem? (I5.cq_at hch hcx').2) y hy
      · simp at hy; subst hy; exact ht64) (fun y hy => by
      rcases List.mem_append.1 hy with hy | hy
      · exact I5.hc xs (List.mem_of_getElem? hcx') y hy
      · simp at hy; subst hy; exact ⟨by simp, by rw [eml]; exact m1⟩)
    refine Calls.use (wait45 I7 (by omega) ht64 7 i) ?_
    rintro _ w8 ⟨rfl, g8, I8, st8⟩
    have es : (handF s j mx).2.cs.set i (xs ++ [⟨task, false, (j : Int)⟩]) = s.cs.set i (xs ++ [⟨task, false, (j : Int)⟩]) := by rw [ecs]
    simp only [es] at I8
    exact ⟨rfl, _, _, _, rfl, Woke.then hr (fun b hb => ⟨Nat.le_trans k03.size (h2 b hb).1, (h2 b hb).2⟩) hn st04 (stD.trans ((Stp.ofN k5).trans (st7.trans st8))) I8⟩
end
end Full
end Go.Proofs.Ytibpbbjlecohiaa
