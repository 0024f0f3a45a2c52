import Derived.Test.YtibpbbjlecohiaaLbQ
set_option maxRecDepth 20000
namespace Go.Proofs.Ytibpbbjlecohiaa
namespace Full
open Go Go.Vc Go.RowKit
/-! # who writes, writes alone -/
def LkOk (l : Lk) : Prop := 0 ≤ l.writer → l.readers = []
def WF (s : S8) : Prop := ∀ l ∈ s.ls, LkOk l
theorem WF.same {s s' : S8} (h : WF s) (e : s'.ls = s.ls) : WF s' := by unfold WF; rw [e]; exact h
theorem WF.set {s s' : S8} (h : WF s) {i : Nat} {l : Lk} (e : s'.ls = s.ls.set i l) (hl : LkOk l) : WF s' := by
  unfold WF
  rw [e]
  intro x hx
  rcases List.mem_or_eq_of_mem_set hx with hx | rfl
  · exact h x hx
  · exact hl
theorem give_ok {l l' : Lk} {x : Wt} (hm : mayF l x.write = true) (hr : l'.readers = l.readers) (hw : l'.writer = l.writer) : LkOk (giveF l' x) := by
  simp only [mayF, Bool.and_eq_true, Bool.or_eq_true, decide_eq_true_eq, beq_iff_eq, Bool.not_eq_true'] at hm
  unfold giveF
  split
  · rename_i hx
    intro _
    show l'.readers = []
    rw [hr]
    rcases hm.2 with h | h
    · rw [hx] at h; cases h
    · exact List.eq_nil_of_length_eq_zero h
  · intro h
    have h : 0 ≤ l'.writer := h
    rw [hw] at h
    omega
theorem passG_ok : ∀ (q : List Wt) (rs : List Int) (wr : Int), LkOk ⟨rs, wr, q⟩ → LkOk (passG rs wr q).2
  | [], rs, wr, h => h
  | x :: xs, rs, wr, h => by
    unfold passG
    split
    · rename_i hm
      have hg : LkOk (giveF ⟨rs, wr, xs⟩ x) := give_ok (l := ⟨rs, wr, x :: xs⟩) hm rfl rfl
      exact passG_ok xs _ _ hg
    · exact h
theorem passL_ok {l : Lk} (h : LkOk l) : LkOk (passL l).2 := passG_ok l.queue l.readers l.writer h
theorem lock_ls (s : S8) (task n : Int) : (lockF s task n).2.2.ls = s.ls ∧ (lockF s task n).2.2.ms.length = s.ms.length := by
  unfold lockF
  split
  · exact ⟨rfl, rfl⟩
  · split
    · exact ⟨rfl, rfl⟩
    · split
      · exact ⟨rfl, rfl⟩
      · split <;> simp
theorem unlock_ls (s : S8) (task n : Int) : (unlockF s task n).2.2.ls = s.ls ∧ (unlockF s task n).2.2.ms.length = s.ms.length := by
  unfold unlockF
  split
  · exact ⟨rfl, rfl⟩
  · split
    · exact ⟨rfl, rfl⟩
    · split
      · exact ⟨rfl, rfl⟩
      · rename_i m _ _
        exact ⟨(handF_cs s n.toNat m).2.2.1, (handF_cs s n.toNat m).2.1⟩
theorem wait_ls (s : S8) (task n m : Int) : (waitF s task n m).2.2.ls = s.ls ∧ (waitF s task n m).2.2.ms.length = s.ms.length := by
  unfold waitF
  split
  · exact ⟨rfl, rfl⟩
  · split
    · rename_i mx xs _ _
      split
      · exact ⟨rfl, rfl⟩
      · exact ⟨(handF_cs s m.toNat mx).2.2.1, (handF_cs s m.toNat mx).2.1⟩
    · exact ⟨rfl, rfl⟩
theorem let_ls (s : S8) (i : Nat) : (letS s i).2.ls = s.ls ∧ (letS s i).2.ms.length = s.ms.length := by
  unfold letS
  split
  · split
    · unfold letF; split <;> simp
    · exact ⟨rfl, rfl⟩
  · exact ⟨rfl, rfl⟩
theorem letN_ls : ∀ (k : Nat) (s : S8) (i : Nat), (letN k s i).2.ls = s.ls ∧ (letN k s i).2.ms.length = s.ms.length
  | 0, s, i => ⟨rfl, rfl⟩
  | k + 1, s, i => by
    obtain ⟨a, b⟩ := letN_ls k (letS s i).2 i
    obtain ⟨c, d⟩ := let_ls s i
    exact ⟨a.trans c, b.trans d⟩
theorem take_wf {s : S8} (h : WF s) (task n kind : Int) : WF (takeF s task n kind).2.2 ∧ (takeF s task n kind).2.2.ls.length = s.ls.length ∧ (takeF s task n kind).2.2.ms = s.ms := by
  unfold takeF
  split
  · exact ⟨h, rfl, rfl⟩
  · split
    · exact ⟨h, rfl, rfl⟩
    · rename_i m hm
      split
      · exact ⟨h, rfl, rfl⟩
      · split
        · rename_i hq
          exact ⟨h.set rfl (give_ok (x := ⟨task, kind == 5, 0⟩) hq.2 rfl rfl), by simp, rfl⟩
        · have hk := h m (List.mem_of_getElem? hm)
          exact ⟨h.set (s' := { s with ls := s.ls.set n.toNat ⟨m.readers, m.writer, m.queue ++ [⟨task, kind == 5, 0⟩]⟩, wt := updF s.wt task (some (task, kind, n)) }) rfl hk, by simp, rfl⟩
theorem run_wf {s : S8} (h : WF s) (task n : Int) : WF (runF s task n).2.2 ∧ (runF s task n).2.2.ls.length = s.ls.length ∧ (runF s task n).2.2.ms = s.ms := by
  unfold runF
  split
  · exact ⟨h, rfl, rfl⟩
  · split
    · exact ⟨h, rfl, rfl⟩
    · rename_i m hm
      split
      · exact ⟨h, rfl, rfl⟩
      · have hk := h m (List.mem_of_getElem? hm)
        refine ⟨h.set rfl (passL_ok fun hw => ?_), by simp [passS], rfl⟩
        have : m.readers = [] := hk hw
        show m.readers.take _ ++ m.readers.drop _ = []
        rw [this]; simp
theorem wun_wf {s : S8} (h : WF s) (task n : Int) : WF (wunF s task n).2.2 ∧ (wunF s task n).2.2.ls.length = s.ls.length ∧ (wunF s task n).2.2.ms = s.ms := by
  unfold wunF
  split
  · exact ⟨h, rfl, rfl⟩
  · split
    · exact ⟨h, rfl, rfl⟩
    · rename_i m hm
      split
      · exact ⟨h, rfl, rfl⟩
      · refine ⟨h.set rfl (passL_ok fun hw => ?_), by simp [passS], rfl⟩
        have hw : (0 : Int) ≤ -1 := hw
        omega
theorem does_wf {s : S8} (h : WF s) (task kind n m : Int) : WF (doesF s task kind n m).2 ∧ (doesF s task kind n m).2.ls.length = s.ls.length ∧ (doesF s task kind n m).2.ms.length = s.ms.length := by
  have f : ∀ {s' : S8}, s'.ls = s.ls ∧ s'.ms.length = s.ms.length → WF s' ∧ s'.ls.length = s.ls.length ∧ s'.ms.length = s.ms.length := fun e => ⟨h.same e.1, by rw [e.1], e.2⟩
  have f2 : ∀ {s' : S8}, WF s' ∧ s'.ls.length = s.ls.length ∧ s'.ms = s.ms → WF s' ∧ s'.ls.length = s.ls.length ∧ s'.ms.length = s.ms.length := fun e => ⟨e.1, e.2.1, by rw [e.2.2]⟩
  have hsig : (sigF s task n).2.2.ls = s.ls ∧ (sigF s task n).2.2.ms.length = s.ms.length := by
    unfold sigF; split
    · exact ⟨rfl, rfl⟩
    · exact let_ls s n.toNat
  have hbro : (broF s task n).2.2.ls = s.ls ∧ (broF s task n).2.2.ms.length = s.ms.length := by
    unfold broF; split
    · exact ⟨rfl, rfl⟩
    · exact letN_ls _ s n.toNat
  have hadd : (addF s task n m).2.2.ls = s.ls ∧ (addF s task n m).2.2.ms.length = s.ms.length := by
    unfold addF; split
    · exact ⟨rfl, rfl⟩
    · split <;> exact ⟨rfl, rfl⟩
  unfold doesF
  split
  · exact f (lock_ls s task n)
  split
  · exact f (unlock_ls s task n)
  split
  · exact f2 (take_wf h task n 3)
  split
  · exact f2 (run_wf h task n)
  split
  · exact f2 (take_wf h task n 5)
  split
  · exact f2 (wun_wf h task n)
  split
  · exact f (wait_ls s task n m)
  split
  · exact f hsig
  split
  · exact f hbro
  split
  · exact f hadd
  · exact f ⟨rfl, rfl⟩
end Full
end Go.Proofs.Ytibpbbjlecohiaa
