import Derived.Test.YtibpbbjlecohiaaLaE
set_option maxRecDepth 20000
namespace Go.Proofs.Ytibpbbjlecohiaa
open Go Go.Vc Go.RowKit
structure OpV where
  task : Int
  kind : Int
  n : Int
  m : Int
def En.op : En OpV := ⟨4, fun x => [.int .i64 x.task, .int .i64 x.kind, .int .i64 x.n, .int .i64 x.m], fun _ => rfl, fun _ v hv => by simp at hv; rcases hv with rfl | rfl | rfl | rfl <;> rfl, by decide⟩
theorem elemInt : ElemOk Try.prog 35 3 1 8 := ⟨Try.underlying35, .int .i64 0, by kernel_rfl, rfl⟩
def qOf (ms : List Mx) (j : Nat) : List Int := ((ms[j]?).map fun m => m.queue.map Wt.task).getD []
theorem qOf_at {ms : List Mx} {j : Nat} {m : Mx} (h : ms[j]? = some m) : qOf ms j = m.queue.map Wt.task := by rw [qOf, h]; rfl
theorem qOf_set {ms : List Mx} {i : Nat} (hi : i < ms.length) (x : Mx) (j : Nat) : qOf (ms.set i x) j = if i = j then x.queue.map Wt.task else qOf ms j := by
  by_cases h : i = j
  · subst h; rw [if_pos rfl, qOf_at (List.getElem?_set_self hi)]
  · rw [if_neg h, qOf, List.getElem?_set_ne h]; rfl
theorem lock_q (s : LS) (task n : Int) : (lockS s task n).2.2.ms.length = s.ms.length ∧
    (((lockS s task n).2.1 = 0 ∧ (lockS s task n).1 = false → 0 ≤ n ∧ n < s.ms.length ∧ ∀ j, qOf (lockS s task n).2.2.ms j = if n.toNat = j then qOf s.ms j ++ [task] else qOf s.ms j) ∧
     (¬ ((lockS s task n).2.1 = 0 ∧ (lockS s task n).1 = false) → ∀ j, qOf (lockS s task n).2.2.ms j = qOf s.ms j)) := by
  by_cases he : askE task n s.ms.length s.wt = 0
  · obtain ⟨t0, t1, n0, n1, hw⟩ := askE_ok he
    obtain ⟨m, hm⟩ := get_ex (l := s.ms) (i := n.toNat) (by omega)
    have hl := get_lt hm
    have e0 : lockS s task n = if m.owner = task then (false, 81, s) else if m.owner = -1 then (true, 0, ⟨s.ms.set n.toNat ⟨task, m.queue⟩, s.wt⟩) else (false, 0, ⟨s.ms.set n.toNat ⟨m.owner, m.queue ++ [⟨task, false, 0⟩]⟩, updF s.wt task (some (task, 1, n))⟩) := by
      rw [lockS, if_neg (by simp [he]), hm]
    rw [e0]
    split
    · exact ⟨rfl, fun h => by simp at h, fun _ j => rfl⟩
    · split
      · refine ⟨by simp, fun h => by simp at h, fun _ j => ?_⟩
        show qOf (s.ms.set n.toNat ⟨task, m.queue⟩) j = _
        rw [qOf_set hl]
        split
        · rename_i h; subst h; exact (qOf_at hm).symm
        · rfl
      · refine ⟨by simp, fun _ => ⟨n0, n1, fun j => ?_⟩, fun h => absurd ⟨rfl, rfl⟩ h⟩
        show qOf (s.ms.set n.toNat ⟨m.owner, m.queue ++ [⟨task, false, 0⟩]⟩) j = _
        rw [qOf_set hl]
        split
        · rename_i h; subst h; rw [qOf_at hm]; simp
        · rfl
  · have e0 : lockS s task n = (false, askE task n s.ms.length s.wt, s) := by rw [lockS, if_pos he]
    rw [e0]
    exact ⟨rfl, fun h => absurd h.1 he, fun _ j => rfl⟩
theorem unlock_q (s : LS) (task n : Int) : (unlockS s task n).2.2.ms.length = s.ms.length ∧ ((unlockS s task n).2.1 ≠ 0 → (unlockS s task n).2.2 = s) ∧
    ((unlockS s task n).2.1 = 0 → 0 ≤ n ∧ n < s.ms.length ∧ (qOf s.ms n.toNat = [] ∧ (unlockS s task n).1 = [] ∧ (∀ j, qOf (unlockS s task n).2.2.ms j = qOf s.ms j) ∨
      ∃ x xs, qOf s.ms n.toNat = x :: xs ∧ (unlockS s task n).1 = [x] ∧ ∀ j, qOf (unlockS s task n).2.2.ms j = if n.toNat = j then xs else qOf s.ms j)) := by
  by_cases he : askE task n s.ms.length s.wt = 0
  · obtain ⟨t0, t1, n0, n1, hw⟩ := askE_ok he
    obtain ⟨m, hm⟩ := get_ex (l := s.ms) (i := n.toNat) (by omega)
    have hl := get_lt hm
    have e0 : unlockS s task n = if m.owner ≠ task then (([], 82, s) : List Int × Int × LS) else match m.queue with
      | [] => ([], 0, ⟨s.ms.set n.toNat ⟨-1, []⟩, s.wt⟩)
      | x :: xs => ([x.task], 0, ⟨s.ms.set n.toNat ⟨x.task, xs⟩, updF s.wt x.task none⟩) := by
      unfold unlockS
      rw [if_neg (by simp [he]), hm]
      rfl
    rw [e0]
    by_cases ho : m.owner ≠ task
    · rw [if_pos ho]
      exact ⟨rfl, fun _ => rfl, fun h => by simp at h⟩
    · rw [if_neg ho]
      cases hq : m.queue with
      | nil =>
        have hq0 : qOf s.ms n.toNat = [] := by rw [qOf_at hm, hq]; rfl
        refine ⟨by simp, fun h => absurd rfl h, fun _ => ⟨n0, n1, .inl ⟨hq0, rfl, fun j => ?_⟩⟩⟩
        show qOf (s.ms.set n.toNat ⟨-1, []⟩) j = _
        rw [qOf_set hl]
        split
        · rename_i h; subst h; exact hq0.symm
        · rfl
      | cons x xs =>
        refine ⟨by simp, fun h => absurd rfl h, fun _ => ⟨n0, n1, .inr ⟨x.task, xs.map Wt.task, by rw [qOf_at hm, hq]; rfl, rfl, fun j => ?_⟩⟩⟩
        show qOf (s.ms.set n.toNat ⟨x.task, xs⟩) j = _
        rw [qOf_set hl]
  · have e0 : unlockS s task n = ([], askE task n s.ms.length s.wt, s) := by rw [unlockS, if_pos he]
    rw [e0]
    exact ⟨rfl, fun _ => rfl, fun h => absurd h he⟩
/-- the law's queues are the mutexes' -/
def Rel (ms : List Mx) (qs : List (List Int)) : Prop := qs.length = 64 ∧ ∀ j, j < 64 → qs[j]? = some (qOf ms j)
theorem Rel.same {ms ms' : List Mx} {qs : List (List Int)} (h : Rel ms qs) (e : ∀ j, qOf ms' j = qOf ms j) : Rel ms' qs := ⟨h.1, fun j hj => by rw [h.2 j hj, e j]⟩
theorem Rel.set {ms ms' : List Mx} {qs : List (List Int)} (h : Rel ms qs) {i : Nat} {ys : List Int} (hi : i < 64) (e : ∀ j, qOf ms' j = if i = j then ys else qOf ms j) : Rel ms' (qs.set i ys) := by
  refine ⟨by simp [h.1], fun j hj => ?_⟩
  rw [e j]
  by_cases hij : i = j
  · subst hij; rw [if_pos rfl, List.getElem?_set_self (by rw [h.1]; exact hi)]
  · rw [if_neg hij, List.getElem?_set_ne hij]; exact h.2 j hj
end Go.Proofs.Ytibpbbjlecohiaa
