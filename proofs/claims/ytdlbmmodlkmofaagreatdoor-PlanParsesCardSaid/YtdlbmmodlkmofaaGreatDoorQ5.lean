import Derived.Test.YtdlbmmodlkmofaaGreatDoorQ4
set_option maxRecDepth 20000
namespace Go.Proofs.YtdlbmmodlkmofaaGreatDoor
open Go Go.Vc Go.RowKit
theorem wd_wd {l : List ByteArray} (h : ∀ x ∈ l, Wd x.data.toList) (i : Int) : Wd (wd l i).data.toList := by
  unfold wd
  cases hx : l[i.toNat]? with
  | none => intro b hb; simp [bs] at hb
  | some x => exact h x (List.mem_of_getElem? hx)
theorem wdOp : ∀ x ∈ wOp, Wd x.data.toList := by
  intro x hx
  simp only [wOp, List.mem_cons, List.not_mem_nil, or_false] at hx
  rcases hx with rfl | rfl | rfl | rfl | rfl <;> exact wd_of (by decide)
theorem wdFault : ∀ x ∈ wFault, Wd x.data.toList := by
  intro x hx
  simp only [wFault, List.mem_cons, List.not_mem_nil, or_false] at hx
  rcases hx with rfl | rfl | rfl <;> exact wd_of (by decide)
theorem wdFate : ∀ x ∈ wFate, Wd x.data.toList := by
  intro x hx
  simp only [wFate, List.mem_cons, List.not_mem_nil, or_false] at hx
  rcases hx with rfl | rfl | rfl | rfl <;> exact wd_of (by decide)
theorem wd_lnF (f : T3) : ∀ x ∈ lnF f, Wd x.data.toList := by
  intro x hx
  simp only [lnF, List.mem_cons, List.not_mem_nil, or_false] at hx
  rcases hx with rfl | rfl | rfl | rfl
  · exact wd_of (by decide)
  · exact wd_wd wdOp _
  · exact wd_nW _
  · exact wd_wd wdFault _
theorem wd_lnC (c : Cr) : ∀ x ∈ lnC c, Wd x.data.toList := by
  intro x hx
  simp only [lnC, List.mem_cons, List.not_mem_nil, or_false] at hx
  rcases hx with rfl | rfl | rfl
  · exact wd_of (by decide)
  · exact wd_nW _
  · exact wd_wd wdFate _
theorem wd_lnT (t : T3) : ∀ x ∈ lnT t, Wd x.data.toList := by
  intro x hx
  unfold lnT at hx
  rcases List.mem_append.1 hx with hx | hx
  · simp only [lnT3, List.mem_cons, List.not_mem_nil, or_false] at hx
    rcases hx with rfl | rfl | rfl
    · exact wd_of (by decide)
    · exact wd_nW _
    · exact wd_wd wdFate _
  · split at hx
    · rw [List.mem_singleton.1 hx]; exact wd_nW _
    · simp at hx
theorem lnT_ne (t : T3) : lnT t ≠ [] := by unfold lnT lnT3; simp
theorem lineOf_pos (ws : List ByteArray) : 1 ≤ (lineOf ws).length := by simp [lineOf]
theorem pT_F : ∀ (fs2 fs1 : List T3) (r : List UInt8) (m n k : Nat), (∀ f ∈ fs2, Vf f) → (txF fs2).length + k ≤ m → ∃ m' n', k ≤ m' ∧ pT m ⟨(txF fs2 ++ r).toArray⟩ fs1 [] n = pT m' ⟨r.toArray⟩ (fs1 ++ fs2) [] n'
  | [], fs1, r, m, n, k, _, hk => ⟨m, n, by omega, by simp [txF]⟩
  | f :: fs2, fs1, r, m, n, k, h, hk => by
    have hp := lineOf_pos (lnF f)
    have e : txF (f :: fs2) = lineOf (lnF f) ++ txF fs2 := by simp [txF]
    rw [e, List.length_append] at hk
    obtain ⟨m, rfl⟩ : ∃ m', m = m' + 1 := ⟨m - 1, by omega⟩
    obtain ⟨m', n', h1, h2⟩ := pT_F fs2 (fs1 ++ [f]) r m (n + 1) k (fun x hx => h x (by simp [hx])) (by omega)
    refine ⟨m', n', h1, ?_⟩
    rw [e, List.append_assoc, pT_line (by simp [lnF]) (wd_lnF f), readF, faultF_ln (h f (by simp))]
    simp only [List.length_nil, if_true]
    rw [h2]; simp
theorem setLast_app (cs : List Cr) (c : Cr) (t : T3) : setLast (cs ++ [c]) t = cs ++ [⟨c.step, c.rest, c.fates ++ [t]⟩] := by
  have e : (cs ++ [c]).length - 1 = cs.length := by simp
  rw [setLast, e, List.getElem?_append_right (Nat.le_refl _), Nat.sub_self]
  simp
theorem pT_T : ∀ (ts : List T3) (fs : List T3) (cs : List Cr) (c : Cr) (r : List UInt8) (m n k : Nat), (∀ t ∈ ts, Vt t) → (txT ts).length + k ≤ m → ∃ m' n', k ≤ m' ∧ pT m ⟨(txT ts ++ r).toArray⟩ fs (cs ++ [c]) n = pT m' ⟨r.toArray⟩ fs (cs ++ [⟨c.step, c.rest, c.fates ++ ts⟩]) n'
  | [], fs, cs, c, r, m, n, k, _, hk => ⟨m, n, by omega, by simp [txT]⟩
  | t :: ts, fs, cs, c, r, m, n, k, h, hk => by
    have hp := lineOf_pos (lnT t)
    have e : txT (t :: ts) = lineOf (lnT t) ++ txT ts := by simp [txT]
    rw [e, List.length_append] at hk
    obtain ⟨m, rfl⟩ : ∃ m', m = m' + 1 := ⟨m - 1, by omega⟩
    obtain ⟨m', n', h1, h2⟩ := pT_T ts fs cs ⟨c.step, c.rest, c.fates ++ [t]⟩ r m (n + 1) k (fun x hx => h x (by simp [hx])) (by omega)
    obtain ⟨g1, g2, g3⟩ := pageF_ln (h t (by simp))
    refine ⟨m', n', h1, ?_⟩
    rw [e, List.append_assoc, pT_line (lnT_ne t) (wd_lnT t), readF, g1, g2, g3]
    simp only
    rw [if_neg (by simp), setLast_app]
    simp only
    rw [h2]; simp
theorem pT_C : ∀ (cs2 cs1 : List Cr) (fs : List T3) (r : List UInt8) (m n k : Nat), (∀ c ∈ cs2, Vk c) → (txC cs2).length + k ≤ m → ∃ m' n', k ≤ m' ∧ pT m ⟨(txC cs2 ++ r).toArray⟩ fs cs1 n = pT m' ⟨r.toArray⟩ fs (cs1 ++ cs2) n'
  | [], cs1, fs, r, m, n, k, _, hk => ⟨m, n, by omega, by simp [txC]⟩
  | c :: cs2, cs1, fs, r, m, n, k, h, hk => by
    have hp := lineOf_pos (lnC c)
    have e : txC (c :: cs2) = lineOf (lnC c) ++ (txT c.fates ++ txC cs2) := by simp [txC]
    rw [e, List.length_append, List.length_append] at hk
    obtain ⟨m, rfl⟩ : ∃ m', m = m' + 1 := ⟨m - 1, by omega⟩
    have hc := h c (by simp)
    obtain ⟨g1, g2⟩ := crashF_ln hc
    obtain ⟨m1, n1, h1, h2⟩ := pT_T c.fates fs cs1 ⟨c.step, c.rest, []⟩ (txC cs2 ++ r) m (n + 1) ((txC cs2).length + k) hc.fates (by omega)
    obtain ⟨m2, n2, h3, h4⟩ := pT_C cs2 (cs1 ++ [c]) fs r m1 n1 k (fun x hx => h x (by simp [hx])) h1
    refine ⟨m2, n2, h3, ?_⟩
    rw [e, List.append_assoc, List.append_assoc, pT_line (by simp [lnC]) (wd_lnC c), readF, g1, g2]
    simp only
    rw [h2]
    simp only [List.nil_append]
    rw [h4]; simp
/-- Parse of what Print prints -/
theorem parse_plan {g : Gm} {fs : List T3} {cs : List Cr} (h : chk g fs cs = 0) (hz : (planT fs cs).length ≤ 65536) : parseF g (bs (planT fs cs)) = (0, 0, fs, cs) := by
  have V := vp_of h
  have hg : gC g = 0 := by
    unfold chk at h
    by_cases hg : gC g ≠ 0
    · rw [if_pos hg] at h; exact absurd h hg
    · omega
  have hs : (bs (planT fs cs)).size = (planT fs cs).length := by rw [s_size]
  rw [parseF, if_neg (by omega), if_neg (by omega), hs]
  have hl : (planT fs cs).length = (txF fs).length + (txC cs).length := by simp [planT]
  obtain ⟨m1, n1, h1, h2⟩ := pT_F fs [] (txC cs) ((planT fs cs).length + 1) 0 ((txC cs).length + 1) V.f (by omega)
  obtain ⟨m2, n2, h3, h4⟩ := pT_C cs [] fs [] m1 n1 1 V.c h1
  have e : pT ((planT fs cs).length + 1) (bs (planT fs cs)) [] [] 0 = .inr (fs, cs) := by
    have h2' : pT ((planT fs cs).length + 1) (bs (planT fs cs)) [] [] 0 = pT m1 ⟨(txC cs).toArray⟩ ([] ++ fs) [] n1 := h2
    rw [List.append_nil] at h4
    rw [h2', List.nil_append, h4, List.nil_append]
    obtain ⟨m, rfl⟩ : ∃ m', m2 = m' + 1 := ⟨m2 - 1, by omega⟩
    rw [pT, if_pos (show (⟨#[]⟩ : ByteArray).size = 0 from rfl)]
  rw [e]
  simp only
  rw [if_neg (by omega)]
end Go.Proofs.YtdlbmmodlkmofaaGreatDoor
