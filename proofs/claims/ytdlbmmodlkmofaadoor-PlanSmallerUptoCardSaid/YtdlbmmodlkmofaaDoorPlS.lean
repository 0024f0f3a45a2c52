import Derived.Test.YtdlbmmodlkmofaaDoorPlR
set_option maxRecDepth 20000
namespace Go.Proofs.YtdlbmmodlkmofaaDoor
open Go Go.Vc Go.RowKit
/-! # the plans with one thing less -/
def er {α : Type} (l : List α) (i : Nat) : List α := l.take i ++ l.drop (i + 1)
theorem er_len {α : Type} {l : List α} {i : Nat} (h : i < l.length) : (er l i).length = l.length - 1 := by
  unfold er
  rw [List.length_append, List.length_take, List.length_drop]; omega
def setF (c : Cr) (fs : List T3) : Cr := ⟨c.step, c.rest, fs⟩
def smF (p : Pn) (n : Nat) : List Pn := (List.range n).map fun i => ⟨er p.faults i, p.crashes⟩
def smC (p : Pn) (n : Nat) : List Pn := (List.range n).map fun i => ⟨p.faults, er p.crashes i⟩
def smK (p : Pn) (i : Nat) (c : Cr) (n : Nat) : List Pn := (List.range n).map fun k => ⟨p.faults, p.crashes.set i (setF c (er c.fates k))⟩
def smX (p : Pn) : Nat → List Pn
  | 0 => []
  | n + 1 => smX p n ++ match p.crashes[n]? with
    | some c => smK p n c c.fates.length
    | none => []
def smL (p : Pn) : List Pn := smF p p.faults.length ++ (smC p p.crashes.length ++ smX p p.crashes.length)
theorem smF_len (p : Pn) (n : Nat) : (smF p n).length = n := by simp [smF]
theorem smC_len (p : Pn) (n : Nat) : (smC p n).length = n := by simp [smC]
theorem smK_len (p : Pn) (i : Nat) (c : Cr) (n : Nat) : (smK p i c n).length = n := by simp [smK]
theorem smF_next (p : Pn) (n : Nat) : smF p (n + 1) = smF p n ++ [⟨er p.faults n, p.crashes⟩] := by unfold smF; rw [List.range_succ, List.map_append]; rfl
theorem smC_next (p : Pn) (n : Nat) : smC p (n + 1) = smC p n ++ [⟨p.faults, er p.crashes n⟩] := by unfold smC; rw [List.range_succ, List.map_append]; rfl
theorem smK_next (p : Pn) (i : Nat) (c : Cr) (n : Nat) : smK p i c (n + 1) = smK p i c n ++ [⟨p.faults, p.crashes.set i (setF c (er c.fates n))⟩] := by unfold smK; rw [List.range_succ, List.map_append]; rfl
theorem smX_next {p : Pn} {n : Nat} {c : Cr} (h : p.crashes[n]? = some c) : smX p (n + 1) = smX p n ++ smK p n c c.fates.length := by rw [smX, h]
theorem smX_pre (p : Pn) {n m : Nat} (h : n ≤ m) : ∃ r, smX p m = smX p n ++ r := by
  obtain ⟨d, rfl⟩ := Nat.exists_eq_add_of_le h
  clear h
  induction d with
  | zero => exact ⟨[], by simp⟩
  | succ d ih =>
    obtain ⟨r, hr⟩ := ih
    exact ⟨_, by rw [← Nat.add_assoc, smX, hr, List.append_assoc]⟩
theorem sm_len (p : Pn) : (smL p).length = p.faults.length + p.crashes.length + (smX p p.crashes.length).length := by
  unfold smL
  rw [List.length_append, List.length_append, smF_len, smC_len, Nat.add_assoc]
theorem sm_get1 {p : Pn} {i : Nat} (h : i < p.faults.length) : (smL p)[i]? = some ⟨er p.faults i, p.crashes⟩ := by
  unfold smL
  rw [List.getElem?_append_left (by rw [smF_len]; exact h)]
  simp [smF, h]
theorem sm_get2 {p : Pn} {i : Nat} (h : i < p.crashes.length) : (smL p)[p.faults.length + i]? = some ⟨p.faults, er p.crashes i⟩ := by
  unfold smL
  rw [List.getElem?_append_right (by rw [smF_len]; omega), smF_len, List.getElem?_append_left (by rw [smC_len]; omega), show p.faults.length + i - p.faults.length = i by omega]
  simp [smC, h]
theorem sm_get3 {p : Pn} {i k : Nat} {c : Cr} (hc : p.crashes[i]? = some c) (hk : k < c.fates.length) : (smL p)[p.faults.length + p.crashes.length + (smX p i).length + k]? = some ⟨p.faults, p.crashes.set i (setF c (er c.fates k))⟩ := by
  have hi := get_lt hc
  obtain ⟨r, hr⟩ := smX_pre p (n := i + 1) (m := p.crashes.length) hi
  unfold smL
  rw [List.getElem?_append_right (by rw [smF_len]; omega), smF_len, List.getElem?_append_right (by rw [smC_len]; omega), smC_len, hr, smX_next hc, List.append_assoc, List.getElem?_append_right (by omega)]
  rw [show p.faults.length + p.crashes.length + (smX p i).length + k - p.faults.length - p.crashes.length - (smX p i).length = k by omega, List.getElem?_append_left (by rw [smK_len]; exact hk)]
  simp [smK, hk]
theorem smX_sum (p : Pn) : ∀ n, n ≤ p.crashes.length → (smX p n).length = ((p.crashes.take n).map fun c => c.fates.length).sum
  | 0, _ => rfl
  | n + 1, h => by
    have hc : p.crashes[n]? = some p.crashes[n] := List.getElem?_eq_getElem (by omega)
    rw [smX_next hc, List.length_append, smK_len, smX_sum p n (by omega), List.take_add_one, hc, List.map_append, List.sum_append]
    simp only [Option.toList_some, List.map_cons, List.map_nil, List.sum_cons, List.sum_nil, Nat.add_zero]
theorem sm_sum (p : Pn) : (smL p).length = p.faults.length + p.crashes.length + (p.crashes.map fun c => c.fates.length).sum := by
  rw [sm_len, smX_sum p _ (Nat.le_refl _), List.take_length]
end Go.Proofs.YtdlbmmodlkmofaaDoor
