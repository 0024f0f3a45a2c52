import Derived.Test.YtdlbmmodlkmofaaGreatDoorQ3
set_option maxRecDepth 20000
namespace Go.Proofs.YtdlbmmodlkmofaaGreatDoor
open Go Go.Vc Go.RowKit
theorem wixOp : ∀ i : Fin 5, 0 < i.1 → wix wOp (wd wOp (i.1 : Nat)) 0 = some i.1 := by decide
theorem wixFault : ∀ i : Fin 3, 0 < i.1 → wix wFault (wd wFault (i.1 : Nat)) 0 = some i.1 := by decide
theorem wixFate : ∀ i : Fin 4, 0 < i.1 → wix wFate (wd wFate (i.1 : Nat)) 0 = some i.1 := by decide
theorem wixFate3 : ∀ i : Fin 3, 0 < i.1 → wix (wFate.take 3) (wd wFate (i.1 : Nat)) 0 = some i.1 := by decide
theorem nW_list (n : Int) : (nW n).data.toList = Lib.decDigits n.toNat := by simp [nW]
theorem numW {n : Int} (h : 0 ≤ n ∧ n ≤ 2147483647) : numF (nW n).data.toList = some n.toNat := by rw [nW_list]; exact numF_dec (by omega)
theorem faultF_ln {f : T3} (h : Vf f) : faultF (lnF f) = some f := by
  have h1 := h.op; have h2 := h.nth; have h3 := h.kind
  have e1 := wixOp ⟨f.1.toNat, by omega⟩ (by show 0 < f.1.toNat; omega)
  have e3 := wixFault ⟨f.2.2.toNat, by omega⟩ (by show 0 < f.2.2.toNat; omega)
  have i1 : ((f.1.toNat : Nat) : Int) = f.1 := by omega
  have i3 : ((f.2.2.toNat : Nat) : Int) = f.2.2 := by omega
  simp only [i1] at e1
  simp only [i3] at e3
  have e2 := numW (n := f.2.1) (by omega)
  rw [faultF, if_pos ⟨rfl, rfl⟩]
  show (match wix wOp (wd wOp f.1) 0, numF (nW f.2.1).data.toList, wix wFault (wd wFault f.2.2) 0 with
    | some a, some n, some k => some ((a : Int), (n : Int), (k : Int))
    | _, _, _ => none) = some f
  rw [e1, e2, e3]
  simp only [i1, i3, show ((f.2.1.toNat : Nat) : Int) = f.2.1 by omega]
theorem crashF_ln {c : Cr} (h : Vk c) : faultF (lnC c) = none ∧ crashF (lnC c) = some (c.step, c.rest) := by
  have h1 := h.step; have h3 := h.rest
  have e3 := wixFate3 ⟨c.rest.toNat, by omega⟩ (by show 0 < c.rest.toNat; omega)
  have i3 : ((c.rest.toNat : Nat) : Int) = c.rest := by omega
  simp only [i3] at e3
  have e2 := numW (n := c.step) (by omega)
  refine ⟨by rw [faultF, if_neg (fun hh => by cases hh.1)], ?_⟩
  rw [crashF, if_pos ⟨rfl, rfl⟩]
  show (match numF (nW c.step).data.toList, wix (wFate.take 3) (wd wFate c.rest) 0 with
    | some n, some k => some ((n : Int), (k : Int))
    | _, _ => none) = some (c.step, c.rest)
  rw [e2, e3]
  simp only [i3, show ((c.step.toNat : Nat) : Int) = c.step by omega]
theorem pageF_ln {t : T3} (h : Vt t) : faultF (lnT t) = none ∧ crashF (lnT t) = none ∧ pageF (lnT t) = some t := by
  have h1 := h.page; have h3 := h.kind; have h4 := h.at'
  have e3 := wixFate ⟨t.2.1.toNat, by omega⟩ (by show 0 < t.2.1.toNat; omega)
  have i3 : ((t.2.1.toNat : Nat) : Int) = t.2.1 := by omega
  simp only [i3] at e3
  have e2 := numW (n := t.1) h1
  have e4 := numW (n := t.2.2) h4
  have w0 : wAt (lnT t) 0 = wPageW := rfl
  have n1 : wPageW ≠ wFaultW := by decide
  have n2 : wPageW ≠ wCrashW := by decide
  refine ⟨by rw [faultF, if_neg (fun hh => n1 (w0 ▸ hh.2))], by rw [crashF, if_neg (fun hh => n2 (w0 ▸ hh.2))], ?_⟩
  by_cases hk : t.2.1 = 3
  · have el : lnT t = [bs [112, 97, 103, 101], nW t.1, wd wFate t.2.1, nW t.2.2] := by rw [lnT, if_pos hk]; rfl
    rw [el, pageF, if_pos ⟨by show 3 ≤ 4; decide, rfl⟩]
    show (match numF (nW t.1).data.toList, wix wFate (wd wFate t.2.1) 0 with
      | some n, some k => if k = 3 then (if (4 : Nat) = 4 then (match numF (nW t.2.2).data.toList with | some a => some ((n : Int), (k : Int), (a : Int)) | none => none) else none) else (if (4 : Nat) = 3 then some ((n : Int), (k : Int), 0) else none)
      | _, _ => none) = some t
    rw [e2, e3, e4]
    simp only [i3, show ((t.1.toNat : Nat) : Int) = t.1 by omega, show ((t.2.2.toNat : Nat) : Int) = t.2.2 by omega, if_pos (show t.2.1.toNat = 3 by omega), if_true]
  · have el : lnT t = [bs [112, 97, 103, 101], nW t.1, wd wFate t.2.1] := by rw [lnT, if_neg hk]; rfl
    have hz := h.z hk
    rw [el, pageF, if_pos ⟨by show 3 ≤ 3; decide, rfl⟩]
    show (match numF (nW t.1).data.toList, wix wFate (wd wFate t.2.1) 0 with
      | some n, some k => if k = 3 then (if (3 : Nat) = 4 then (match numF (bs []).data.toList with | some a => some ((n : Int), (k : Int), (a : Int)) | none => none) else none) else (if (3 : Nat) = 3 then some ((n : Int), (k : Int), 0) else none)
      | _, _ => none) = some t
    rw [e2, e3]
    simp only [i3, show ((t.1.toNat : Nat) : Int) = t.1 by omega, if_neg (show ¬ t.2.1.toNat = 3 by omega), if_true]
    rw [← hz]
/-! ## line by line -/
theorem pT_line {ws : List ByteArray} (hne : ws ≠ []) (hw : ∀ x ∈ ws, Wd x.data.toList) (r : List UInt8) (m n : Nat) (fs : List T3) (cs : List Cr) :
    pT (m + 1) ⟨(lineOf ws ++ r).toArray⟩ fs cs n = match readF fs cs ws with | none => .inl n | some p => pT m ⟨r.toArray⟩ p.1 p.2 (n + 1) := by
  have hl : (⟨(lineOf ws ++ r).toArray⟩ : ByteArray).data.toList = joinW ws ++ 10 :: r := by simp [lineOf, joinW]
  have hcut := cut_line (l := joinW ws) (r := r) (wd_join ws hw)
  have hE : cutE ⟨(lineOf ws ++ r).toArray⟩ = true := by rw [cutE, hl, hcut]
  have hL : cutL ⟨(lineOf ws ++ r).toArray⟩ = ⟨(joinW ws).toArray⟩ := by rw [cutL, hl, hcut]
  have hR : cutR ⟨(lineOf ws ++ r).toArray⟩ = ⟨r.toArray⟩ := by rw [cutR, hl, hcut]
  have hW : wordsF ⟨(joinW ws).toArray⟩ = ws := by
    obtain ⟨h1, h2⟩ := split_words ws hne hw ⟨(joinW ws).toArray⟩ (by simp)
    rw [wordsF, show Lib.countB ⟨(joinW ws).toArray⟩ ⟨#[32]⟩ = ws.length - 1 by omega]; exact h2
  have hz : ¬ (⟨(lineOf ws ++ r).toArray⟩ : ByteArray).size = 0 := by rw [s_size, hl]; simp
  rw [pT, if_neg hz, hE, if_neg (by decide), hL, hR, hW]
  rfl
end Go.Proofs.YtdlbmmodlkmofaaGreatDoor
