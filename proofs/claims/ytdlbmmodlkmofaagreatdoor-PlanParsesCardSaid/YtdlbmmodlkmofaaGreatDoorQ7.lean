import Derived.Test.YtdlbmmodlkmofaaGreatDoorQ6
set_option maxRecDepth 20000
namespace Go.Proofs.YtdlbmmodlkmofaaGreatDoor
open Go Go.Vc Go.RowKit
/-! # lines, read by the reference -/
theorem nFC : wFaultW ≠ wCrashW := by decide
theorem nFP : wFaultW ≠ wPageW := by decide
theorem nCP : wCrashW ≠ wPageW := by decide
theorem faultF_no {ws : List ByteArray} (h : wAt ws 0 ≠ wFaultW) : faultF ws = none := by rw [faultF, if_neg fun hh => h hh.2]
theorem crashF_no {ws : List ByteArray} (h : wAt ws 0 ≠ wCrashW) : crashF ws = none := by rw [crashF, if_neg fun hh => h hh.2]
theorem pageF_no {ws : List ByteArray} (h : wAt ws 0 ≠ wPageW) : pageF ws = none := by rw [pageF, if_neg fun hh => h hh.2]
theorem read_fault {fs : List T3} {cs : List Cr} {ws : List ByteArray} (h : wAt ws 0 = wFaultW) : readF fs cs ws = match faultF ws with
    | some f => if cs.length = 0 then some (fs ++ [f], cs) else none
    | none => none := by
  rw [readF, crashF_no (by rw [h]; exact nFC), pageF_no (by rw [h]; exact nFP)]
  cases faultF ws <;> rfl
theorem read_crash {fs : List T3} {cs : List Cr} {ws : List ByteArray} (h : wAt ws 0 = wCrashW) : readF fs cs ws = match crashF ws with
    | some k => some (fs, cs ++ [⟨k.1, k.2, []⟩])
    | none => none := by
  rw [readF, faultF_no (by rw [h]; exact nFC.symm), pageF_no (by rw [h]; exact nCP)]
  cases crashF ws <;> rfl
theorem read_page {fs : List T3} {cs : List Cr} {ws : List ByteArray} (h : wAt ws 0 = wPageW) : readF fs cs ws = match pageF ws with
    | some t => if cs.length = 0 then none else some (fs, setLast cs t)
    | none => none := by
  rw [readF, faultF_no (by rw [h]; exact nFP.symm), crashF_no (by rw [h]; exact nCP.symm)]
  cases pageF ws <;> rfl
theorem read_none {fs : List T3} {cs : List Cr} {ws : List ByteArray} (h1 : wAt ws 0 ≠ wFaultW) (h2 : wAt ws 0 ≠ wCrashW) (h3 : wAt ws 0 ≠ wPageW) : readF fs cs ws = none := by
  rw [readF, faultF_no h1, crashF_no h2, pageF_no h3]
/-- the number of an operation's word, as the reference finds it -/
def opR (s : ByteArray) : Nat → Nat
  | 0 => 0
  | k + 1 => if s = wd wOp ((k + 1 : Nat) : Int) then k + 1 else opR s k
theorem opR_wix (s : ByteArray) : opR s 4 = (wix wOp s 0).getD 0 := by
  have e1 : wd wOp ((0 + 1 : Nat) : Int) = bs [114, 101, 97, 100] := rfl
  have e2 : wd wOp ((1 + 1 : Nat) : Int) = bs [112, 114, 111, 103, 114, 97, 109] := rfl
  have e3 : wd wOp ((2 + 1 : Nat) : Int) = bs [101, 114, 97, 115, 101] := rfl
  have e4 : wd wOp ((3 + 1 : Nat) : Int) = bs [115, 121, 110, 99] := rfl
  simp only [opR, e1, e2, e3, e4]
  simp only [wOp, wix]
  by_cases h0 : bs [] = s
  · subst h0; decide
  by_cases h1 : bs [114, 101, 97, 100] = s
  · subst h1; decide
  by_cases h2 : bs [112, 114, 111, 103, 114, 97, 109] = s
  · subst h2; decide
  by_cases h3 : bs [101, 114, 97, 115, 101] = s
  · subst h3; decide
  by_cases h4 : bs [115, 121, 110, 99] = s
  · subst h4; decide
  rw [if_neg (Ne.symm h4), if_neg (Ne.symm h3), if_neg (Ne.symm h2), if_neg (Ne.symm h1), if_neg h0, if_neg h1, if_neg h2, if_neg h3, if_neg h4]; rfl
theorem wix_pos : ∀ {l : List ByteArray} {s : ByteArray} {k n : Nat}, wix l s k = some n → 0 < n
  | [], _, _, _, h => by simp [wix] at h
  | x :: xs, s, k, n, h => by
    rw [wix] at h
    split at h
    · split at h
      · cases h; assumption
      · cases h
    · exact wix_pos h
def kdR (s : ByteArray) : Nat := if s = bs [100, 111, 110, 101] then 2 else if s = bs [99, 108, 101, 97, 110] then 1 else 0
theorem kdR_wix (s : ByteArray) : kdR s = (wix wFault s 0).getD 0 := by
  simp only [kdR, wFault, wix]
  by_cases h0 : bs [] = s
  · subst h0; decide
  by_cases h1 : bs [99, 108, 101, 97, 110] = s
  · subst h1; decide
  by_cases h2 : bs [100, 111, 110, 101] = s
  · subst h2; decide
  rw [if_neg (Ne.symm h2), if_neg (Ne.symm h1), if_neg h0, if_neg h1, if_neg h2]; rfl
end Go.Proofs.YtdlbmmodlkmofaaGreatDoor
