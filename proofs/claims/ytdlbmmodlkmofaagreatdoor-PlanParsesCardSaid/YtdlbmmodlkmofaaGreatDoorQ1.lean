import Derived.Test.YtdlbmmodlkmofaaGreatDoorPzY
set_option maxRecDepth 20000
namespace Go.Proofs.YtdlbmmodlkmofaaGreatDoor
open Go Go.Vc Go.RowKit
/-! # Parse of the program -/
def nl : ByteArray := ⟨#[10]⟩
def cutL (s : ByteArray) : ByteArray := ⟨(Lib.cut s.data.toList [10]).1.toArray⟩
def cutR (s : ByteArray) : ByteArray := ⟨(Lib.cut s.data.toList [10]).2.1.toArray⟩
def cutE (s : ByteArray) : Bool := (Lib.cut s.data.toList [10]).2.2
theorem idx_lt : ∀ l : List UInt8, 0 ≤ Lib.index l [10] → (Lib.index l [10]).toNat < l.length
  | [], h => by simp [Lib.index] at h
  | b :: l, h => by
    have ih := idx_lt l
    rw [Lib.index] at h ⊢
    split
    · simp
    · rename_i hp
      rw [if_neg hp] at h
      split
      · rename_i h1; rw [if_pos h1] at h; omega
      · rename_i h1
        rw [if_neg h1] at h
        have hge := Lib.index_ge l [10]
        have hne : ¬ Lib.index l [10] = -1 := fun e => h1 (by rw [e]; rfl)
        have := ih (by omega)
        simp only [List.length_cons]
        omega
theorem cut_sz {s : ByteArray} (h : cutE s = true) : (cutL s).size + (cutR s).size + 1 = s.size := by
  have hz := s_size s
  have hi : 0 ≤ Lib.index s.data.toList [10] := by
    unfold cutE Lib.cut at h
    by_cases h0 : 0 ≤ Lib.index s.data.toList [10]
    · exact h0
    · rw [if_neg h0] at h; cases h
  have hlt := idx_lt _ hi
  rw [s_size (cutL s), s_size (cutR s)]
  unfold cutL cutR Lib.cut
  rw [if_pos hi]
  simp only [List.length_take, List.length_drop, List.length_singleton]
  omega
theorem cut28 {w : World} (t : Tm w) (s : ByteArray) (hs : s.size < 4294967281) : Calls Tryz.prog 28 #[.string s, .string ⟨#[10]⟩] w (Ret fun v w' => v = .tuple #[.string (cutL s), .string (cutR s), .bool (cutE s)] ∧ Chg none_ w w') := by
  obtain ⟨m, hm⟩ := t
  refine (Tryz.strings_Cut s ⟨#[10]⟩ m w hs hm).mono ?_
  rintro _ _ ⟨rfl, k, rfl⟩
  exact ⟨_, rfl, rfl, ⟨rfl, by simp, rfl, by simp, fun k hk hn => by simp⟩⟩
/-- what is parsed of a text: the number of the line at fault, or a plan -/
def pT : Nat → ByteArray → List T3 → List Cr → Nat → Sum Nat (List T3 × List Cr)
  | 0, _, fs, cs, _ => .inr (fs, cs)
  | m + 1, s, fs, cs, n => if s.size = 0 then .inr (fs, cs) else if cutE s = false then .inl n else
    match readF fs cs (wordsF (cutL s)) with
    | none => .inl n
    | some p => pT m (cutR s) p.1 p.2 (n + 1)
/-- what Parse tells: the error, the line, the plan -/
def parseF (g : Gm) (s : ByteArray) : Int × Int × List T3 × List Cr :=
  if gC g ≠ 0 then (gC g, 0, [], []) else if 65536 < s.size then (3, 0, [], []) else
  match pT (s.size + 1) s [] [] 0 with
  | .inl n => (42, (n : Int), [], [])
  | .inr p => if chk g p.1 p.2 ≠ 0 then (chk g p.1 p.2, 0, [], []) else (0, 0, p.1, p.2)
/-- a plan told, with an error and a line -/
def PV (w : World) (r : Int × Int × List T3 × List Cr) (v : Value) : Prop := ∃ (q1 : Option Addr) (l1 c1 : Nat) (q2 : Option Addr) (l2 c2 : Nat), v = .tuple #[.agg #[.slice q1 l1 c1, .slice q2 l2 c2], .int .i64 r.1, .int .i64 r.2.1] ∧ RE En.t3 w q1 l1 r.2.2.1 ∧ CrsR w q2 l2 r.2.2.2 ∧ l1 ≤ 100000 ∧ l2 ≤ 100000
theorem PV.nil (w : World) (e l : Int) : PV w (e, l, [], []) (.tuple #[.agg #[.slice none 0 0, .slice none 0 0], .int .i64 e, .int .i64 l]) :=
  ⟨none, 0, 0, none, 0, 0, rfl, RE.nil _ _ _, ⟨[], RE.nil _ _ _, rfl, fun i h c hh => by simp at hh⟩, by decide, by decide⟩
end Go.Proofs.YtdlbmmodlkmofaaGreatDoor
