import Derived.Test.YtdlbmmodlkmofaaGreatDoorPzD
set_option maxRecDepth 20000
namespace Go.Proofs.YtdlbmmodlkmofaaGreatDoor
open Go Go.Vc Go.RowKit
/-! # the text that a builder holds -/
def Bd (b : Nat) (txt : List UInt8) (w : World) : Prop := Lib.IsBuilderF 55 5 b b (Lib.byteCells txt) w
theorem Bd.lt {b : Nat} {txt : List UInt8} {w : World} (h : Bd b txt w) : b < w.heap.size := by
  rcases h with h | h
  · exact h.lt
  · exact h.lt
theorem Bd.chg {b : Nat} {txt : List UInt8} {w w' : World} (h : Bd b txt w) (c : Chg none_ w w') : Bd b txt w' := by
  have g : w.grownBy w' none := ⟨c.os, c.tape, c.output, c.size, fun k hk _ => c.block k hk (fun x => x)⟩
  have one : ∀ p, Lib.BuilderAtF 55 5 b b p (Lib.byteCells txt) w → Lib.BuilderAtF 55 5 b b p (Lib.byteCells txt) w' := fun p h => by
    have hlt := h.lt
    obtain ⟨hB, v, hb, hown, hne⟩ := h
    refine ⟨hB, v, (c.block b hlt (fun x => x)).trans hb, hown.kept g ?_, hne⟩
    cases hv : v.ownBlock with
    | none => exact .inl rfl
    | some k => exact .inr (by simp)
  rcases h with h | h
  · exact .inl (one _ h)
  · exact .inr (one _ h)
/-- what a line leaves as it was: the blocks below the builder's, and those of no bytes -/
structure Kp (b : Nat) (w w' : World) : Prop where
  below : Below b w w'
  others : Lib.OthersKept 5 (some b) w w'
theorem Kp.of {b : Nat} {w w' : World} (c : Chg none_ w w') (hb : b ≤ w.heap.size) : Kp b w w' :=
  ⟨⟨c.os, c.tape, c.output, c.size, fun k hk => c.block k (by omega) (fun x => x)⟩, fun k o hk _ _ => (c.block k (by
    rcases Nat.lt_or_ge k w.heap.size with h | h
    · exact h
    · rw [Array.getElem?_eq_none h] at hk; cases hk) (fun x => x)).trans hk⟩
theorem Kp.trans {b : Nat} {w w' w'' : World} (h : Kp b w w') (k : Kp b w' w'') : Kp b w w'' := ⟨h.below.trans k.below, h.others.trans k.others⟩
theorem Kp.blk {b : Nat} {w w' : World} (h : Kp b w w') {k : Nat} {t : TypeId} {cs : Array Value} (hb : Blk w k t cs) (hk : k ≠ b) (ht : t ≠ 5) : Blk w' k t cs :=
  h.others k _ hb (fun e => hk (Option.some.inj e)) (fun c fz e => by cases e; exact ht rfl)
theorem Kp.chg {b : Nat} {w0 w w' : World} (h : Kp b w w') (c : Chg none_ w0 w) (hb : w0.heap.size ≤ b) : Chg none_ w0 w' :=
  ⟨h.below.os.trans c.os, h.below.tape.trans c.tape, h.below.output.trans c.output, Nat.le_trans c.size h.below.size, fun k hk _ => (h.below.block k (by omega)).trans (c.block k hk (fun x => x))⟩
def lineOf (ws : List ByteArray) : List UInt8 := Lib.join (ws.map (·.data.toList)) [32] ++ [10]
theorem byteCells_app (a b : List UInt8) : Lib.byteCells (a ++ b) = Lib.byteCells a ++ Lib.byteCells b := by simp [Lib.byteCells]
theorem byteCells_len (a : List UInt8) : (Lib.byteCells a).length = a.length := by simp [Lib.byteCells]
theorem line66 {b bk o l c : Nat} {txt : List UInt8} {w : World} {ws : List ByteArray} (h : Bd b txt w) (hr : RE En.str w (some ⟨bk, o, none⟩) l ws) (hbk : bk < w.heap.size) (hlc : l ≤ c) (hl : l ≤ 1000) (ht : txt.length + (lineOf ws).length ≤ 1000000) :
    Calls Tryz.prog 15 #[.slice (some ⟨bk, o, none⟩) l c, .pointer (some ⟨b, 0, none⟩)] w (Ret fun v w' => v = .tuple #[] ∧ Bd b (txt ++ lineOf ws) w' ∧ Kp b w w') := by
  refine f15.calls _ _ _ _ ?_
  unfold f15.wp
  have hlen := hr.len
  have hcells : ∀ (j : Nat) x, ws[j]? = some x → w.cell? ⟨bk, o + j, none⟩ = some (.string x) := fun j x hx => by
    obtain ⟨a, y, ha, hy, hrd⟩ := hr.ex (i := j) (by have := get_lt hx; omega)
    cases ha
    rw [hx] at hy; cases hy
    have := reads_one' hrd
    rw [add_mk] at this
    have h1 : j * En.str.k = j := Nat.mul_one j
    rw [h1] at this
    exact this
  have hjl : (lineOf ws).length = (Lib.join (ws.map (·.data.toList)) [32]).length + 1 := by simp [lineOf]
  have J := Tryz.strings_Join bk o c ws ⟨#[32]⟩ w hcells hbk (by omega) (by omega) (by show (Lib.join (ws.map (·.data.toList)) [32]).length ≤ _; omega)
  rw [hlen] at J
  refine J.mono ?_
  rintro e w1 ⟨rfl, hbelow⟩
  have k1 : Chg none_ w w1 := Chg.of_below hbelow _
  refine ⟨_, rfl, _, _, run_cat (by show (Lib.join (ws.map (·.data.toList)) [32]).length + 1 ≤ _; omega), ?_⟩
  have hb1 := h.chg k1
  have hs : ((⟨(Lib.join (ws.map (·.data.toList)) [32]).toArray⟩ : ByteArray) ++ (⟨#[10]⟩ : ByteArray)) = ⟨(lineOf ws).toArray⟩ := by
    apply ByteArray.ext
    show _ = (lineOf ws).toArray
    simp [lineOf]
  have : Lib.join (ws.map (·.data.toList)) (⟨#[32]⟩ : ByteArray).data.toList = Lib.join (ws.map (·.data.toList)) [32] := rfl
  rw [this, hs]
  refine (writeStr b b (Lib.byteCells txt) ⟨(lineOf ws).toArray⟩ w1 hb1 (by rw [byteCells_len]; show txt.length + (lineOf ws).length ≤ _; omega) (Nat.le_of_lt hb1.lt)).mono ?_
  rintro e w2 ⟨rfl, hB, hbl, hok⟩
  refine ⟨_, _, rfl, rfl, ?_, (Kp.of k1 (Nat.le_of_lt h.lt)).trans ⟨hbl, hok⟩⟩
  have e : Lib.strCells ⟨(lineOf ws).toArray⟩ = Lib.byteCells (lineOf ws) := rfl
  rw [e, ← byteCells_app] at hB
  exact .inr hB
theorem litStrs {w w1 : World} {xs : List ByteArray} {cs : Array Value} (e : w1 = w.alloc (.cells cs 9)) (h : cs = (xs.map .string).toArray) : RE En.str w1 (some ⟨w.heap.size, 0, none⟩) xs.length xs := by
  refine RE.of_flat rfl ?_
  have B := new_blk e
  have : ∀ xs : List ByteArray, En.str.flat xs = xs.map .string := fun xs => by
    induction xs with
    | nil => rfl
    | cons x xs ih => simp only [En.flat] at ih ⊢; rw [List.flatMap_cons, ih]; rfl
  rw [this]
  rw [h] at B
  exact B.reads0
theorem strEqB {a b : List UInt8} {r : Bool} (h : (a == b) = r) : ((⟨a.toArray⟩ : ByteArray).toList == (⟨b.toArray⟩ : ByteArray).toList) = r := by
  rw [ByteArray.toList_eq, ByteArray.toList_eq]; exact h
/-! # words -/
abbrev bs (l : List UInt8) : ByteArray := ⟨l.toArray⟩
def wOp : List ByteArray := [bs [], bs [114, 101, 97, 100], bs [112, 114, 111, 103, 114, 97, 109], bs [101, 114, 97, 115, 101], bs [115, 121, 110, 99]]
def wFault : List ByteArray := [bs [], bs [99, 108, 101, 97, 110], bs [100, 111, 110, 101]]
def wFate : List ByteArray := [bs [], bs [107, 101, 112, 116], bs [108, 111, 115, 116], bs [116, 111, 114, 110]]
theorem words_op (w : World) : Calls Tryz.prog 18 #[.string (bs [111, 112])] w (Ret fun v w' => v = .slice (some (ad w.heap.size)) 5 5 ∧ Blk w' w.heap.size 9 (wOp.map .string).toArray ∧ Chg none_ w w' ∧ w'.heap.size = w.heap.size + 1) := by
  refine f18.calls _ ?_
  unfold f18.wp
  exact bcT (strEqB rfl) (newBox fun w1 B k hs => ⟨rfl, B, k, hs⟩)
theorem words_fault (w : World) : Calls Tryz.prog 18 #[.string (bs [102, 97, 117, 108, 116])] w (Ret fun v w' => v = .slice (some (ad w.heap.size)) 3 3 ∧ Blk w' w.heap.size 9 (wFault.map .string).toArray ∧ Chg none_ w w' ∧ w'.heap.size = w.heap.size + 1) := by
  refine f18.calls _ ?_
  unfold f18.wp
  exact bcF (strEqB rfl) (bcT (strEqB rfl) (newBox fun w1 B k hs => ⟨rfl, B, k, hs⟩))
theorem words_fate (w : World) : Calls Tryz.prog 18 #[.string (bs [102, 97, 116, 101])] w (Ret fun v w' => v = .slice (some (ad w.heap.size)) 4 4 ∧ Blk w' w.heap.size 9 (wFate.map .string).toArray ∧ Chg none_ w w' ∧ w'.heap.size = w.heap.size + 1) := by
  refine f18.calls _ ?_
  unfold f18.wp
  exact bcF (strEqB rfl) (bcF (strEqB rfl) (newBox fun w1 B k hs => ⟨rfl, B, k, hs⟩))
end Go.Proofs.YtdlbmmodlkmofaaGreatDoor
