import Derived.Test.YtdlbmmodlkmofaaGreatDoorPzV
set_option maxRecDepth 20000
namespace Go.Proofs.YtdlbmmodlkmofaaGreatDoor
open Go Go.Vc Go.RowKit
/-! # a plan under way -/
def setLast (cs : List Cr) (t : T3) : List Cr := match cs[cs.length - 1]? with
  | some c => cs.set (cs.length - 1) ⟨c.step, c.rest, c.fates ++ [t]⟩
  | none => cs
def readF (fs : List T3) (cs : List Cr) (ws : List ByteArray) : Option (List T3 × List Cr) :=
  match faultF ws with
  | some f => if cs.length = 0 then some (fs ++ [f], cs) else none
  | none => match crashF ws with
    | some k => some (fs, cs ++ [⟨k.1, k.2, []⟩])
    | none => match pageF ws with
      | some t => if cs.length = 0 then none else some (fs, setLast cs t)
      | none => none
structure PO (w : World) (base b n : Nat) (fs : List T3) (cs : List Cr) : Prop where
  ex : ∃ (q1 : Option Addr) (l1 c1 : Nat) (q2 : Option Addr) (l2 c2 : Nat) (hs : List CrH), Blk w b 27 #[.slice q1 l1 c1, .slice q2 l2 c2] ∧ SE En.t3 w base 41 q1 l1 c1 fs ∧ SE En.crh w base 46 q2 l2 c2 hs ∧ hs.length = cs.length ∧
    (∀ (i : Nat) (h : CrH) (c : Cr), hs[i]? = some h → cs[i]? = some c → h.step = c.step ∧ h.rest = c.rest ∧ SE En.t3 w base 43 h.q h.l h.c c.fates) ∧
    (∀ (i j : Nat) (h h' : CrH) (g : Nat), hs[i]? = some h → hs[j]? = some h' → qB h.q = some g → qB h'.q = some g → i = j)
  hb : base ≤ b
  nf : fs.length ≤ n
  nc : cs.length ≤ n
  nt : ∀ c ∈ cs, c.fates.length ≤ n
theorem PO.chgN {w w' : World} {base b n : Nat} {fs : List T3} {cs : List Cr} (h : PO w base b n fs cs) (k : Chg none_ w w') : PO w' base b n fs cs := by
  obtain ⟨q1, l1, c1, q2, l2, c2, hs, B, S1, S2, hl, ho, ha⟩ := h.ex
  exact { h with ex := ⟨q1, l1, c1, q2, l2, c2, hs, k.blk B (fun x => x), S1.chgN k, S2.chgN k, hl, fun i x c hx hc => ⟨(ho i x c hx hc).1, (ho i x c hx hc).2.1, (ho i x c hx hc).2.2.chgN k⟩, ha⟩ }
/-- the cell of bytealg's length -/
def Tm (w : World) : Prop := ∃ m, w.cell? ⟨0, 0, none⟩ = some (.int .i64 m)
theorem Tm.chg {w w' : World} {base : Nat} (h : Tm w) (k : Chg (fun b => base ≤ b) w w') (hb : 0 < base) : Tm w' := by
  obtain ⟨m, hm⟩ := h
  exact ⟨m, (k.cell (cell_some hm) (by show ¬ base ≤ 0; omega)).trans hm⟩
def wordsF (s : ByteArray) : List ByteArray := Lib.splitB ⟨#[32]⟩ 0 (Lib.countB s ⟨#[32]⟩) s
theorem wordsF_len (s : ByteArray) : (wordsF s).length = Lib.countB s ⟨#[32]⟩ + 1 := Lib.splitB_all ⟨#[32]⟩ (by decide) 0 _ s rfl
theorem split31 {w : World} (t : Tm w) (s : ByteArray) (hs : s.size < 4294967281) : Calls Tryz.prog 31 #[.string s, .string ⟨#[32]⟩] w (Ret fun v w' => ∃ q c, v = .slice q (wordsF s).length c ∧ RE En.str w' q (wordsF s).length (wordsF s) ∧ Chg none_ w w') := by
  obtain ⟨m, hm⟩ := t
  refine (Tryz.strings_Split s ⟨#[32]⟩ m w hs hm (by decide)).mono ?_
  rintro _ _ ⟨rfl, rfl⟩
  rw [← wordsF_len]
  exact ⟨_, rfl, _, _, rfl, litStrs rfl rfl, (Chg.refl _ _).alloc _⟩
/-- what read tells -/
def RdQ (base b n : Nat) (fs : List T3) (cs : List Cr) (ws : List ByteArray) (w : World) (v : Value) (w' : World) : Prop :=
  ∃ ok, v = .bool ok ∧ (ok = true → ∃ fs' cs', readF fs cs ws = some (fs', cs') ∧ PO w' base b (n + 1) fs' cs') ∧ (ok = false → readF fs cs ws = none) ∧ Chg (fun k => base ≤ k) w w'
end Go.Proofs.YtdlbmmodlkmofaaGreatDoor
