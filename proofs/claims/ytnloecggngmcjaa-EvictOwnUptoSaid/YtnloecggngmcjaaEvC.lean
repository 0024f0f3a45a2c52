import Derived.Test.YtnloecggngmcjaaEvB
set_option maxRecDepth 20000
namespace Go.Proofs.Ytnloecggngmcjaa
open Go Go.Vc Go.RowKit Go.Vc.Ring
/-! # the line, as a list -/
abbrev Ln := List (Int × Bool)
def has (l : Ln) (z : Int) : Bool := l.any fun e => e.1 == z
def rem (l : Ln) (z : Int) : Ln := l.filter fun e => e.1 != z
def one (l : Ln) (z : Int) : Ln := l.filter fun e => e.1 == z
def mark (l : Ln) (z : Int) : Ln := l.map fun e => if e.1 = z then (e.1, true) else e
def inR (n : Nat) (z : Int) : Bool := decide (0 ≤ z) && decide (z < n)
def sealL (n : Nat) (l : Ln) (z : Int) : Int × Ln := if inR n z then (if has l z then (160, l) else (0, l ++ [(z, false)])) else (1, l)
def hitL (kind : Int) (l : Ln) (z : Int) : Bool × Ln := if has l z then (true, if kind = 2 then rem l z ++ one l z else if kind = 3 then mark l z else l) else (false, l)
def freeL (n : Nat) (l : Ln) (z : Int) : Int × Ln := if inR n z then (if has l z then (0, rem l z) else (4, l)) else (1, l)
def rotL (l : Ln) : Ln := l.dropWhile (·.2) ++ (l.takeWhile (·.2)).map fun e => (e.1, false)

structure Vi where
  B : Nat
  A : Nat
  r : Nat
  n : Nat
  kind : Int
  keep : Int
  arr : List (Option Nat)
  bs : List Nat
  g : G
def Vi.line (v : Vi) : Ln := v.bs.map fun b => (v.g.rg b, v.g.mr b)
def Vi.own (v : Vi) (k : Nat) : Prop := k = v.B ∨ k = v.A ∨ k ∈ v.r :: v.bs
abbrev po (o : Option Nat) : Value := .pointer (o.map ad)
structure Inv (v : Vi) (w : World) : Prop where
  hv : Blk w v.B 53 (vicA v.kind v.keep v.r v.A v.n)
  ha : Blk w v.A 50 (v.arr.map po).toArray
  hn : Nodes 60 w (· ∈ v.r :: v.bs) v.g
  len : v.arr.length = v.n
  ring : Ring v.g v.r v.bs
  tabI : ∀ b ∈ v.bs, ∃ i : Nat, v.arr[i]? = some (some b) ∧ v.g.rg b = i
  tabO : ∀ (i b : Nat), v.arr[i]? = some (some b) → b ∈ v.bs ∧ v.g.rg b = i
  small : v.n ≤ 256
structure Step (v : Vi) (w : World) (v' : Vi) (w' : World) : Prop where
  inv : Inv v' w'
  B : v'.B = v.B
  n : v'.n = v.n
  kind : v'.kind = v.kind
  keep : v'.keep = v.keep
  chg : Chg v.own w w'
  own : ∀ k, v'.own k → v.own k ∨ w.heap.size ≤ k
section
variable {v : Vi} {w : World}
theorem Inv.refl (h : Inv v w) : Step v w v w := ⟨h, rfl, rfl, rfl, rfl, Chg.refl _ _, fun _ h => .inl h⟩
theorem Step.trans {v' v'' : Vi} {w' w'' : World} (h : Step v w v' w') (k : Step v' w' v'' w'') : Step v w v'' w'' :=
  ⟨k.inv, k.B.trans h.B, k.n.trans h.n, k.kind.trans h.kind, k.keep.trans h.keep, h.chg.trans' k.chg h.own, fun i hi => by
    rcases k.own i hi with h1 | h1
    · exact h.own i h1
    · exact .inr (Nat.le_trans h.chg.size h1)⟩
theorem Inv.drew (h : Inv v w) : Inv v w.drew := ⟨h.hv, h.ha, h.hn, h.len, h.ring, h.tabI, h.tabO, h.small⟩
theorem Inv.chg (h : Inv v w) {S : Nat → Prop} {w' : World} (c : Chg S w w') (hs : ∀ k, v.own k → ¬ S k) : Inv v w' :=
  ⟨c.blk h.hv (hs _ (.inl rfl)), c.blk h.ha (hs _ (.inr (.inl rfl))), h.hn.chg c (fun _ hx => hs _ (.inr (.inr hx))), h.len, h.ring, h.tabI, h.tabO, h.small⟩
theorem Inv.lt (h : Inv v w) {k : Nat} (hk : v.own k) : k < w.heap.size := by
  rcases hk with rfl | rfl | hk
  · exact h.hv.lt
  · exact h.ha.lt
  · exact (h.hn k hk).lt
theorem Inv.neB (h : Inv v w) {x : Nat} (hx : x ∈ v.r :: v.bs) : v.B ≠ x := fun e => by
  have := (h.hv.type (e ▸ h.hn x hx)).1; simp at this
theorem Inv.neA (h : Inv v w) {x : Nat} (hx : x ∈ v.r :: v.bs) : v.A ≠ x := fun e => by
  have := (h.ha.type (e ▸ h.hn x hx)).1; simp at this
theorem Inv.neBA (h : Inv v w) : v.B ≠ v.A := fun e => by
  have := (h.hv.type (e ▸ h.ha)).1; simp at this
theorem Inv.has (h : Inv v w) (i : Nat) : has v.line i = true ↔ ∃ b, v.arr[i]? = some (some b) := by
  simp only [Ytnloecggngmcjaa.has, Vi.line, List.any_eq_true, List.mem_map, beq_iff_eq]
  constructor
  · rintro ⟨_, ⟨b, hb, rfl⟩, hz⟩
    obtain ⟨j, hj, hr⟩ := h.tabI b hb
    simp only [hr] at hz
    exact ⟨b, by rw [← hj, show i = j by omega]⟩
  · rintro ⟨b, hb⟩
    obtain ⟨h1, h2⟩ := h.tabO i b hb
    exact ⟨_, ⟨b, h1, rfl⟩, h2⟩
theorem Inv.uniq (h : Inv v w) {a b : Nat} (ha : a ∈ v.bs) (hb : b ∈ v.bs) (e : v.g.rg a = v.g.rg b) : a = b := by
  obtain ⟨i, hi, hr⟩ := h.tabI a ha
  obtain ⟨j, hj, hs⟩ := h.tabI b hb
  have : i = j := by omega
  subst this
  rw [hi] at hj
  simpa using hj
/-- one in line: its place -/
theorem Inv.place (h : Inv v w) {i b : Nat} (hb : v.arr[i]? = some (some b)) : ∃ l1 l2, v.bs = l1 ++ b :: l2 ∧ v.g.rg b = i ∧ (∀ y ∈ l1, v.g.rg y ≠ i) ∧ (∀ y ∈ l2, v.g.rg y ≠ i) := by
  obtain ⟨h1, h2⟩ := h.tabO i b hb
  obtain ⟨l1, l2, e⟩ := List.append_of_mem h1
  have hn := (List.nodup_cons.1 h.ring.nodup).2
  rw [e] at hn
  refine ⟨l1, l2, e, h2, fun y hy hc => ?_, fun y hy hc => ?_⟩
  · have := h.uniq (a := y) (b := b) (by rw [e]; simp [hy]) h1 (by rw [hc, h2])
    subst this
    exact (List.nodup_append.1 hn).2.2 _ hy _ (by simp) rfl
  · have := h.uniq (a := y) (b := b) (by rw [e]; simp [hy]) h1 (by rw [hc, h2])
    subst this
    exact (List.nodup_cons.1 (List.nodup_append.1 hn).2.1).1 hy
theorem Inv.cell (h : Inv v w) {i : Nat} {o : Option Nat} (hi : v.arr[i]? = some o) : w.cell? ((ad v.A).add (i * 1)) = some (po o) := by
  rw [Nat.mul_one, h.ha.cell0]; simp [hi]
end
theorem made27 {w : World} {B r A n : Nat} {kind keep : Int} (hB : Blk w B 53 (vicA kind keep r A n)) : Calls Try.prog 27 #[.pointer (some (ad B))] w (Ret fun v w' => v = .bool true ∧ w = w') := by
  refine f27.calls _ ?_
  unfold f27.wp
  exact ⟨ptrOk_none _ _, bcT (by simp) (onPtr_mk ⟨_, (hB.cell0 2).trans rfl, ptrOk_none _ _, by simp⟩)⟩
theorem is28 {w : World} {B r A n : Nat} {kind keep : Int} (hB : Blk w B 53 (vicA kind keep r A n)) (z : Int) : Calls Try.prog 28 #[.pointer (some (ad B)), .int .i64 z] w (Ret fun v w' => v = .bool (inR n z) ∧ w = w') := by
  refine f28.calls _ _ ?_
  unfold f28.wp
  refine Calls.use (made27 hB) ?_
  rintro _ _ ⟨rfl, rfl⟩
  refine ⟨_, rfl, bcT rfl (bc (fun h => onPtr_mk ⟨_, _, _, (hB.cell0 3).trans rfl, ?_⟩) fun h => ?_)⟩ <;> simp_all [inR] <;> try omega
end Go.Proofs.Ytnloecggngmcjaa
