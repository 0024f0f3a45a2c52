import Derived.Test.YtnloecggngmcjaaHp
import Derived.Maps.AppendAt
/-! Slices of the call's own, at the weakest preconditions' append. -/
namespace Go.Vc
open Go.RowKit
theorem own_blk {w w' : World} {base size n : Nat} {e : TypeId} {v : Value} {xs : List Value} (h : w.ownsRow base e size v n xs) (c : ∀ g, v.ownBlock = some g → w'.heap[g]? = w.heap[g]?) : w'.ownsRow base e size v n xs :=
  ⟨h.1, h.2.imp id fun ⟨g, cap, cur, hv, hg, hb, r⟩ => ⟨g, cap, cur, hv, hg, (c g (by rw [hv]; rfl)).trans hb, r⟩⟩
theorem own_lt {w : World} {base size n : Nat} {e : TypeId} {v : Value} {xs : List Value} (h : w.ownsRow base e size v n xs) {g : Nat} (hg : v.ownBlock = some g) : g < w.heap.size ∧ base ≤ g := by
  rcases h.2 with ⟨rfl, _⟩ | ⟨g', cap, cur, rfl, hb, hc, _⟩
  · simp [Value.ownBlock] at hg
  · simp [Value.ownBlock] at hg
    subst hg
    exact ⟨Blk.lt (t := e) (cs := cur) hc, hb⟩
theorem own_chg {w w' : World} {base size n : Nat} {e : TypeId} {v : Value} {xs : List Value} (h : w.ownsRow base e size v n xs) {S : Nat → Prop} (c : Chg S w w') (hS : ∀ g, v.ownBlock = some g → ¬ S g) : w'.ownsRow base e size v n xs :=
  own_blk h fun g hg => c.block g (own_lt h hg).1 (hS g hg)
theorem own_slice {w : World} {base size n : Nat} {e : TypeId} {v : Value} {xs : List Value} (h : w.ownsRow base e size v n xs) : ∃ q c, v = .slice q n c ∧ n ≤ c := by
  rcases h.2 with ⟨rfl, rfl⟩ | ⟨g', cap, cur, rfl, hb, hc, hn, _⟩
  · exact ⟨_, _, rfl, Nat.le_refl _⟩
  · exact ⟨_, _, rfl, hn⟩
/-- one element behind a slice of the call's own -/
theorem append1 {P : Program} {w : World} {t ty e : TypeId} {z x : Value} {bytes base n b : Nat} {v : Value} {xs : List Value} (ht : P.underlying t = some (.slice e)) (hi : (P.info? e).map (fun j => (j.size, j.zero, j.bytes)) = some (1, some z, bytes)) (hz : z.cells.size = 1)
    (hown : w.ownsRow base e 1 v n xs) (hb : Blk w b e #[x]) (hx : x.oneCell' = true) (h63 : n + 1 ≤ maxLen) (hby : (n + 1) * bytes ≤ 140737488355328) (hbase : base ≤ w.heap.size) :
    ∃ q c w', (Builtin.append_ #[t, t] ty #[v, .slice (some ⟨b, 0, none⟩) 1 1]).run P w = .ok (.slice q (n + 1) c) w' ∧ w'.ownsRow base e 1 (.slice q (n + 1) c) (n + 1) (xs ++ [x]) ∧
      Chg (fun k => some k = v.ownBlock) w w' ∧ ((Value.slice q (n + 1) c).ownBlock = v.ownBlock ∨ (Value.slice q (n + 1) c).ownBlock = some w.heap.size) := by
  cases hj : P.info? e with
  | none => rw [hj] at hi; simp at hi
  | some j =>
    rw [hj] at hi
    simp at hi
    obtain ⟨h1, h2, h3⟩ := hi
    obtain ⟨v', w', hr, ho, hg, _, hat⟩ := run_append_own_at (P := P) w base t ty e j z 1 bytes ht hj h2 h1 h3 hz (by decide) v n xs hown ⟨b, 0, none⟩ 1 1 [x] rfl (fun i u hu => by
      cases i with
      | zero => simp at hu; subst hu; rw [hb.cell0]; rfl
      | succ i => simp at hu) (fun u hu => by simp at hu; subst hu; exact hx) h63 hby hbase
    obtain ⟨q, c, rfl, _⟩ := own_slice ho
    exact ⟨q, c, w', hr, ho, ⟨hg.os, hg.tape, hg.output, hg.size, fun k hk hs => hg.block k hk hs⟩, hat⟩
/-- an element of it -/
theorem own_cell {w : World} {base n : Nat} {e : TypeId} {q : Option Addr} {l c : Nat} {xs : List Value} (h : w.ownsRow base e 1 (.slice q l c) n xs) {i : Nat} {x : Value} (hx : xs[i]? = some x) : ∃ g, q = some ⟨g, 0, none⟩ ∧ w.cell? ((⟨g, 0, none⟩ : Addr).add (i * 1)) = some x := by
  rcases h.2 with ⟨h0, h1⟩ | ⟨g, cap, cur, hv, hb, hc, hn, hm, hs, ht⟩
  · have := h.1; rw [h1] at this; simp at this; subst this; simp at hx
  · cases hv
    refine ⟨g, rfl, ?_⟩
    have hlt : i < xs.length := by
      rcases Nat.lt_or_ge i xs.length with h1 | h1
      · exact h1
      · rw [List.getElem?_eq_none h1] at hx; cases hx
    rw [Nat.mul_one, (Blk.cell0 (t := e) hc), ← hx, ← ht, List.getElem?_take, if_pos (by rw [h.1] at hlt; exact hlt)]
    simp
end Go.Vc
