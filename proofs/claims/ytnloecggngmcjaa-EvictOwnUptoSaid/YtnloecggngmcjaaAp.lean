import Derived.Test.YtnloecggngmcjaaHp
import Derived.Maps.AppendAt
/-! Slices of the call's own, at the weakest preconditions' append. -/
namespace Go.Vc
open Go.RowKit
theorem own_blk {w w' : World} {base size n : Nat} {e : TypeId} {v : Value} {xs : List Value} (h : w.ownsRow base e size v n xs) (c : ∀ g, v.ownBlock = some g → w'.heap[g]? = w.heap[g]?) : w'.ownsRow base e size v n xs :=
  ⟨h.1, h.2.imp id fun ⟨g, cap, cur, hv, hg, hb, r⟩ => ⟨g, cap, cur, hv, hg, (c g (by rw [hv]; rfl)).trans hb, r⟩⟩
theorem own_lt {w : World} {base size n : Nat} {e : TypeId} {v : Value} {xs : List Value} (h : w.ownsRow base e size v n xs) {g : Nat} (hg : v.ownBlock = some g) : g < w.heap.size ∧ base ≤ g := by
  rcases h.2 with ⟨rfl, _⟩ | ⟨g', cap, cur, rfl, hb, hc, _⟩
  · simp [Value.ownBlock] at hg
  · simp [Value.ownBlock] at hg
    subst hg
    exact ⟨Blk.lt (t := e) (cs := cur) hc, hb⟩
theorem own_chg {w w' : World} {base size n : Nat} {e : TypeId} {v : Value} {xs : List Value} (h : w.ownsRow base e size v n xs) {S : Nat → Prop} (c : Chg S w w') (hS : ∀ g, v.ownBlock = some g → ¬ S g) : w'.ownsRow base e size v n xs :=
  own_blk h fun g hg => c.block g (own_lt h hg).1 (hS g hg)
theorem own_slice {w : World} {base size n : Nat} {e : TypeId} {v : Value} {xs : List Value} (h : w.ownsRow base e size v n xs) : ∃ q c, v = .slice q n c ∧ n ≤ c := by
  rcases h.2 with ⟨rfl, rfl⟩ | ⟨g', cap, cur, rfl, hb, hc, hn, _⟩
  · exact ⟨_, _, rfl, Nat.le_refl _⟩
  · exact ⟨_, _, rfl, hn⟩
/-- one element behind a slice of the call's own -/
theorem append1 {P : Program} {w : World} {t ty e : TypeId} {z x : Value} {bytes base n b : Nat} {v : Value} {xs : List Value} (ht : P.underlying t = some (.slice e)) (hi : (P.info? e).map (fun j => (j.size, j.zero, j.bytes)) = some (1, some z, bytes)) (hz : z.cells.size = 1)
    (hown : w.ownsRow base e 1 v n xs) (hb : Blk w b e #[x]) (hx : x.oneCell' = true) (h63 : n + 1 ≤ maxLen) (hby : (n + 1) * bytes ≤ 140737488355328) (hbase : base ≤ w.heap.size) :
    ∃ q c w', (Builtin.append_ #[t, t] ty #[v, .slice (some ⟨b, 0, none⟩) 1 1]).run P w = .ok (.slice q (n + 1) c) w' ∧ w'.ownsRow base e 1 (.slice q (n + 1) c) (n + 1) (xs ++ [x]) ∧
      Chg (fun k => some k = v.ownBlock) w w' ∧ ((Value.slice q (n + 1) c).ownBlock = v.ownBlock ∨ (Value.slice q (n + 1) c).ownBlock = some w.heap.size) := by
  cases hj : P.info? e with
  | none => rw [hj] at hi; simp at hi
  | some j =>
    rw [hj] at hi
    simp at hi
    obtain ⟨h1, h2, h3⟩ := hi
    obtain ⟨v', w', hr, ho, hg, _, hat⟩ := run_append_own_at (P := P) w base t ty e j z 1 bytes ht hj h2 h1 h3 hz (by decide) v n xs hown ⟨b, 0, none⟩ 1 1 [x] rfl (fun i u hu => by
      cases i with
      | zero => simp at hu; subst hu; rw [hb.cell0]; rfl
      | succ i => simp at hu) (fun u hu => by simp at hu; subst hu; exact hx) h63 hby hbase
    obtain ⟨q, c, rfl, _⟩ := own_slice ho
    exact ⟨q, c, w', hr, ho, ⟨hg.os, hg.tape, hg.output, hg.size, fun k hk hs => hg.block k hk hs⟩, hat⟩
/-- an element of it -/
theorem own_cell {w : World} {base n : Nat} {e : TypeId} {q : Option Addr} {l c : Nat} {xs : List Value} (h : w.ownsRow base e 1 (.slice q l c) n xs) {i : Nat} {x : Value} (hx : xs[i]? = some x) : ∃ g, q = some ⟨g, 0, none⟩ ∧ w.cell? ((⟨g, 0, none⟩ : Addr).add (i * 1)) = some x := by
  rcases h.2 with ⟨h0, h1⟩ | ⟨g, cap, cur, hv, hb, hc, hn, hm, hs, ht⟩
  · have := h.1; rw [h1] at this; simp at this; subst this; simp at hx
  · cases hv
    refine ⟨g, rfl, ?_⟩
    have hlt : i < xs.length := by
      rcases Nat.lt_or_ge i xs.length with h1 | h1
      · exact h1
      · rw [List.getElem?_eq_none h1] at hx; cases hx
    rw [Nat.mul_one, (Blk.cell0 (t := e) hc), ← hx, ← ht, List.getElem?_take, if_pos (by rw [h.1] at hlt; exact hlt)]
    simp
/-! # slices of the call's own that begin anywhere in their block (one cell an element) -/
def Sl (w : World) (base : Nat) (e : TypeId) (q : Option Addr) (l c : Nat) (xs : List Value) : Prop :=
  xs.length = l ∧ ((q = none ∧ l = 0 ∧ c = 0) ∨ ∃ g off cur, q = some ⟨g, off, none⟩ ∧ base ≤ g ∧ Blk w g e cur ∧ l ≤ c ∧ c ≤ maxLen ∧ off + c ≤ cur.size ∧ ∀ i x, xs[i]? = some x → cur[off + i]? = some x)
def qBlock : Option Addr → Option Nat := fun q => q.map (·.block)
theorem Sl.nil (w : World) (base : Nat) (e : TypeId) : Sl w base e none 0 0 [] := ⟨rfl, .inl ⟨rfl, rfl, rfl⟩⟩
section
variable {w w' : World} {base : Nat} {e : TypeId} {q : Option Addr} {l c : Nat} {xs : List Value}
theorem Sl.lt (h : Sl w base e q l c xs) {g : Nat} (hg : qBlock q = some g) : g < w.heap.size ∧ base ≤ g := by
  rcases h.2 with ⟨rfl, _⟩ | ⟨g', off, cur, rfl, hb, hc, _⟩
  · simp [qBlock] at hg
  · simp [qBlock] at hg
    subst hg
    exact ⟨hc.lt, hb⟩
theorem Sl.chg (h : Sl w base e q l c xs) {S : Nat → Prop} (k : Chg S w w') (hS : ∀ g, qBlock q = some g → ¬ S g) : Sl w' base e q l c xs :=
  ⟨h.1, h.2.imp id fun ⟨g, off, cur, hq, hb, hc, r⟩ => ⟨g, off, cur, hq, hb, k.blk hc (hS g (by rw [hq]; rfl)), r⟩⟩
theorem Sl.cell (h : Sl w base e q l c xs) {i : Nat} {x : Value} (hx : xs[i]? = some x) : ∃ a, q = some a ∧ w.cell? (a.add (i * 1)) = some x := by
  rcases h.2 with ⟨_, h0, _⟩ | ⟨g, off, cur, rfl, hb, hc, _, _, _, hr⟩
  · have := h.1; rw [h0] at this; simp at this; subst this; simp at hx
  · exact ⟨_, rfl, by rw [Nat.mul_one, add_mk, hc.cell, hr i x hx]⟩
theorem Sl.cut (h : Sl w base e q l c xs) {n : Nat} (hn : n ≤ l) : Sl w base e (cutP q c n 1) (l - n) (c - n) (xs.drop n) := by
  refine ⟨by rw [List.length_drop, h.1], ?_⟩
  rcases h.2 with ⟨rfl, rfl, rfl⟩ | ⟨g, off, cur, rfl, hb, hc, h1, h2, h3, hr⟩
  · exact .inl ⟨by simp [cutP], by omega, by omega⟩
  · refine .inr ?_
    unfold cutP
    split
    · refine ⟨g, off, cur, rfl, hb, hc, by omega, by omega, by omega, fun i x hx => ?_⟩
      have : xs.drop n = [] := by apply List.eq_nil_of_length_eq_zero; rw [List.length_drop, h.1]; omega
      rw [this] at hx; simp at hx
    · refine ⟨g, off + n * 1, cur, by simp [add_mk], hb, hc, by omega, by omega, by omega, fun i x hx => ?_⟩
      rw [List.getElem?_drop] at hx
      rw [show off + n * 1 + i = off + (n + i) by omega]
      exact hr _ _ hx
theorem run_append_off {P : Program} (w : World) (t ty e : TypeId) (i : TypeInfo) (ht : P.underlying t = some (.slice e)) (hi : P.info? e = some i)
    (g off sLen sCap : Nat) (cur : Array Value) (hg : w.heap[g]? = some (.cells cur e (0, 0)))
    (a : Addr) (m c : Nat) (news : List Value) (hl : news.length = m * i.size) (hnews : ∀ j u, news[j]? = some u → w.cell? (a.add j) = some u) (h1 : ∀ u ∈ news, u.oneCell' = true)
    (hroom : sLen + m ≤ sCap) (hfit : off + sLen * i.size + news.length ≤ cur.size) :
    (Builtin.append_ #[t, t] ty #[.slice (some ⟨g, off, none⟩) sLen sCap, .slice (some a) m c]).run P w =
      .ok (.slice (some ⟨g, off, none⟩) (sLen + m) sCap) (w.setRow g (cur.toList.take (off + sLen * i.size) ++ news ++ cur.toList.drop (off + sLen * i.size + news.length)).toArray) := by
  have hf := run_firstCells_some (P := P) w i.size m a m c news hl hnews
  have hst := run_storeCells_at P g (off + sLen * i.size) e news 0 cur w hg (by simpa using hfit) h1
  simp only [Nat.add_zero] at hst
  simp [Builtin.append_, run_underlying ht, sizeOf, typeInfo, hi, Builtin.lenOf, hroom, hf, add_mk, hst]
theorem Sl.append1 {P : Program} {t ty : TypeId} {z x : Value} {bytes b : Nat} (h : Sl w base e q l c xs) (ht : P.underlying t = some (.slice e)) (hi : (P.info? e).map (fun j => (j.size, j.zero, j.bytes)) = some (1, some z, bytes)) (hz : z.cells.size = 1)
    (hb : Blk w b e #[x]) (hx : x.oneCell' = true) (h63 : l + 1 ≤ maxLen) (hby : (l + 1) * bytes ≤ 140737488355328) (hbase : base ≤ w.heap.size) :
    ∃ q' c' w', (Builtin.append_ #[t, t] ty #[.slice q l c, .slice (some ⟨b, 0, none⟩) 1 1]).run P w = .ok (.slice q' (l + 1) c') w' ∧ Sl w' base e q' (l + 1) c' (xs ++ [x]) ∧
      Chg (fun k => some k = qBlock q) w w' ∧ (qBlock q' = qBlock q ∨ qBlock q' = some w.heap.size) := by
  cases hj : P.info? e with
  | none => rw [hj] at hi; simp at hi
  | some j =>
    rw [hj] at hi
    simp at hi
    obtain ⟨hs, hzero, hbt⟩ := hi
    have hnews : ∀ i u, [x][i]? = some u → w.cell? ((⟨b, 0, none⟩ : Addr).add i) = some u := fun i u hu => by
      cases i with
      | zero => simp at hu; subst hu; rw [hb.cell0]; rfl
      | succ i => simp at hu
    have hlen : (xs ++ [x]).length = l + 1 := by simp [h.1]
    have fresh : ∀ old, old < l + 1 → ∀ S, Sl (w.drew.alloc (.cells (xs.toArray ++ [x].toArray ++ Builtin.zeroCells z.cells (grownCap w (l + 1) old e - (l + 1))) e)) base e (some ⟨w.heap.size, 0, none⟩) (l + 1) (grownCap w (l + 1) old e) (xs ++ [x]) ∧
        Chg S w (w.drew.alloc (.cells (xs.toArray ++ [x].toArray ++ Builtin.zeroCells z.cells (grownCap w (l + 1) old e - (l + 1))) e)) := fun old ho S => by
      have hge := grownCap_ge w (l + 1) old e
      have hcm : grownCap w (l + 1) old e ≤ maxLen := grownCap_le_maxLen w (l + 1) old e h63
      refine ⟨⟨hlen, .inr ⟨w.heap.size, 0, _, rfl, hbase, Blk.new w.drew _ _, hge, hcm, ?_, fun i u hu => ?_⟩⟩, (Chg.refl S w).drew.alloc _⟩
      · simp only [Array.size_append, List.size_toArray, size_zeroCells, hz, h.1, List.length_singleton]; omega
      · rw [Nat.zero_add]
        have : i < (xs ++ [x]).length := by
          rcases Nat.lt_or_ge i (xs ++ [x]).length with h1 | h1
          · exact h1
          · rw [List.getElem?_eq_none h1] at hu; cases hu
        rw [Array.getElem?_append_left (by simp [h.1]; omega), ← hu]
        simp
    rcases h.2 with ⟨rfl, rfl, rfl⟩ | ⟨g, off, cur, rfl, hbg, hg, h1, h2, h3, hr⟩
    · have hx0 : xs = [] := List.eq_nil_of_length_eq_zero h.1
      subst hx0
      have hrun := run_append_nil (P := P) w t ty e j z ht hj hzero ⟨b, 0, none⟩ 1 1 [x] (by rw [hs]; rfl) hnews (by omega) (by omega) (by rw [hbt]; omega)
      obtain ⟨f1, f2⟩ := fresh 0 (by omega) (fun k => some k = qBlock none)
      simp only [Nat.zero_add, List.nil_append, Array.empty_append] at f1 f2 hrun ⊢
      exact ⟨_, _, _, hrun, f1, f2, .inr rfl⟩
    · by_cases hroom : l + 1 ≤ c
      · have hrun := run_append_off (P := P) w t ty e j ht hj g off l c cur hg ⟨b, 0, none⟩ 1 1 [x] (by rw [hs]; rfl) hnews (fun u hu => by simp at hu; subst hu; exact hx) hroom (by rw [hs]; simp; omega)
        refine ⟨_, _, _, hrun, ⟨hlen, .inr ⟨g, off, _, rfl, hbg, setRow_heap w g cur _ e _ hg, hroom, h2, ?_, fun i u hu => ?_⟩⟩, ⟨rfl, rfl, rfl, by simp [World.setRow], fun k _ hk => setRow_other w g k _ (fun e => hk (by simp [qBlock, e]))⟩, .inl rfl⟩
        · rw [hs]
          simp only [List.size_toArray, List.length_append, List.length_take, List.length_drop, Array.length_toList, List.length_singleton]
          omega
        · rw [hs, Nat.mul_one]
          simp only [List.getElem?_toArray, List.append_assoc]
          rcases Nat.lt_or_ge i xs.length with h4 | h4
          · rw [List.getElem?_append_left h4] at hu
            have h5 := h.1
            rw [List.getElem?_append_left (by simp; omega), List.getElem?_take, if_pos (by omega), ← hr i u hu]
            simp
          · rw [List.getElem?_append_right h4] at hu
            have h5 : i - xs.length = 0 := by
              rcases Nat.eq_zero_or_pos (i - xs.length) with h6 | h6
              · exact h6
              · rw [List.getElem?_eq_none (by simp; omega)] at hu; cases hu
            have h7 := h.1
            rw [h5] at hu
            rw [List.getElem?_append_right (by simp; omega)]
            simp
            rw [show off + i - min (off + l) cur.size = 0 by omega]
            simpa using hu
      · have holds : ∀ i u, xs[i]? = some u → w.cell? ((⟨g, off, none⟩ : Addr).add i) = some u := fun i u hu => by rw [add_mk, hg.cell, hr i u hu]
        have hrun := run_append_grow (P := P) w t ty e j z ht hj hzero ⟨g, off, none⟩ l c xs (by rw [hs, h.1]; omega) holds ⟨b, 0, none⟩ 1 1 [x] (by rw [hs]; rfl) hnews (by omega) (by simp only [maxLen] at h63; omega) (growslice_fits (by omega) (by rw [hbt]; exact hby))
        obtain ⟨f1, f2⟩ := fresh c (by omega) (fun k => some k = qBlock (some ⟨g, off, none⟩))
        exact ⟨_, _, _, hrun, f1, f2, .inr rfl⟩
end
end Go.Vc
