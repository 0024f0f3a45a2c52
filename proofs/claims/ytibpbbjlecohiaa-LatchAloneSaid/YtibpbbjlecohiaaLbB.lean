import Derived.Test.YtibpbbjlecohiaaLbA
set_option maxRecDepth 20000
namespace Go.Proofs.Ytibpbbjlecohiaa
namespace Full
open Go Go.Vc Go.RowKit
theorem app_set2 {α : Type} {a b : List α} {i : Nat} {y : α} : (a ++ b).set (a.length + i) y = a ++ b.set i y := by
  rw [List.set_append, if_neg (by omega), Nat.add_sub_cancel_left]
theorem app_at2 {α : Type} {a b : List α} {i : Nat} {x : α} (h : b[i]? = some x) : (a ++ b)[a.length + i]? = some x := by
  rw [List.getElem?_append_right (by omega), Nat.add_sub_cancel_left]; exact h
section
variable {w w6 w7 : World} {base N Q Q' o : Nat} {g : G8} {s : S8}
/-- what becomes of all, one queue made anew and its row's head written: common part -/
theorem InvG.qcore (h : InvG w base N Q o g s) {j : Nat} {h0 h1 : Hd} {xs ys : List Wt} (hj : g.qs[j]? = some h0) (hx : s.qs[j]? = some xs) (k6 : Chg (fun b => some b = qB h0.1) w w6) (Q6 : SE En.wt w6 base 106 h1.1 h1.2.1 h1.2.2 ys) (hq6 : qB h1.1 = qB h0.1 ∨ qB h1.1 = some w.heap.size ∨ h1.1 = none)
    (hQ : Q + ys.length ≤ Q' + xs.length) (ht : ∀ y ∈ ys, ok64 y.task) :
    RowsE En.wt w6 base 106 (g.qs.set j h1) (s.qs.set j ys) ∧ tot (s.qs.set j ys) + tot (s.ls.map Lk.readers) ≤ Q' ∧ (∀ x ∈ s.qs.set j ys, ∀ y ∈ x, ok64 y.task) ∧ Parts w6 base o g s ∧ Chg (Own g o) w w6 ∧ ∀ (h : Hd) (b : Nat), h ∈ g.qs.set j h1 → qB h.1 = some b → Own g o b ∨ w.heap.size ≤ b := by
  refine ⟨h.que.set hj k6 Q6 hq6, ?_, fun x hx y hy => ?_, h.toParts.turn (h.que.se j h0 xs hj hx) k6, k6.mono fun b _ hb => .que (List.mem_of_getElem? hj) hb.symm, fun z b hz hb => ?_⟩
  · have := tot_set (ys := ys) hx
    have := h.hq
    omega
  · rcases List.mem_or_eq_of_mem_set hx with hx | rfl
    · exact h.ht x hx y hy
    · exact ht y hy
  · rcases List.mem_or_eq_of_mem_set hz with hz | rfl
    · exact .inl (.que hz hb)
    · rcases hq6 with e | e | e
      · exact .inl (.que (List.mem_of_getElem? hj) (e ▸ hb))
      · rw [e] at hb; cases hb; exact .inr (Nat.le_refl _)
      · rw [e] at hb; simp [qB] at hb
theorem wt_lt {w : World} {base N Q o : Nat} {g : G8} {s : S8} (h : InvG w base N Q o g s) {j : Nat} {xs : List Wt} (hx : s.qs[j]? = some xs) : xs.length ≤ Q := by
  have := tot_at hx; have := h.hq; omega
/-- a mutex' queue -/
theorem InvG.mq (h : InvG w base N Q o g s) {i : Nat} {hx : MxH} {mx : Mx} (hhx : g.hs[i]? = some hx) (hmx : s.ms[i]? = some mx) {h1 : Hd} {ys : List Wt} (k6 : Chg (fun b => some b = qB hx.hd.1) w w6) (Q6 : SE En.wt w6 base 106 h1.1 h1.2.1 h1.2.2 ys) (hq6 : qB h1.1 = qB hx.hd.1 ∨ qB h1.1 = some w.heap.size ∨ h1.1 = none)
    {a : Addr} (ha : g.qm = some a) (e7 : w7 = setCells ((a.add (i * 2)).add 1) 0 [.slice h1.1 h1.2.1 h1.2.2] w6) (hQ : Q + ys.length ≤ Q' + mx.queue.length) (ht : ∀ y ∈ ys, ok64 y.task) :
    InvG w7 base N Q' o { g with hs := g.hs.set i ⟨hx.owner, h1⟩ } { s with ms := s.ms.set i ⟨mx.owner, ys⟩ } ∧ Stp o w g w7 { g with hs := g.hs.set i ⟨hx.owner, h1⟩ } := by
  have hj : g.qs[i]? = some hx.hd := app_at (map_at (f := MxH.hd) hhx)
  have hx' : s.qs[i]? = some mx.queue := app_at (map_at (f := Mx.queue) hmx)
  obtain ⟨R6, T6, t6, P6, c6, g6⟩ := h.qcore hj hx' k6 Q6 hq6 hQ ht
  obtain ⟨S7, k7⟩ := P6.mx.setAt (w' := w7) (o := 1) (x' := ⟨hx.owner, h1⟩) ha hhx (by show 1 + 1 ≤ 2; decide) (mxh_hd hx h1) e7
  have P7 := P6.mrow (hs := g.hs.set i ⟨hx.owner, h1⟩) (ms := s.ms.set i ⟨mx.owner, ys⟩) k7 (by rw [List.length_set]; exact S7) (by simp)
  have eg : ({ g with hs := g.hs.set i ⟨hx.owner, h1⟩ } : G8).qs = g.qs.set i h1 := by
    show (g.hs.set i ⟨hx.owner, h1⟩).map MxH.hd ++ _ = _
    rw [List.map_set, G8.qs, app_set (by simp; exact get_lt hhx)]
  have es : ({ s with ms := s.ms.set i ⟨mx.owner, ys⟩ } : S8).qs = s.qs.set i ys := by
    show (s.ms.set i ⟨mx.owner, ys⟩).map Mx.queue ++ _ = _
    rw [List.map_set, S8.qs, app_set (by simp; exact get_lt hmx)]
  refine ⟨{ P7 with bo := h.bo, own := ?_, wri := h.wri, que := ?_, bm := h.bm, hn := h.hn, hq := ?_, ht := ?_, hc := fun x hx y hy => by simpa using h.hc x hx y hy }, ⟨c6.trans (k7.mono fun b _ hb => .mx hb.symm), fun b hb => ?_⟩⟩
  · show (g.hs.set i ⟨hx.owner, h1⟩).map MxH.owner = (s.ms.set i ⟨mx.owner, ys⟩).map Mx.owner
    have e1 := map_at (f := MxH.owner) hhx
    have e2 := map_at (f := Mx.owner) hmx
    rw [List.map_set, List.map_set, set_same e1, set_same e2]
    exact h.own
  · rw [eg, es]; exact R6.chgS P6.mx (by decide) k7
  · rw [es]; exact T6
  · rw [es]; exact t6
  · cases hb with
    | obj => exact .inl .obj
    | map => exact .inl .map
    | mx hb => exact .inl (.mx hb)
    | lk hb => exact .inl (.lk hb)
    | cd hb => exact .inl (.cd hb)
    | ct hb => exact .inl (.ct hb)
    | rds hm hb => exact .inl (.rds hm hb)
    | que hm hb => rw [eg] at hm; exact g6 _ b hm hb
/-- a mutex' owner -/
theorem InvG.ow (h : InvG w base N Q o g s) {i : Nat} {hx : MxH} {mx : Mx} (hhx : g.hs[i]? = some hx) (hmx : s.ms[i]? = some mx) (x : Int) {a : Addr} (ha : g.qm = some a) (e7 : w7 = setCells (a.add (i * 2)) 0 [.int .i64 x] w) :
    InvG w7 base N Q o { g with hs := g.hs.set i ⟨x, hx.hd⟩ } { s with ms := s.ms.set i ⟨x, mx.queue⟩ } ∧ Stp o w g w7 { g with hs := g.hs.set i ⟨x, hx.hd⟩ } := by
  obtain ⟨S7, k7⟩ := h.mx.setAt (w' := w7) (o := 0) (x' := ⟨x, hx.hd⟩) ha hhx (by show 0 + 1 ≤ 2; decide) (mxh_own hx x) (by rw [add_zero']; exact e7)
  have P7 := h.toParts.mrow (hs := g.hs.set i ⟨x, hx.hd⟩) (ms := s.ms.set i ⟨x, mx.queue⟩) k7 (by rw [List.length_set]; exact S7) (by simp)
  have eg : ({ g with hs := g.hs.set i ⟨x, hx.hd⟩ } : G8).qs = g.qs := by
    show (g.hs.set i ⟨x, hx.hd⟩).map MxH.hd ++ _ = _
    rw [List.map_set, set_same (map_at (f := MxH.hd) hhx), G8.qs]
  have es : ({ s with ms := s.ms.set i ⟨x, mx.queue⟩ } : S8).qs = s.qs := by
    show (s.ms.set i ⟨x, mx.queue⟩).map Mx.queue ++ _ = _
    rw [List.map_set, set_same (map_at (f := Mx.queue) hmx), S8.qs]
  refine ⟨{ P7 with bo := h.bo, own := ?_, wri := h.wri, que := ?_, bm := h.bm, hn := h.hn, hq := ?_, ht := ?_, hc := fun x hx y hy => by simpa using h.hc x hx y hy }, ⟨k7.mono fun b _ hb => .mx hb.symm, fun b hb => ?_⟩⟩
  · show (g.hs.set i ⟨x, hx.hd⟩).map MxH.owner = (s.ms.set i ⟨x, mx.queue⟩).map Mx.owner
    rw [List.map_set, List.map_set, h.own]
  · rw [eg, es]; exact h.que.chgS h.mx (by decide) k7
  · rw [es]; exact h.hq
  · rw [es]; exact h.ht
  · cases hb with
    | obj => exact .inl .obj
    | map => exact .inl .map
    | mx hb => exact .inl (.mx hb)
    | lk hb => exact .inl (.lk hb)
    | cd hb => exact .inl (.cd hb)
    | ct hb => exact .inl (.ct hb)
    | rds hm hb => exact .inl (.rds hm hb)
    | que hm hb => rw [eg] at hm; exact .inl (.que hm hb)
end
end Full
end Go.Proofs.Ytibpbbjlecohiaa
