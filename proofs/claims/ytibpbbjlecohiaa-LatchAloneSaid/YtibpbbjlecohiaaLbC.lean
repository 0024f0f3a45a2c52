import Derived.Test.YtibpbbjlecohiaaLbB
set_option maxRecDepth 20000
namespace Go.Proofs.Ytibpbbjlecohiaa
namespace Full
open Go Go.Vc Go.RowKit
theorem lkh_hd (x : LkH) (h : Hd) : ∀ j, (En.lkh.enc ⟨x.readers, x.writer, h⟩)[j]? = if 2 ≤ j ∧ j < 2 + [Value.slice h.1 h.2.1 h.2.2].length then [Value.slice h.1 h.2.1 h.2.2][j - 2]? else (En.lkh.enc x)[j]? := fun j => by
  rcases j with _ | _ | _ | j
  · rfl
  · rfl
  · rfl
  · rw [if_neg (by simp)]; rfl
theorem lkh_rd (x : LkH) (h : Hd) : ∀ j, (En.lkh.enc ⟨h, x.writer, x.hd⟩)[j]? = if 0 ≤ j ∧ j < 0 + [Value.slice h.1 h.2.1 h.2.2].length then [Value.slice h.1 h.2.1 h.2.2][j - 0]? else (En.lkh.enc x)[j]? := fun j => by
  rcases j with _ | j
  · rfl
  · rw [if_neg (by simp)]; rfl
section
variable {w w6 w7 : World} {base N Q Q' o : Nat} {g : G8} {s : S8}
theorem InvG.lq_at (h : InvG w base N Q o g s) {i : Nat} {hx : LkH} {lx : Lk} (hhx : g.lh[i]? = some hx) (hlx : s.ls[i]? = some lx) : g.qs[s.ms.length + i]? = some hx.hd ∧ s.qs[s.ms.length + i]? = some lx.queue := by
  constructor
  · have := app_at2 (a := g.hs.map MxH.hd) (app_at (b := g.ch) (map_at (f := LkH.hd) hhx))
    rw [List.length_map, h.mx.len] at this
    exact this
  · have := app_at2 (a := s.ms.map Mx.queue) (app_at (b := s.cs) (map_at (f := Lk.queue) hlx))
    rw [List.length_map] at this
    exact this
theorem InvG.cq_at (h : InvG w base N Q o g s) {i : Nat} {hd : Hd} {xs : List Wt} (hhx : g.ch[i]? = some hd) (hcx : s.cs[i]? = some xs) : g.qs[s.ms.length + (s.ls.length + i)]? = some hd ∧ s.qs[s.ms.length + (s.ls.length + i)]? = some xs := by
  constructor
  · have := app_at2 (a := g.hs.map MxH.hd) (app_at2 (a := g.lh.map LkH.hd) hhx)
    rw [List.length_map, List.length_map, h.mx.len, h.lk.len] at this
    exact this
  · have := app_at2 (a := s.ms.map Mx.queue) (app_at2 (a := s.ls.map Lk.queue) hcx)
    rw [List.length_map, List.length_map] at this
    exact this
/-- a lock's row: its readers' slice, its writer and its queue's slice at will, the queues' turn done before -/
theorem lrow_own {g : G8} {o : Nat} {lh : List LkH} (hb : ∀ x ∈ lh, ∀ b, qB x.readers.1 = some b → Own g o b ∨ w.heap.size ≤ b) (hq : ∀ x ∈ ({ g with lh := lh } : G8).qs, ∀ b, qB x.1 = some b → Own g o b ∨ w.heap.size ≤ b) : ∀ b, Own { g with lh := lh } o b → Own g o b ∨ w.heap.size ≤ b := fun b hb' => by
  cases hb' with
  | obj => exact .inl .obj
  | map => exact .inl .map
  | mx hb => exact .inl (.mx hb)
  | lk hb => exact .inl (.lk hb)
  | cd hb => exact .inl (.cd hb)
  | ct hb => exact .inl (.ct hb)
  | rds hm h => exact hb _ hm b h
  | que hm h => exact hq _ hm b h
/-- a lock's queue -/
theorem InvG.lq (h : InvG w base N Q o g s) {i : Nat} {hx : LkH} {lx : Lk} (hhx : g.lh[i]? = some hx) (hlx : s.ls[i]? = some lx) {h1 : Hd} {ys : List Wt} (k6 : Chg (fun b => some b = qB hx.hd.1) w w6) (Q6 : SE En.wt w6 base 106 h1.1 h1.2.1 h1.2.2 ys) (hq6 : qB h1.1 = qB hx.hd.1 ∨ qB h1.1 = some w.heap.size ∨ h1.1 = none)
    {a : Addr} (ha : g.q2 = some a) (e7 : w7 = setCells ((a.add (i * 3)).add 2) 0 [.slice h1.1 h1.2.1 h1.2.2] w6) (hQ : Q + ys.length ≤ Q' + lx.queue.length) (ht : ∀ y ∈ ys, ok64 y.task) :
    InvG w7 base N Q' o { g with lh := g.lh.set i ⟨hx.readers, hx.writer, h1⟩ } { s with ls := s.ls.set i ⟨lx.readers, lx.writer, ys⟩ } ∧ Stp o w g w7 { g with lh := g.lh.set i ⟨hx.readers, hx.writer, h1⟩ } := by
  obtain ⟨hj, hx'⟩ := h.lq_at hhx hlx
  obtain ⟨R6, T6, t6, P6, c6, g6⟩ := h.qcore hj hx' k6 Q6 hq6 hQ ht
  obtain ⟨S7, k7⟩ := P6.lk.setAt (w' := w7) (o := 2) (x' := ⟨hx.readers, hx.writer, h1⟩) ha hhx (by show 2 + 1 ≤ 3; decide) (lkh_hd hx h1) e7
  have er : (g.lh.set i ⟨hx.readers, hx.writer, h1⟩).map LkH.readers = g.lh.map LkH.readers := by rw [List.map_set, set_same (map_at (f := LkH.readers) hhx)]
  have es' : (s.ls.set i ⟨lx.readers, lx.writer, ys⟩).map Lk.readers = s.ls.map Lk.readers := by rw [List.map_set, set_same (map_at (f := Lk.readers) hlx)]
  have P7 := P6.lrow (lh := g.lh.set i ⟨hx.readers, hx.writer, h1⟩) (ls := s.ls.set i ⟨lx.readers, lx.writer, ys⟩) k7 (by rw [List.length_set]; exact S7) (by simp) (by rw [er, es']; exact P6.rds)
  have eg : ({ g with lh := g.lh.set i ⟨hx.readers, hx.writer, h1⟩ } : G8).qs = g.qs.set (s.ms.length + i) h1 := by
    show g.hs.map MxH.hd ++ ((g.lh.set i ⟨hx.readers, hx.writer, h1⟩).map LkH.hd ++ g.ch) = _
    have := app_set2 (a := g.hs.map MxH.hd) (b := g.lh.map LkH.hd ++ g.ch) (i := i) (y := h1)
    rw [List.length_map, h.mx.len] at this
    rw [G8.qs, this, app_set (by simp; exact get_lt hhx), List.map_set]
  have es : ({ s with ls := s.ls.set i ⟨lx.readers, lx.writer, ys⟩ } : S8).qs = s.qs.set (s.ms.length + i) ys := by
    show s.ms.map Mx.queue ++ ((s.ls.set i ⟨lx.readers, lx.writer, ys⟩).map Lk.queue ++ s.cs) = _
    have := app_set2 (a := s.ms.map Mx.queue) (b := s.ls.map Lk.queue ++ s.cs) (i := i) (y := ys)
    rw [List.length_map] at this
    rw [S8.qs, this, app_set (by simp; exact get_lt hlx), List.map_set]
  refine ⟨{ P7 with bo := h.bo, own := h.own, wri := ?_, que := ?_, bm := h.bm, hn := h.hn, hq := ?_, ht := ?_, hc := h.hc }, ⟨c6.trans (k7.mono fun b _ hb => .lk hb.symm), lrow_own (fun x hx' b hb => ?_) fun x hx' b hb => ?_⟩⟩
  · show (g.lh.set i ⟨hx.readers, hx.writer, h1⟩).map LkH.writer = (s.ls.set i ⟨lx.readers, lx.writer, ys⟩).map Lk.writer
    rw [List.map_set, List.map_set, set_same (map_at (f := LkH.writer) hhx), set_same (map_at (f := Lk.writer) hlx)]
    exact h.wri
  · rw [eg, es]; exact R6.chgS P6.lk (by decide) k7
  · rw [es]
    show _ + tot ((s.ls.set i ⟨lx.readers, lx.writer, ys⟩).map Lk.readers) ≤ _
    rw [es']; exact T6
  · rw [es]; exact t6
  · rcases List.mem_or_eq_of_mem_set hx' with hm | rfl
    · exact .inl (.rds hm hb)
    · exact .inl (.rds (List.mem_of_getElem? hhx) hb)
  · rw [eg] at hx'; exact g6 x b hx' hb
/-- a lock's writer -/
theorem InvG.wr (h : InvG w base N Q o g s) {i : Nat} {hx : LkH} {lx : Lk} (hhx : g.lh[i]? = some hx) (hlx : s.ls[i]? = some lx) (x : Int) {a : Addr} (ha : g.q2 = some a) (e7 : w7 = setCells ((a.add (i * 3)).add 1) 0 [.int .i64 x] w) :
    InvG w7 base N Q o { g with lh := g.lh.set i ⟨hx.readers, x, hx.hd⟩ } { s with ls := s.ls.set i ⟨lx.readers, x, lx.queue⟩ } ∧ Stp o w g w7 { g with lh := g.lh.set i ⟨hx.readers, x, hx.hd⟩ } := by
  obtain ⟨S7, k7⟩ := h.lk.setAt (w' := w7) (o := 1) (x' := ⟨hx.readers, x, hx.hd⟩) ha hhx (by show 1 + 1 ≤ 3; decide) (lkh_wr hx x) e7
  have er : (g.lh.set i ⟨hx.readers, x, hx.hd⟩).map LkH.readers = g.lh.map LkH.readers := by rw [List.map_set, set_same (map_at (f := LkH.readers) hhx)]
  have es' : (s.ls.set i ⟨lx.readers, x, lx.queue⟩).map Lk.readers = s.ls.map Lk.readers := by rw [List.map_set, set_same (map_at (f := Lk.readers) hlx)]
  have P7 := h.toParts.lrow (lh := g.lh.set i ⟨hx.readers, x, hx.hd⟩) (ls := s.ls.set i ⟨lx.readers, x, lx.queue⟩) k7 (by rw [List.length_set]; exact S7) (by simp) (by rw [er, es']; exact h.rds)
  have eg : ({ g with lh := g.lh.set i ⟨hx.readers, x, hx.hd⟩ } : G8).qs = g.qs := by
    show g.hs.map MxH.hd ++ ((g.lh.set i ⟨hx.readers, x, hx.hd⟩).map LkH.hd ++ g.ch) = _
    rw [List.map_set, set_same (map_at (f := LkH.hd) hhx), G8.qs]
  have es : ({ s with ls := s.ls.set i ⟨lx.readers, x, lx.queue⟩ } : S8).qs = s.qs := by
    show s.ms.map Mx.queue ++ ((s.ls.set i ⟨lx.readers, x, lx.queue⟩).map Lk.queue ++ s.cs) = _
    rw [List.map_set, set_same (map_at (f := Lk.queue) hlx), S8.qs]
  refine ⟨{ P7 with bo := h.bo, own := h.own, wri := ?_, que := ?_, bm := h.bm, hn := h.hn, hq := ?_, ht := ?_, hc := h.hc }, ⟨k7.mono fun b _ hb => .lk hb.symm, lrow_own (fun x hx' b hb => ?_) fun x hx' b hb => ?_⟩⟩
  · show (g.lh.set i ⟨hx.readers, x, hx.hd⟩).map LkH.writer = (s.ls.set i ⟨lx.readers, x, lx.queue⟩).map Lk.writer
    rw [List.map_set, List.map_set, h.wri]
  · rw [eg, es]; exact h.que.chgS h.lk (by decide) k7
  · rw [es]
    show _ + tot ((s.ls.set i ⟨lx.readers, x, lx.queue⟩).map Lk.readers) ≤ _
    rw [es']; exact h.hq
  · rw [es]; exact h.ht
  · rcases List.mem_or_eq_of_mem_set hx' with hm | rfl
    · exact .inl (.rds hm hb)
    · exact .inl (.rds (List.mem_of_getElem? hhx) hb)
  · rw [eg] at hx'; exact .inl (.que hx' hb)
/-- a block of readers turns -/
theorem Parts.turnr {w w' : World} {base o : Nat} {g : G8} {s : S8} (h : Parts w base o g s) {q : Option Addr} {l c : Nat} {xs : List Int} (Re : SE En.int w base 3 q l c xs) (k : Chg (fun b => some b = qB q) w w') :
    Blk w' o 89 #[.slice g.qm s.ms.length g.cm, .slice g.q2 s.ls.length g.c2, .slice g.q3 s.cs.length g.c3, .slice g.q4 s.ns.length g.c4, .map (some g.m)] ∧ SE En.mxh w' base 97 g.qm s.ms.length g.cm g.hs ∧ SE En.lkh w' base 99 g.q2 s.ls.length g.c2 g.lh ∧ SE En.hd w' base 95 g.q3 s.cs.length g.c3 g.ch ∧ SE En.int w' base 2 g.q4 s.ns.length g.c4 s.ns ∧ Mp Try.prog 3 w' g.m g.n s.wt := by
  have nb : ∀ {b : Nat} {t : TypeId} {cs : Array Value}, Blk w b t cs → t ≠ 3 → ¬ (some b = qB q) := fun B ht e => SE.ne Re B ht _ e.symm rfl
  have ns : ∀ {α : Type} {E : En α} {e : TypeId} {q' : Option Addr} {l' c' : Nat} {ys : List α}, SE E w base e q' l' c' ys → e ≠ 3 → SE E w' base e q' l' c' ys := fun S ht => S.chg k fun b hb e => by
    obtain ⟨cur, B⟩ := S.blk hb
    exact nb B ht e
  exact ⟨k.blk h.obj (nb h.obj (by decide)), ns h.mx (by decide), ns h.lk (by decide), ns h.cd (by decide), ns h.ct (by decide), h.wts.chg k fun e => by
    obtain ⟨cur, B⟩ := Re.blk e.symm
    exact Mp.ne h.wts B rfl⟩
/-- a lock's readers -/
theorem InvG.rd (h : InvG w base N Q o g s) {i : Nat} {hx : LkH} {lx : Lk} (hhx : g.lh[i]? = some hx) (hlx : s.ls[i]? = some lx) {h1 : Hd} {ys : List Int} (k6 : Chg (fun b => some b = qB hx.readers.1) w w6) (R6 : SE En.int w6 base 3 h1.1 h1.2.1 h1.2.2 ys) (hr6 : qB h1.1 = qB hx.readers.1 ∨ qB h1.1 = some w.heap.size ∨ h1.1 = none)
    {a : Addr} (ha : g.q2 = some a) (e7 : w7 = setCells (a.add (i * 3)) 0 [.slice h1.1 h1.2.1 h1.2.2] w6) (hQ : Q + ys.length ≤ Q' + lx.readers.length) :
    InvG w7 base N Q' o { g with lh := g.lh.set i ⟨h1, hx.writer, hx.hd⟩ } { s with ls := s.ls.set i ⟨ys, lx.writer, lx.queue⟩ } ∧ Stp o w g w7 { g with lh := g.lh.set i ⟨h1, hx.writer, hx.hd⟩ } := by
  have hri := map_at (f := LkH.readers) hhx
  have hrs := map_at (f := Lk.readers) hlx
  have Re := h.rds.se i hx.readers lx.readers hri hrs
  obtain ⟨o6, m6, l6, d6, t6, w6'⟩ := h.toParts.turnr Re k6
  have rr := h.rds.set hri k6 R6 hr6
  obtain ⟨S7, k7⟩ := l6.setAt (w' := w7) (o := 0) (x' := ⟨h1, hx.writer, hx.hd⟩) ha hhx (by show 0 + 1 ≤ 3; decide) (lkh_rd hx h1) (by rw [add_zero']; exact e7)
  have eq6 : RowsE En.wt w6 base 106 g.qs s.qs := h.que.chgS Re (by decide) k6
  have er : (g.lh.set i ⟨h1, hx.writer, hx.hd⟩).map LkH.readers = (g.lh.map LkH.readers).set i h1 := by rw [List.map_set]
  have es' : (s.ls.set i ⟨ys, lx.writer, lx.queue⟩).map Lk.readers = (s.ls.map Lk.readers).set i ys := by rw [List.map_set]
  have nb : ∀ {b : Nat} {t : TypeId} {cs : Array Value}, Blk w6 b t cs → t ≠ 99 → ¬ (some b = qB g.q2) := fun B ht e => SE.ne l6 B ht _ e.symm rfl
  have ns : ∀ {α : Type} {E : En α} {e : TypeId} {q' : Option Addr} {l' c' : Nat} {ys : List α}, SE E w6 base e q' l' c' ys → e ≠ 99 → SE E w7 base e q' l' c' ys := fun S ht => S.chg k7 fun b hb e => by
    obtain ⟨cur, B⟩ := S.blk hb
    exact nb B ht e
  have eg : ({ g with lh := g.lh.set i ⟨h1, hx.writer, hx.hd⟩ } : G8).qs = g.qs := by
    show g.hs.map MxH.hd ++ ((g.lh.set i ⟨h1, hx.writer, hx.hd⟩).map LkH.hd ++ g.ch) = _
    rw [List.map_set, set_same (map_at (f := LkH.hd) hhx), G8.qs]
  have es : ({ s with ls := s.ls.set i ⟨ys, lx.writer, lx.queue⟩ } : S8).qs = s.qs := by
    show s.ms.map Mx.queue ++ ((s.ls.set i ⟨ys, lx.writer, lx.queue⟩).map Lk.queue ++ s.cs) = _
    rw [List.map_set, set_same (map_at (f := Lk.queue) hlx), S8.qs]
  have B7 : Blk w7 o 89 #[.slice g.qm s.ms.length g.cm, .slice g.q2 (s.ls.set i ⟨ys, lx.writer, lx.queue⟩).length g.c2, .slice g.q3 s.cs.length g.c3, .slice g.q4 s.ns.length g.c4, .map (some g.m)] := by
    rw [List.length_set]; exact k7.blk o6 (nb o6 (by decide))
  have P7 : Parts w7 base o { g with lh := g.lh.set i ⟨h1, hx.writer, hx.hd⟩ } { s with ls := s.ls.set i ⟨ys, lx.writer, lx.queue⟩ } :=
    ⟨B7, ns m6 (by decide), by show SE En.lkh w7 base 99 g.q2 (s.ls.set i ⟨ys, lx.writer, lx.queue⟩).length g.c2 _; rw [List.length_set]; exact S7, ns d6 (by decide), ns t6 (by decide), by show RowsE En.int w7 base 3 ((g.lh.set i ⟨h1, hx.writer, hx.hd⟩).map LkH.readers) ((s.ls.set i ⟨ys, lx.writer, lx.queue⟩).map Lk.readers); rw [er, es']; exact rr.chgS l6 (by decide) k7, w6'.chg k7 fun e => by
      obtain ⟨cur, B⟩ := l6.blk e.symm
      exact Mp.ne w6' B rfl⟩
  refine ⟨{ P7 with bo := h.bo, own := h.own, wri := ?_, que := ?_, bm := h.bm, hn := h.hn, hq := ?_, ht := ?_, hc := h.hc }, ⟨(k6.mono fun b _ hb => .rds (List.mem_of_getElem? hhx) hb.symm).trans (k7.mono fun b _ hb => .lk hb.symm), lrow_own (fun x hx' b hb => ?_) fun x hx' b hb => ?_⟩⟩
  · show (g.lh.set i ⟨h1, hx.writer, hx.hd⟩).map LkH.writer = (s.ls.set i ⟨ys, lx.writer, lx.queue⟩).map Lk.writer
    rw [List.map_set, List.map_set, set_same (map_at (f := LkH.writer) hhx), set_same (map_at (f := Lk.writer) hlx)]
    exact h.wri
  · rw [eg, es]; exact eq6.chgS l6 (by decide) k7
  · rw [es]
    show _ + tot ((s.ls.set i ⟨ys, lx.writer, lx.queue⟩).map Lk.readers) ≤ _
    rw [es']
    have := tot_set (ys := ys) hrs
    have := h.hq
    omega
  · rw [es]; exact h.ht
  · rcases List.mem_or_eq_of_mem_set hx' with hm | rfl
    · exact .inl (.rds hm hb)
    · rcases hr6 with e | e | e
      · exact .inl (.rds (List.mem_of_getElem? hhx) (e ▸ hb))
      · rw [e] at hb; cases hb; exact .inr (Nat.le_refl _)
      · rw [e] at hb; simp [qB] at hb
  · rw [eg] at hx'; exact .inl (.que hx' hb)
end
end Full
end Go.Proofs.Ytibpbbjlecohiaa
