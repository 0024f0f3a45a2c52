import Derived.Test.YtibpbbjlecohiaaLaC
set_option maxRecDepth 20000
namespace Go.Proofs.Ytibpbbjlecohiaa
namespace Full
open Go Go.Vc Go.RowKit
structure Lk where
  readers : List Int
  writer : Int
  queue : List Wt
/-- the latches -/
structure S8 where
  ms : List Mx
  ls : List Lk
  cs : List (List Wt)
  ns : List Int
  wt : Int → Option W3
/-- where they lie -/
structure G8 where
  qm : Option Addr
  cm : Nat
  q2 : Option Addr
  c2 : Nat
  q3 : Option Addr
  c3 : Nat
  q4 : Option Addr
  c4 : Nat
  m : Nat
  n : Nat
  hs : List MxH
  lh : List LkH
  ch : List Hd
def S8.qs (s : S8) : List (List Wt) := s.ms.map Mx.queue ++ (s.ls.map Lk.queue ++ s.cs)
def G8.qs (g : G8) : List Hd := g.hs.map MxH.hd ++ (g.lh.map LkH.hd ++ g.ch)
def tot {α : Type} (xss : List (List α)) : Nat := (xss.map List.length).sum
/-- the world's facts, but for the queues -/
structure Parts (w : World) (base o : Nat) (g : G8) (s : S8) : Prop where
  obj : Blk w o 89 #[.slice g.qm s.ms.length g.cm, .slice g.q2 s.ls.length g.c2, .slice g.q3 s.cs.length g.c3, .slice g.q4 s.ns.length g.c4, .map (some g.m)]
  mx : SE En.mxh w base 97 g.qm s.ms.length g.cm g.hs
  lk : SE En.lkh w base 99 g.q2 s.ls.length g.c2 g.lh
  cd : SE En.hd w base 95 g.q3 s.cs.length g.c3 g.ch
  ct : SE En.int w base 2 g.q4 s.ns.length g.c4 s.ns
  rds : RowsE En.int w base 3 (g.lh.map LkH.readers) (s.ls.map Lk.readers)
  wts : Mp Try.prog 3 w g.m g.n s.wt
structure InvG (w : World) (base N Q o : Nat) (g : G8) (s : S8) : Prop extends Parts w base o g s where
  bo : base ≤ o
  own : g.hs.map MxH.owner = s.ms.map Mx.owner
  wri : g.lh.map LkH.writer = s.ls.map Lk.writer
  que : RowsE En.wt w base 106 g.qs s.qs
  bm : base ≤ g.m
  hn : g.n + tot s.cs ≤ N
  hq : tot s.qs + tot (s.ls.map Lk.readers) ≤ Q
  ht : ∀ x ∈ s.qs, ∀ y ∈ x, ok64 y.task
  hc : ∀ x ∈ s.cs, ∀ y ∈ x, 0 ≤ y.mutex ∧ y.mutex < s.ms.length
/-- the blocks that are theirs -/
inductive Own (g : G8) (o : Nat) : Nat → Prop where
  | obj : Own g o o
  | map : Own g o g.m
  | mx {b : Nat} : qB g.qm = some b → Own g o b
  | lk {b : Nat} : qB g.q2 = some b → Own g o b
  | cd {b : Nat} : qB g.q3 = some b → Own g o b
  | ct {b : Nat} : qB g.q4 = some b → Own g o b
  | rds {b : Nat} {h : LkH} : h ∈ g.lh → qB h.readers.1 = some b → Own g o b
  | que {b : Nat} {h : Hd} : h ∈ g.qs → qB h.1 = some b → Own g o b
theorem InvG.chg {w w' : World} {base N Q o : Nat} {g : G8} {s : S8} (h : InvG w base N Q o g s) {S : Nat → Prop} (k : Chg S w w') (hS : ∀ b, S b → ¬ Own g o b) : InvG w' base N Q o g s :=
  { h with
    obj := k.blk h.obj fun hs => hS _ hs .obj
    mx := h.mx.chg k fun b hb hs => hS _ hs (.mx hb)
    lk := h.lk.chg k fun b hb hs => hS _ hs (.lk hb)
    cd := h.cd.chg k fun b hb hs => hS _ hs (.cd hb)
    ct := h.ct.chg k fun b hb hs => hS _ hs (.ct hb)
    rds := h.rds.chg k fun x hx b hb hs => by
      obtain ⟨y, hy, rfl⟩ := List.mem_map.1 hx
      exact hS _ hs (.rds hy hb)
    que := h.que.chg k fun x hx b hb hs => hS _ hs (.que hx hb)
    wts := h.wts.chg k fun hs => hS _ hs .map }
theorem InvG.chgN {w w' : World} {base N Q o : Nat} {g : G8} {s : S8} (h : InvG w base N Q o g s) (k : Chg none_ w w') : InvG w' base N Q o g s := h.chg k fun _ h => h.elim
theorem InvG.up {w : World} {base N N' Q Q' o : Nat} {g : G8} {s : S8} (h : InvG w base N Q o g s) (hN : N ≤ N') (hQ : Q ≤ Q') : InvG w base N' Q' o g s :=
  { h with hn := Nat.le_trans h.hn hN, hq := Nat.le_trans h.hq hQ }
/-- each of their blocks is there, and of its type -/
theorem InvG.own_lt {w : World} {base N Q o : Nat} {g : G8} {s : S8} (h : InvG w base N Q o g s) {b : Nat} (hb : Own g o b) : b < w.heap.size ∧ base ≤ b := by
  cases hb with
  | obj => exact ⟨h.obj.lt, h.bo⟩
  | map => exact ⟨h.wts.lt, h.bm⟩
  | mx hq => exact h.mx.lt hq
  | lk hq => exact h.lk.lt hq
  | cd hq => exact h.cd.lt hq
  | ct hq => exact h.ct.lt hq
  | rds hx hq =>
    obtain ⟨i, hi⟩ := List.getElem?_of_mem hx
    obtain ⟨xs, _, se⟩ := h.rds.at' (map_at (f := LkH.readers) hi)
    exact se.lt hq
  | que hx hq =>
    obtain ⟨i, hi⟩ := List.getElem?_of_mem hx
    obtain ⟨xs, _, se⟩ := h.que.at' hi
    exact se.lt hq
/-- what a call does: their blocks alone turn; new ones may become theirs -/
structure Stp (o : Nat) (w : World) (g : G8) (w' : World) (g' : G8) : Prop where
  chg : Chg (Own g o) w w'
  grow : ∀ b, Own g' o b → Own g o b ∨ w.heap.size ≤ b
theorem Stp.refl (o : Nat) (w : World) (g : G8) : Stp o w g w g := ⟨Chg.refl _ _, fun _ h => .inl h⟩
theorem Stp.ofN {o : Nat} {w w' : World} {g : G8} (k : Chg none_ w w') : Stp o w g w' g := ⟨k.of_none _, fun _ h => .inl h⟩
theorem Stp.trans {o : Nat} {w w' w'' : World} {g g' g'' : G8} (h : Stp o w g w' g') (k : Stp o w' g' w'' g'') : Stp o w g w'' g'' :=
  ⟨h.chg.trans' k.chg fun b hb => h.grow b hb, fun b hb => by
    rcases k.grow b hb with h1 | h1
    · exact h.grow b h1
    · exact .inr (Nat.le_trans h.chg.size h1)⟩
/-- what lies outside stays -/
theorem Stp.up {o : Nat} {w0 w w' : World} {g g' : G8} (h : Stp o w g w' g') (c : Chg none_ w0 w) {base N Q : Nat} {s : S8} (I : InvG w base N Q o g s) (hb : w0.heap.size ≤ base) : Chg none_ w0 w' :=
  c.up h.chg fun _ hb' => Nat.le_trans hb (I.own_lt hb').2
theorem tot_set {α : Type} : ∀ {xss : List (List α)} {i : Nat} {xs ys : List α}, xss[i]? = some xs → tot (xss.set i ys) + xs.length = tot xss + ys.length
  | [], i, xs, ys, h => by simp at h
  | z :: zs, 0, xs, ys, h => by
    simp at h; subst h
    simp [tot]; omega
  | z :: zs, i + 1, xs, ys, h => by
    have := tot_set (xss := zs) (i := i) (ys := ys) (by simpa using h)
    simp [tot] at this ⊢; omega
theorem tot_at {α : Type} : ∀ {xss : List (List α)} {i : Nat} {xs : List α}, xss[i]? = some xs → xs.length ≤ tot xss
  | [], i, xs, h => by simp at h
  | z :: zs, 0, xs, h => by
    simp at h; subst h
    simp [tot]
  | z :: zs, i + 1, xs, h => by
    have := tot_at (xss := zs) (i := i) (by simpa using h)
    simp [tot] at this ⊢; omega
theorem app_at {α : Type} {a b : List α} {i : Nat} {x : α} (h : a[i]? = some x) : (a ++ b)[i]? = some x := by rw [List.getElem?_append_left (get_lt h)]; exact h
theorem app_set {α : Type} {a b : List α} {i : Nat} {y : α} (h : i < a.length) : (a ++ b).set i y = a.set i y ++ b := by rw [List.set_append, if_pos h]
/-- a block of waiters turns -/
theorem Parts.turn {w w' : World} {base o : Nat} {g : G8} {s : S8} (h : Parts w base o g s) {q : Option Addr} {l c : Nat} {xs : List Wt} (Qe : SE En.wt w base 106 q l c xs) (k : Chg (fun b => some b = qB q) w w') : Parts w' base o g s := by
  have nb : ∀ {b : Nat} {t : TypeId} {cs : Array Value}, Blk w b t cs → t ≠ 106 → ¬ (some b = qB q) := fun B ht e => SE.ne Qe B ht _ e.symm rfl
  have ns : ∀ {α : Type} {E : En α} {e : TypeId} {q' : Option Addr} {l' c' : Nat} {ys : List α}, SE E w base e q' l' c' ys → e ≠ 106 → SE E w' base e q' l' c' ys := fun S ht => S.chg k fun b hb e => by
    obtain ⟨cur, B⟩ := S.blk hb
    exact nb B ht e
  exact ⟨k.blk h.obj (nb h.obj (by decide)), ns h.mx (by decide), ns h.lk (by decide), ns h.cd (by decide), ns h.ct (by decide), h.rds.chgS Qe (by decide) k, h.wts.chg k fun e => by
    obtain ⟨cur, B⟩ := Qe.blk e.symm
    exact Mp.ne h.wts B rfl⟩
/-- a mutex' row is written -/
theorem Parts.mrow {w w' : World} {base o : Nat} {g : G8} {s : S8} (h : Parts w base o g s) (k : Chg (fun b => some b = qB g.qm) w w') {hs : List MxH} {ms : List Mx} (S : SE En.mxh w' base 97 g.qm ms.length g.cm hs) (hl : ms.length = s.ms.length) : Parts w' base o { g with hs := hs } { s with ms := ms } := by
  have nb : ∀ {b : Nat} {t : TypeId} {cs : Array Value}, Blk w b t cs → t ≠ 97 → ¬ (some b = qB g.qm) := fun B ht e => SE.ne h.mx B ht _ e.symm rfl
  have ns : ∀ {α : Type} {E : En α} {e : TypeId} {q' : Option Addr} {l' c' : Nat} {ys : List α}, SE E w base e q' l' c' ys → e ≠ 97 → SE E w' base e q' l' c' ys := fun S ht => S.chg k fun b hb e => by
    obtain ⟨cur, B⟩ := S.blk hb
    exact nb B ht e
  refine ⟨?_, S, ns h.lk (by decide), ns h.cd (by decide), ns h.ct (by decide), h.rds.chgS h.mx (by decide) k, h.wts.chg k fun e => by
    obtain ⟨cur, B⟩ := h.mx.blk e.symm
    exact Mp.ne h.wts B rfl⟩
  show Blk w' o 89 #[.slice g.qm ms.length g.cm, _, _, _, _]
  rw [hl]
  exact k.blk h.obj (nb h.obj (by decide))
/-- a lock's row is written -/
theorem Parts.lrow {w w' : World} {base o : Nat} {g : G8} {s : S8} (h : Parts w base o g s) (k : Chg (fun b => some b = qB g.q2) w w') {lh : List LkH} {ls : List Lk} (S : SE En.lkh w' base 99 g.q2 ls.length g.c2 lh) (hl : ls.length = s.ls.length) (hr : RowsE En.int w base 3 (lh.map LkH.readers) (ls.map Lk.readers)) : Parts w' base o { g with lh := lh } { s with ls := ls } := by
  have nb : ∀ {b : Nat} {t : TypeId} {cs : Array Value}, Blk w b t cs → t ≠ 99 → ¬ (some b = qB g.q2) := fun B ht e => SE.ne h.lk B ht _ e.symm rfl
  have ns : ∀ {α : Type} {E : En α} {e : TypeId} {q' : Option Addr} {l' c' : Nat} {ys : List α}, SE E w base e q' l' c' ys → e ≠ 99 → SE E w' base e q' l' c' ys := fun S ht => S.chg k fun b hb e => by
    obtain ⟨cur, B⟩ := S.blk hb
    exact nb B ht e
  refine ⟨?_, ns h.mx (by decide), S, ns h.cd (by decide), ns h.ct (by decide), hr.chgS h.lk (by decide) k, h.wts.chg k fun e => by
    obtain ⟨cur, B⟩ := h.lk.blk e.symm
    exact Mp.ne h.wts B rfl⟩
  show Blk w' o 89 #[_, .slice g.q2 ls.length g.c2, _, _, _]
  rw [hl]
  exact k.blk h.obj (nb h.obj (by decide))
/-- a condition's row is written -/
theorem Parts.crow {w w' : World} {base o : Nat} {g : G8} {s : S8} (h : Parts w base o g s) (k : Chg (fun b => some b = qB g.q3) w w') {ch : List Hd} {cs : List (List Wt)} (S : SE En.hd w' base 95 g.q3 cs.length g.c3 ch) (hl : cs.length = s.cs.length) : Parts w' base o { g with ch := ch } { s with cs := cs } := by
  have nb : ∀ {b : Nat} {t : TypeId} {cs : Array Value}, Blk w b t cs → t ≠ 95 → ¬ (some b = qB g.q3) := fun B ht e => SE.ne h.cd B ht _ e.symm rfl
  have ns : ∀ {α : Type} {E : En α} {e : TypeId} {q' : Option Addr} {l' c' : Nat} {ys : List α}, SE E w base e q' l' c' ys → e ≠ 95 → SE E w' base e q' l' c' ys := fun S ht => S.chg k fun b hb e => by
    obtain ⟨cur, B⟩ := S.blk hb
    exact nb B ht e
  refine ⟨?_, ns h.mx (by decide), ns h.lk (by decide), S, ns h.ct (by decide), h.rds.chgS h.cd (by decide) k, h.wts.chg k fun e => by
    obtain ⟨cur, B⟩ := h.cd.blk e.symm
    exact Mp.ne h.wts B rfl⟩
  show Blk w' o 89 #[_, _, .slice g.q3 cs.length g.c3, _, _]
  rw [hl]
  exact k.blk h.obj (nb h.obj (by decide))
end Full
end Go.Proofs.Ytibpbbjlecohiaa
set_option maxRecDepth 20000
namespace Go.Proofs.Ytibpbbjlecohiaa
namespace Full
open Go Go.Vc Go.RowKit
theorem app_set2 {α : Type} {a b : List α} {i : Nat} {y : α} : (a ++ b).set (a.length + i) y = a ++ b.set i y := by
  rw [List.set_append, if_neg (by omega), Nat.add_sub_cancel_left]
theorem app_at2 {α : Type} {a b : List α} {i : Nat} {x : α} (h : b[i]? = some x) : (a ++ b)[a.length + i]? = some x := by
  rw [List.getElem?_append_right (by omega), Nat.add_sub_cancel_left]; exact h
section
variable {w w6 w7 : World} {base N Q Q' o : Nat} {g : G8} {s : S8}
/-- what becomes of all, one queue made anew and its row's head written: common part -/
theorem InvG.qcore (h : InvG w base N Q o g s) {j : Nat} {h0 h1 : Hd} {xs ys : List Wt} (hj : g.qs[j]? = some h0) (hx : s.qs[j]? = some xs) (k6 : Chg (fun b => some b = qB h0.1) w w6) (Q6 : SE En.wt w6 base 106 h1.1 h1.2.1 h1.2.2 ys) (hq6 : qB h1.1 = qB h0.1 ∨ qB h1.1 = some w.heap.size ∨ h1.1 = none)
    (hQ : Q + ys.length ≤ Q' + xs.length) (ht : ∀ y ∈ ys, ok64 y.task) :
    RowsE En.wt w6 base 106 (g.qs.set j h1) (s.qs.set j ys) ∧ tot (s.qs.set j ys) + tot (s.ls.map Lk.readers) ≤ Q' ∧ (∀ x ∈ s.qs.set j ys, ∀ y ∈ x, ok64 y.task) ∧ Parts w6 base o g s ∧ Chg (Own g o) w w6 ∧ ∀ (h : Hd) (b : Nat), h ∈ g.qs.set j h1 → qB h.1 = some b → Own g o b ∨ w.heap.size ≤ b := by
  refine ⟨h.que.set hj k6 Q6 hq6, ?_, fun x hx y hy => ?_, h.toParts.turn (h.que.se j h0 xs hj hx) k6, k6.mono fun b _ hb => .que (List.mem_of_getElem? hj) hb.symm, fun z b hz hb => ?_⟩
  · have := tot_set (ys := ys) hx
    have := h.hq
    omega
  · rcases List.mem_or_eq_of_mem_set hx with hx | rfl
    · exact h.ht x hx y hy
    · exact ht y hy
  · rcases List.mem_or_eq_of_mem_set hz with hz | rfl
    · exact .inl (.que hz hb)
    · rcases hq6 with e | e | e
      · exact .inl (.que (List.mem_of_getElem? hj) (e ▸ hb))
      · rw [e] at hb; cases hb; exact .inr (Nat.le_refl _)
      · rw [e] at hb; simp [qB] at hb
theorem wt_lt {w : World} {base N Q o : Nat} {g : G8} {s : S8} (h : InvG w base N Q o g s) {j : Nat} {xs : List Wt} (hx : s.qs[j]? = some xs) : xs.length ≤ Q := by
  have := tot_at hx; have := h.hq; omega
/-- a mutex' queue -/
theorem InvG.mq (h : InvG w base N Q o g s) {i : Nat} {hx : MxH} {mx : Mx} (hhx : g.hs[i]? = some hx) (hmx : s.ms[i]? = some mx) {h1 : Hd} {ys : List Wt} (k6 : Chg (fun b => some b = qB hx.hd.1) w w6) (Q6 : SE En.wt w6 base 106 h1.1 h1.2.1 h1.2.2 ys) (hq6 : qB h1.1 = qB hx.hd.1 ∨ qB h1.1 = some w.heap.size ∨ h1.1 = none)
    {a : Addr} (ha : g.qm = some a) (e7 : w7 = setCells ((a.add (i * 2)).add 1) 0 [.slice h1.1 h1.2.1 h1.2.2] w6) (hQ : Q + ys.length ≤ Q' + mx.queue.length) (ht : ∀ y ∈ ys, ok64 y.task) :
    InvG w7 base N Q' o { g with hs := g.hs.set i ⟨hx.owner, h1⟩ } { s with ms := s.ms.set i ⟨mx.owner, ys⟩ } ∧ Stp o w g w7 { g with hs := g.hs.set i ⟨hx.owner, h1⟩ } := by
  have hj : g.qs[i]? = some hx.hd := app_at (map_at (f := MxH.hd) hhx)
  have hx' : s.qs[i]? = some mx.queue := app_at (map_at (f := Mx.queue) hmx)
  obtain ⟨R6, T6, t6, P6, c6, g6⟩ := h.qcore hj hx' k6 Q6 hq6 hQ ht
  obtain ⟨S7, k7⟩ := P6.mx.setAt (w' := w7) (o := 1) (x' := ⟨hx.owner, h1⟩) ha hhx (by show 1 + 1 ≤ 2; decide) (mxh_hd hx h1) e7
  have P7 := P6.mrow (hs := g.hs.set i ⟨hx.owner, h1⟩) (ms := s.ms.set i ⟨mx.owner, ys⟩) k7 (by rw [List.length_set]; exact S7) (by simp)
  have eg : ({ g with hs := g.hs.set i ⟨hx.owner, h1⟩ } : G8).qs = g.qs.set i h1 := by
    show (g.hs.set i ⟨hx.owner, h1⟩).map MxH.hd ++ _ = _
    rw [List.map_set, G8.qs, app_set (by simp; exact get_lt hhx)]
  have es : ({ s with ms := s.ms.set i ⟨mx.owner, ys⟩ } : S8).qs = s.qs.set i ys := by
    show (s.ms.set i ⟨mx.owner, ys⟩).map Mx.queue ++ _ = _
    rw [List.map_set, S8.qs, app_set (by simp; exact get_lt hmx)]
  refine ⟨{ P7 with bo := h.bo, own := ?_, wri := h.wri, que := ?_, bm := h.bm, hn := h.hn, hq := ?_, ht := ?_, hc := fun x hx y hy => by simpa using h.hc x hx y hy }, ⟨c6.trans (k7.mono fun b _ hb => .mx hb.symm), fun b hb => ?_⟩⟩
  · show (g.hs.set i ⟨hx.owner, h1⟩).map MxH.owner = (s.ms.set i ⟨mx.owner, ys⟩).map Mx.owner
    have e1 := map_at (f := MxH.owner) hhx
    have e2 := map_at (f := Mx.owner) hmx
    rw [List.map_set, List.map_set, set_same e1, set_same e2]
    exact h.own
  · rw [eg, es]; exact R6.chgS P6.mx (by decide) k7
  · rw [es]; exact T6
  · rw [es]; exact t6
  · cases hb with
    | obj => exact .inl .obj
    | map => exact .inl .map
    | mx hb => exact .inl (.mx hb)
    | lk hb => exact .inl (.lk hb)
    | cd hb => exact .inl (.cd hb)
    | ct hb => exact .inl (.ct hb)
    | rds hm hb => exact .inl (.rds hm hb)
    | que hm hb => rw [eg] at hm; exact g6 _ b hm hb
/-- a mutex' owner -/
theorem InvG.ow (h : InvG w base N Q o g s) {i : Nat} {hx : MxH} {mx : Mx} (hhx : g.hs[i]? = some hx) (hmx : s.ms[i]? = some mx) (x : Int) {a : Addr} (ha : g.qm = some a) (e7 : w7 = setCells (a.add (i * 2)) 0 [.int .i64 x] w) :
    InvG w7 base N Q o { g with hs := g.hs.set i ⟨x, hx.hd⟩ } { s with ms := s.ms.set i ⟨x, mx.queue⟩ } ∧ Stp o w g w7 { g with hs := g.hs.set i ⟨x, hx.hd⟩ } := by
  obtain ⟨S7, k7⟩ := h.mx.setAt (w' := w7) (o := 0) (x' := ⟨x, hx.hd⟩) ha hhx (by show 0 + 1 ≤ 2; decide) (mxh_own hx x) (by rw [add_zero']; exact e7)
  have P7 := h.toParts.mrow (hs := g.hs.set i ⟨x, hx.hd⟩) (ms := s.ms.set i ⟨x, mx.queue⟩) k7 (by rw [List.length_set]; exact S7) (by simp)
  have eg : ({ g with hs := g.hs.set i ⟨x, hx.hd⟩ } : G8).qs = g.qs := by
    show (g.hs.set i ⟨x, hx.hd⟩).map MxH.hd ++ _ = _
    rw [List.map_set, set_same (map_at (f := MxH.hd) hhx), G8.qs]
  have es : ({ s with ms := s.ms.set i ⟨x, mx.queue⟩ } : S8).qs = s.qs := by
    show (s.ms.set i ⟨x, mx.queue⟩).map Mx.queue ++ _ = _
    rw [List.map_set, set_same (map_at (f := Mx.queue) hmx), S8.qs]
  refine ⟨{ P7 with bo := h.bo, own := ?_, wri := h.wri, que := ?_, bm := h.bm, hn := h.hn, hq := ?_, ht := ?_, hc := fun x hx y hy => by simpa using h.hc x hx y hy }, ⟨k7.mono fun b _ hb => .mx hb.symm, fun b hb => ?_⟩⟩
  · show (g.hs.set i ⟨x, hx.hd⟩).map MxH.owner = (s.ms.set i ⟨x, mx.queue⟩).map Mx.owner
    rw [List.map_set, List.map_set, h.own]
  · rw [eg, es]; exact h.que.chgS h.mx (by decide) k7
  · rw [es]; exact h.hq
  · rw [es]; exact h.ht
  · cases hb with
    | obj => exact .inl .obj
    | map => exact .inl .map
    | mx hb => exact .inl (.mx hb)
    | lk hb => exact .inl (.lk hb)
    | cd hb => exact .inl (.cd hb)
    | ct hb => exact .inl (.ct hb)
    | rds hm hb => exact .inl (.rds hm hb)
    | que hm hb => rw [eg] at hm; exact .inl (.que hm hb)
end
end Full
end Go.Proofs.Ytibpbbjlecohiaa
set_option maxRecDepth 20000
namespace Go.Proofs.Ytibpbbjlecohiaa
namespace Full
open Go Go.Vc Go.RowKit
theorem lkh_hd (x : LkH) (h : Hd) : ∀ j, (En.lkh.enc ⟨x.readers, x.writer, h⟩)[j]? = if 2 ≤ j ∧ j < 2 + [Value.slice h.1 h.2.1 h.2.2].length then [Value.slice h.1 h.2.1 h.2.2][j - 2]? else (En.lkh.enc x)[j]? := fun j => by
  rcases j with _ | _ | _ | j
  · rfl
  · rfl
  · rfl
  · rw [if_neg (by simp)]; rfl
theorem lkh_rd (x : LkH) (h : Hd) : ∀ j, (En.lkh.enc ⟨h, x.writer, x.hd⟩)[j]? = if 0 ≤ j ∧ j < 0 + [Value.slice h.1 h.2.1 h.2.2].length then [Value.slice h.1 h.2.1 h.2.2][j - 0]? else (En.lkh.enc x)[j]? := fun j => by
  rcases j with _ | j
  · rfl
  · rw [if_neg (by simp)]; rfl
section
variable {w w6 w7 : World} {base N Q Q' o : Nat} {g : G8} {s : S8}
theorem InvG.lq_at (h : InvG w base N Q o g s) {i : Nat} {hx : LkH} {lx : Lk} (hhx : g.lh[i]? = some hx) (hlx : s.ls[i]? = some lx) : g.qs[s.ms.length + i]? = some hx.hd ∧ s.qs[s.ms.length + i]? = some lx.queue := by
  constructor
  · have := app_at2 (a := g.hs.map MxH.hd) (app_at (b := g.ch) (map_at (f := LkH.hd) hhx))
    rw [List.length_map, h.mx.len] at this
    exact this
  · have := app_at2 (a := s.ms.map Mx.queue) (app_at (b := s.cs) (map_at (f := Lk.queue) hlx))
    rw [List.length_map] at this
    exact this
theorem InvG.cq_at (h : InvG w base N Q o g s) {i : Nat} {hd : Hd} {xs : List Wt} (hhx : g.ch[i]? = some hd) (hcx : s.cs[i]? = some xs) : g.qs[s.ms.length + (s.ls.length + i)]? = some hd ∧ s.qs[s.ms.length + (s.ls.length + i)]? = some xs := by
  constructor
  · have := app_at2 (a := g.hs.map MxH.hd) (app_at2 (a := g.lh.map LkH.hd) hhx)
    rw [List.length_map, List.length_map, h.mx.len, h.lk.len] at this
    exact this
  · have := app_at2 (a := s.ms.map Mx.queue) (app_at2 (a := s.ls.map Lk.queue) hcx)
    rw [List.length_map, List.length_map] at this
    exact this
/-- a lock's row: its readers' slice, its writer and its queue's slice at will, the queues' turn done before -/
theorem lrow_own {g : G8} {o : Nat} {lh : List LkH} (hb : ∀ x ∈ lh, ∀ b, qB x.readers.1 = some b → Own g o b ∨ w.heap.size ≤ b) (hq : ∀ x ∈ ({ g with lh := lh } : G8).qs, ∀ b, qB x.1 = some b → Own g o b ∨ w.heap.size ≤ b) : ∀ b, Own { g with lh := lh } o b → Own g o b ∨ w.heap.size ≤ b := fun b hb' => by
  cases hb' with
  | obj => exact .inl .obj
  | map => exact .inl .map
  | mx hb => exact .inl (.mx hb)
  | lk hb => exact .inl (.lk hb)
  | cd hb => exact .inl (.cd hb)
  | ct hb => exact .inl (.ct hb)
  | rds hm h => exact hb _ hm b h
  | que hm h => exact hq _ hm b h
/-- a lock's queue -/
theorem InvG.lq (h : InvG w base N Q o g s) {i : Nat} {hx : LkH} {lx : Lk} (hhx : g.lh[i]? = some hx) (hlx : s.ls[i]? = some lx) {h1 : Hd} {ys : List Wt} (k6 : Chg (fun b => some b = qB hx.hd.1) w w6) (Q6 : SE En.wt w6 base 106 h1.1 h1.2.1 h1.2.2 ys) (hq6 : qB h1.1 = qB hx.hd.1 ∨ qB h1.1 = some w.heap.size ∨ h1.1 = none)
    {a : Addr} (ha : g.q2 = some a) (e7 : w7 = setCells ((a.add (i * 3)).add 2) 0 [.slice h1.1 h1.2.1 h1.2.2] w6) (hQ : Q + ys.length ≤ Q' + lx.queue.length) (ht : ∀ y ∈ ys, ok64 y.task) :
    InvG w7 base N Q' o { g with lh := g.lh.set i ⟨hx.readers, hx.writer, h1⟩ } { s with ls := s.ls.set i ⟨lx.readers, lx.writer, ys⟩ } ∧ Stp o w g w7 { g with lh := g.lh.set i ⟨hx.readers, hx.writer, h1⟩ } := by
  obtain ⟨hj, hx'⟩ := h.lq_at hhx hlx
  obtain ⟨R6, T6, t6, P6, c6, g6⟩ := h.qcore hj hx' k6 Q6 hq6 hQ ht
  obtain ⟨S7, k7⟩ := P6.lk.setAt (w' := w7) (o := 2) (x' := ⟨hx.readers, hx.writer, h1⟩) ha hhx (by show 2 + 1 ≤ 3; decide) (lkh_hd hx h1) e7
  have er : (g.lh.set i ⟨hx.readers, hx.writer, h1⟩).map LkH.readers = g.lh.map LkH.readers := by rw [List.map_set, set_same (map_at (f := LkH.readers) hhx)]
  have es' : (s.ls.set i ⟨lx.readers, lx.writer, ys⟩).map Lk.readers = s.ls.map Lk.readers := by rw [List.map_set, set_same (map_at (f := Lk.readers) hlx)]
  have P7 := P6.lrow (lh := g.lh.set i ⟨hx.readers, hx.writer, h1⟩) (ls := s.ls.set i ⟨lx.readers, lx.writer, ys⟩) k7 (by rw [List.length_set]; exact S7) (by simp) (by rw [er, es']; exact P6.rds)
  have eg : ({ g with lh := g.lh.set i ⟨hx.readers, hx.writer, h1⟩ } : G8).qs = g.qs.set (s.ms.length + i) h1 := by
    show g.hs.map MxH.hd ++ ((g.lh.set i ⟨hx.readers, hx.writer, h1⟩).map LkH.hd ++ g.ch) = _
    have := app_set2 (a := g.hs.map MxH.hd) (b := g.lh.map LkH.hd ++ g.ch) (i := i) (y := h1)
    rw [List.length_map, h.mx.len] at this
    rw [G8.qs, this, app_set (by simp; exact get_lt hhx), List.map_set]
  have es : ({ s with ls := s.ls.set i ⟨lx.readers, lx.writer, ys⟩ } : S8).qs = s.qs.set (s.ms.length + i) ys := by
    show s.ms.map Mx.queue ++ ((s.ls.set i ⟨lx.readers, lx.writer, ys⟩).map Lk.queue ++ s.cs) = _
    have := app_set2 (a := s.ms.map Mx.queue) (b := s.ls.map Lk.queue ++ s.cs) (i := i) (y := ys)
    rw [List.length_map] at this
    rw [S8.qs, this, app_set (by simp; exact get_lt hlx), List.map_set]
  refine ⟨{ P7 with bo := h.bo, own := h.own, wri := ?_, que := ?_, bm := h.bm, hn := h.hn, hq := ?_, ht := ?_, hc := h.hc }, ⟨c6.trans (k7.mono fun b _ hb => .lk hb.symm), lrow_own (fun x hx' b hb => ?_) fun x hx' b hb => ?_⟩⟩
  · show (g.lh.set i ⟨hx.readers, hx.writer, h1⟩).map LkH.writer = (s.ls.set i ⟨lx.readers, lx.writer, ys⟩).map Lk.writer
    rw [List.map_set, List.map_set, set_same (map_at (f := LkH.writer) hhx), set_same (map_at (f := Lk.writer) hlx)]
    exact h.wri
  · rw [eg, es]; exact R6.chgS P6.lk (by decide) k7
  · rw [es]
    show _ + tot ((s.ls.set i ⟨lx.readers, lx.writer, ys⟩).map Lk.readers) ≤ _
    rw [es']; exact T6
  · rw [es]; exact t6
  · rcases List.mem_or_eq_of_mem_set hx' with hm | rfl
    · exact .inl (.rds hm hb)
    · exact .inl (.rds (List.mem_of_getElem? hhx) hb)
  · rw [eg] at hx'; exact g6 x b hx' hb
/-- a lock's writer -/
theorem InvG.wr (h : InvG w base N Q o g s) {i : Nat} {hx : LkH} {lx : Lk} (hhx : g.lh[i]? = some hx) (hlx : s.ls[i]? = some lx) (x : Int) {a : Addr} (ha : g.q2 = some a) (e7 : w7 = setCells ((a.add (i * 3)).add 1) 0 [.int .i64 x] w) :
    InvG w7 base N Q o { g with lh := g.lh.set i ⟨hx.readers, x, hx.hd⟩ } { s with ls := s.ls.set i ⟨lx.readers, x, lx.queue⟩ } ∧ Stp o w g w7 { g with lh := g.lh.set i ⟨hx.readers, x, hx.hd⟩ } := by
  obtain ⟨S7, k7⟩ := h.lk.setAt (w' := w7) (o := 1) (x' := ⟨hx.readers, x, hx.hd⟩) ha hhx (by show 1 + 1 ≤ 3; decide) (lkh_wr hx x) e7
  have er : (g.lh.set i ⟨hx.readers, x, hx.hd⟩).map LkH.readers = g.lh.map LkH.readers := by rw [List.map_set, set_same (map_at (f := LkH.readers) hhx)]
  have es' : (s.ls.set i ⟨lx.readers, x, lx.queue⟩).map Lk.readers = s.ls.map Lk.readers := by rw [List.map_set, set_same (map_at (f := Lk.readers) hlx)]
  have P7 := h.toParts.lrow (lh := g.lh.set i ⟨hx.readers, x, hx.hd⟩) (ls := s.ls.set i ⟨lx.readers, x, lx.queue⟩) k7 (by rw [List.length_set]; exact S7) (by simp) (by rw [er, es']; exact h.rds)
  have eg : ({ g with lh := g.lh.set i ⟨hx.readers, x, hx.hd⟩ } : G8).qs = g.qs := by
    show g.hs.map MxH.hd ++ ((g.lh.set i ⟨hx.readers, x, hx.hd⟩).map LkH.hd ++ g.ch) = _
    rw [List.map_set, set_same (map_at (f := LkH.hd) hhx), G8.qs]
  have es : ({ s with ls := s.ls.set i ⟨lx.readers, x, lx.queue⟩ } : S8).qs = s.qs := by
    show s.ms.map Mx.queue ++ ((s.ls.set i ⟨lx.readers, x, lx.queue⟩).map Lk.queue ++ s.cs) = _
    rw [List.map_set, set_same (map_at (f := Lk.queue) hlx), S8.qs]
  refine ⟨{ P7 with bo := h.bo, own := h.own, wri := ?_, que := ?_, bm := h.bm, hn := h.hn, hq := ?_, ht := ?_, hc := h.hc }, ⟨k7.mono fun b _ hb => .lk hb.symm, lrow_own (fun x hx' b hb => ?_) fun x hx' b hb => ?_⟩⟩
  · show (g.lh.set i ⟨hx.readers, x, hx.hd⟩).map LkH.writer = (s.ls.set i ⟨lx.readers, x, lx.queue⟩).map Lk.writer
    rw [List.map_set, List.map_set, h.wri]
  · rw [eg, es]; exact h.que.chgS h.lk (by decide) k7
  · rw [es]
    show _ + tot ((s.ls.set i ⟨lx.readers, x, lx.queue⟩).map Lk.readers) ≤ _
    rw [es']; exact h.hq
  · rw [es]; exact h.ht
  · rcases List.mem_or_eq_of_mem_set hx' with hm | rfl
    · exact .inl (.rds hm hb)
    · exact .inl (.rds (List.mem_of_getElem? hhx) hb)
  · rw [eg] at hx'; exact .inl (.que hx' hb)
/-- a block of readers turns -/
theorem Parts.turnr {w w' : World} {base o : Nat} {g : G8} {s : S8} (h : Parts w base o g s) {q : Option Addr} {l c : Nat} {xs : List Int} (Re : SE En.int w base 3 q l c xs) (k : Chg (fun b => some b = qB q) w w') :
    Blk w' o 89 #[.slice g.qm s.ms.length g.cm, .slice g.q2 s.ls.length g.c2, .slice g.q3 s.cs.length g.c3, .slice g.q4 s.ns.length g.c4, .map (some g.m)] ∧ SE En.mxh w' base 97 g.qm s.ms.length g.cm g.hs ∧ SE En.lkh w' base 99 g.q2 s.ls.length g.c2 g.lh ∧ SE En.hd w' base 95 g.q3 s.cs.length g.c3 g.ch ∧ SE En.int w' base 2 g.q4 s.ns.length g.c4 s.ns ∧ Mp Try.prog 3 w' g.m g.n s.wt := by
  have nb : ∀ {b : Nat} {t : TypeId} {cs : Array Value}, Blk w b t cs → t ≠ 3 → ¬ (some b = qB q) := fun B ht e => SE.ne Re B ht _ e.symm rfl
  have ns : ∀ {α : Type} {E : En α} {e : TypeId} {q' : Option Addr} {l' c' : Nat} {ys : List α}, SE E w base e q' l' c' ys → e ≠ 3 → SE E w' base e q' l' c' ys := fun S ht => S.chg k fun b hb e => by
    obtain ⟨cur, B⟩ := S.blk hb
    exact nb B ht e
  exact ⟨k.blk h.obj (nb h.obj (by decide)), ns h.mx (by decide), ns h.lk (by decide), ns h.cd (by decide), ns h.ct (by decide), h.wts.chg k fun e => by
    obtain ⟨cur, B⟩ := Re.blk e.symm
    exact Mp.ne h.wts B rfl⟩
/-- a lock's readers -/
theorem InvG.rd (h : InvG w base N Q o g s) {i : Nat} {hx : LkH} {lx : Lk} (hhx : g.lh[i]? = some hx) (hlx : s.ls[i]? = some lx) {h1 : Hd} {ys : List Int} (k6 : Chg (fun b => some b = qB hx.readers.1) w w6) (R6 : SE En.int w6 base 3 h1.1 h1.2.1 h1.2.2 ys) (hr6 : qB h1.1 = qB hx.readers.1 ∨ qB h1.1 = some w.heap.size ∨ h1.1 = none)
    {a : Addr} (ha : g.q2 = some a) (e7 : w7 = setCells (a.add (i * 3)) 0 [.slice h1.1 h1.2.1 h1.2.2] w6) (hQ : Q + ys.length ≤ Q' + lx.readers.length) :
    InvG w7 base N Q' o { g with lh := g.lh.set i ⟨h1, hx.writer, hx.hd⟩ } { s with ls := s.ls.set i ⟨ys, lx.writer, lx.queue⟩ } ∧ Stp o w g w7 { g with lh := g.lh.set i ⟨h1, hx.writer, hx.hd⟩ } := by
  have hri := map_at (f := LkH.readers) hhx
  have hrs := map_at (f := Lk.readers) hlx
  have Re := h.rds.se i hx.readers lx.readers hri hrs
  obtain ⟨o6, m6, l6, d6, t6, w6'⟩ := h.toParts.turnr Re k6
  have rr := h.rds.set hri k6 R6 hr6
  obtain ⟨S7, k7⟩ := l6.setAt (w' := w7) (o := 0) (x' := ⟨h1, hx.writer, hx.hd⟩) ha hhx (by show 0 + 1 ≤ 3; decide) (lkh_rd hx h1) (by rw [add_zero']; exact e7)
  have eq6 : RowsE En.wt w6 base 106 g.qs s.qs := h.que.chgS Re (by decide) k6
  have er : (g.lh.set i ⟨h1, hx.writer, hx.hd⟩).map LkH.readers = (g.lh.map LkH.readers).set i h1 := by rw [List.map_set]
  have es' : (s.ls.set i ⟨ys, lx.writer, lx.queue⟩).map Lk.readers = (s.ls.map Lk.readers).set i ys := by rw [List.map_set]
  have nb : ∀ {b : Nat} {t : TypeId} {cs : Array Value}, Blk w6 b t cs → t ≠ 99 → ¬ (some b = qB g.q2) := fun B ht e => SE.ne l6 B ht _ e.symm rfl
  have ns : ∀ {α : Type} {E : En α} {e : TypeId} {q' : Option Addr} {l' c' : Nat} {ys : List α}, SE E w6 base e q' l' c' ys → e ≠ 99 → SE E w7 base e q' l' c' ys := fun S ht => S.chg k7 fun b hb e => by
    obtain ⟨cur, B⟩ := S.blk hb
    exact nb B ht e
  have eg : ({ g with lh := g.lh.set i ⟨h1, hx.writer, hx.hd⟩ } : G8).qs = g.qs := by
    show g.hs.map MxH.hd ++ ((g.lh.set i ⟨h1, hx.writer, hx.hd⟩).map LkH.hd ++ g.ch) = _
    rw [List.map_set, set_same (map_at (f := LkH.hd) hhx), G8.qs]
  have es : ({ s with ls := s.ls.set i ⟨ys, lx.writer, lx.queue⟩ } : S8).qs = s.qs := by
    show s.ms.map Mx.queue ++ ((s.ls.set i ⟨ys, lx.writer, lx.queue⟩).map Lk.queue ++ s.cs) = _
    rw [List.map_set, set_same (map_at (f := Lk.queue) hlx), S8.qs]
  have B7 : Blk w7 o 89 #[.slice g.qm s.ms.length g.cm, .slice g.q2 (s.ls.set i ⟨ys, lx.writer, lx.queue⟩).length g.c2, .slice g.q3 s.cs.length g.c3, .slice g.q4 s.ns.length g.c4, .map (some g.m)] := by
    rw [List.length_set]; exact k7.blk o6 (nb o6 (by decide))
  have P7 : Parts w7 base o { g with lh := g.lh.set i ⟨h1, hx.writer, hx.hd⟩ } { s with ls := s.ls.set i ⟨ys, lx.writer, lx.queue⟩ } :=
    ⟨B7, ns m6 (by decide), by show SE En.lkh w7 base 99 g.q2 (s.ls.set i ⟨ys, lx.writer, lx.queue⟩).length g.c2 _; rw [List.length_set]; exact S7, ns d6 (by decide), ns t6 (by decide), by show RowsE En.int w7 base 3 ((g.lh.set i ⟨h1, hx.writer, hx.hd⟩).map LkH.readers) ((s.ls.set i ⟨ys, lx.writer, lx.queue⟩).map Lk.readers); rw [er, es']; exact rr.chgS l6 (by decide) k7, w6'.chg k7 fun e => by
      obtain ⟨cur, B⟩ := l6.blk e.symm
      exact Mp.ne w6' B rfl⟩
  refine ⟨{ P7 with bo := h.bo, own := h.own, wri := ?_, que := ?_, bm := h.bm, hn := h.hn, hq := ?_, ht := ?_, hc := h.hc }, ⟨(k6.mono fun b _ hb => .rds (List.mem_of_getElem? hhx) hb.symm).trans (k7.mono fun b _ hb => .lk hb.symm), lrow_own (fun x hx' b hb => ?_) fun x hx' b hb => ?_⟩⟩
  · show (g.lh.set i ⟨h1, hx.writer, hx.hd⟩).map LkH.writer = (s.ls.set i ⟨ys, lx.writer, lx.queue⟩).map Lk.writer
    rw [List.map_set, List.map_set, set_same (map_at (f := LkH.writer) hhx), set_same (map_at (f := Lk.writer) hlx)]
    exact h.wri
  · rw [eg, es]; exact eq6.chgS l6 (by decide) k7
  · rw [es]
    show _ + tot ((s.ls.set i ⟨ys, lx.writer, lx.queue⟩).map Lk.readers) ≤ _
    rw [es']
    have := tot_set (ys := ys) hrs
    have := h.hq
    omega
  · rw [es]; exact h.ht
  · rcases List.mem_or_eq_of_mem_set hx' with hm | rfl
    · exact .inl (.rds hm hb)
    · rcases hr6 with e | e | e
      · exact .inl (.rds (List.mem_of_getElem? hhx) (e ▸ hb))
      · rw [e] at hb; cases hb; exact .inr (Nat.le_refl _)
      · rw [e] at hb; simp [qB] at hb
  · rw [eg] at hx'; exact .inl (.que hx' hb)
end
end Full
end Go.Proofs.Ytibpbbjlecohiaa
set_option maxRecDepth 20000
namespace Go.Proofs.Ytibpbbjlecohiaa
namespace Full
open Go Go.Vc Go.RowKit
section
variable {w w6 w7 : World} {base N N' Q Q' o : Nat} {g : G8} {s : S8}
/-- a condition's queue -/
theorem InvG.cq (h : InvG w base N Q o g s) {i : Nat} {hd : Hd} {xs : List Wt} (hhx : g.ch[i]? = some hd) (hcx : s.cs[i]? = some xs) {h1 : Hd} {ys : List Wt} (k6 : Chg (fun b => some b = qB hd.1) w w6) (Q6 : SE En.wt w6 base 106 h1.1 h1.2.1 h1.2.2 ys) (hq6 : qB h1.1 = qB hd.1 ∨ qB h1.1 = some w.heap.size ∨ h1.1 = none)
    {a : Addr} (ha : g.q3 = some a) (e7 : w7 = setCells (a.add (i * 1)) 0 [.slice h1.1 h1.2.1 h1.2.2] w6) (hQ : Q + ys.length ≤ Q' + xs.length) (hN : N + ys.length ≤ N' + xs.length) (ht : ∀ y ∈ ys, ok64 y.task) (hc : ∀ y ∈ ys, 0 ≤ y.mutex ∧ y.mutex < s.ms.length) :
    InvG w7 base N' Q' o { g with ch := g.ch.set i h1 } { s with cs := s.cs.set i ys } ∧ Stp o w g w7 { g with ch := g.ch.set i h1 } := by
  obtain ⟨hj, hx'⟩ := h.cq_at hhx hcx
  obtain ⟨R6, T6, t6, P6, c6, g6⟩ := h.qcore hj hx' k6 Q6 hq6 hQ ht
  obtain ⟨S7, k7⟩ := P6.cd.set (w' := w7) (x' := h1) ha (i := i) (get_lt hcx) e7
  have P7 := P6.crow (ch := g.ch.set i h1) (cs := s.cs.set i ys) k7 (by rw [List.length_set]; exact S7) (by simp)
  have eg : ({ g with ch := g.ch.set i h1 } : G8).qs = g.qs.set (s.ms.length + (s.ls.length + i)) h1 := by
    show g.hs.map MxH.hd ++ (g.lh.map LkH.hd ++ g.ch.set i h1) = _
    have e1 := app_set2 (a := g.hs.map MxH.hd) (b := g.lh.map LkH.hd ++ g.ch) (i := s.ls.length + i) (y := h1)
    have e2 := app_set2 (a := g.lh.map LkH.hd) (b := g.ch) (i := i) (y := h1)
    rw [List.length_map, h.mx.len] at e1
    rw [List.length_map, h.lk.len] at e2
    rw [G8.qs, e1, e2]
  have es : ({ s with cs := s.cs.set i ys } : S8).qs = s.qs.set (s.ms.length + (s.ls.length + i)) ys := by
    show s.ms.map Mx.queue ++ (s.ls.map Lk.queue ++ s.cs.set i ys) = _
    have e1 := app_set2 (a := s.ms.map Mx.queue) (b := s.ls.map Lk.queue ++ s.cs) (i := s.ls.length + i) (y := ys)
    have e2 := app_set2 (a := s.ls.map Lk.queue) (b := s.cs) (i := i) (y := ys)
    rw [List.length_map] at e1 e2
    rw [S8.qs, e1, e2]
  refine ⟨{ P7 with bo := h.bo, own := h.own, wri := h.wri, que := ?_, bm := h.bm, hn := ?_, hq := ?_, ht := ?_, hc := fun x hx y hy => ?_ }, ⟨c6.trans (k7.mono fun b _ hb => .cd hb.symm), fun b hb => ?_⟩⟩
  · rw [eg, es]; exact R6.chgS P6.cd (by decide) k7
  · show g.n + tot (s.cs.set i ys) ≤ N'
    have := tot_set (ys := ys) hcx
    have := h.hn
    omega
  · rw [es]; exact T6
  · rw [es]; exact t6
  · rcases List.mem_or_eq_of_mem_set hx with hx | rfl
    · exact h.hc x hx y hy
    · exact hc y hy
  · cases hb with
    | obj => exact .inl .obj
    | map => exact .inl .map
    | mx hb => exact .inl (.mx hb)
    | lk hb => exact .inl (.lk hb)
    | cd hb => exact .inl (.cd hb)
    | ct hb => exact .inl (.ct hb)
    | rds hm hb => exact .inl (.rds hm hb)
    | que hm hb => rw [eg] at hm; exact g6 _ b hm hb
/-- a counter -/
theorem InvG.ct' (h : InvG w base N Q o g s) {i : Nat} (hi : i < s.ns.length) (x : Int) {a : Addr} (ha : g.q4 = some a) (e7 : w7 = setCells (a.add (i * 1)) 0 [.int .i64 x] w) :
    InvG w7 base N Q o g { s with ns := s.ns.set i x } ∧ Stp o w g w7 g := by
  obtain ⟨S7, k7⟩ := h.ct.set (w' := w7) (x' := x) ha (i := i) hi e7
  have nb : ∀ {b : Nat} {t : TypeId} {cs : Array Value}, Blk w b t cs → t ≠ 2 → ¬ (some b = qB g.q4) := fun B ht e => SE.ne h.ct B ht _ e.symm rfl
  have ns : ∀ {α : Type} {E : En α} {e : TypeId} {q' : Option Addr} {l' c' : Nat} {ys : List α}, SE E w base e q' l' c' ys → e ≠ 2 → SE E w7 base e q' l' c' ys := fun S ht => S.chg k7 fun b hb e => by
    obtain ⟨cur, B⟩ := S.blk hb
    exact nb B ht e
  have B7 : Blk w7 o 89 #[.slice g.qm s.ms.length g.cm, .slice g.q2 s.ls.length g.c2, .slice g.q3 s.cs.length g.c3, .slice g.q4 (s.ns.set i x).length g.c4, .map (some g.m)] := by
    rw [List.length_set]; exact k7.blk h.obj (nb h.obj (by decide))
  have P7 : Parts w7 base o g { s with ns := s.ns.set i x } :=
    ⟨B7, ns h.mx (by decide), ns h.lk (by decide), ns h.cd (by decide), by show SE En.int w7 base 2 g.q4 (s.ns.set i x).length g.c4 _; rw [List.length_set]; exact S7, h.rds.chgS h.ct (by decide) k7, h.wts.chg k7 fun e => by
      obtain ⟨cur, B⟩ := h.ct.blk e.symm
      exact Mp.ne h.wts B rfl⟩
  exact ⟨{ P7 with bo := h.bo, own := h.own, wri := h.wri, que := h.que.chgS h.ct (by decide) k7, bm := h.bm, hn := h.hn, hq := h.hq, ht := h.ht, hc := h.hc }, ⟨k7.mono fun b _ hb => .ct hb.symm, fun b hb => .inl hb⟩⟩
/-- the map of waits -/
theorem InvG.wt' (h : InvG w base N Q o g s) {n' : Nat} {f : Int → Option W3} (k7 : Chg (fun b => b = g.m) w w7) (M7 : Mp Try.prog 3 w7 g.m n' f) (hn : n' + tot s.cs ≤ N') :
    InvG w7 base N' Q o { g with n := n' } { s with wt := f } ∧ Stp o w g w7 { g with n := n' } := by
  have nb : ∀ {b : Nat} {t : TypeId} {cs : Array Value}, Blk w b t cs → ¬ (b = g.m) := fun B e => Mp.ne h.wts B e.symm
  have ns : ∀ {α : Type} {E : En α} {e : TypeId} {q' : Option Addr} {l' c' : Nat} {ys : List α}, SE E w base e q' l' c' ys → SE E w7 base e q' l' c' ys := fun S => S.chg k7 fun b hb e => by
    obtain ⟨cur, B⟩ := S.blk hb
    exact nb B e
  have rs : ∀ {α : Type} {E : En α} {e : TypeId} {hs : List Hd} {xss : List (List α)}, RowsE E w base e hs xss → RowsE E w7 base e hs xss := fun R => R.chg k7 fun x hx b hb e => by
    obtain ⟨i, hi⟩ := List.getElem?_of_mem hx
    obtain ⟨xs, _, S⟩ := R.at' hi
    obtain ⟨cur, B⟩ := S.blk hb
    exact nb B e
  have P7 : Parts w7 base o { g with n := n' } { s with wt := f } := ⟨k7.blk h.obj (nb h.obj), ns h.mx, ns h.lk, ns h.cd, ns h.ct, rs h.rds, M7⟩
  refine ⟨{ P7 with bo := h.bo, own := h.own, wri := h.wri, que := rs h.que, bm := h.bm, hn := hn, hq := h.hq, ht := h.ht, hc := h.hc }, ⟨k7.mono fun b _ hb => hb ▸ .map, fun b hb => .inl ?_⟩⟩
  cases hb with
  | obj => exact .obj
  | map => exact .map
  | mx hb => exact .mx hb
  | lk hb => exact .lk hb
  | cd hb => exact .cd hb
  | ct hb => exact .ct hb
  | rds hm hb => exact .rds hm hb
  | que hm hb => exact .que hm hb
theorem sizes43 (h : InvG w base N Q o g s) :
    Calls Try.prog 43 #[.pointer (some (ad o))] w (Ret fun v w' => v = .tuple #[.int .i64 (s.ms.length : Int), .int .i64 (s.ls.length : Int), .int .i64 (s.cs.length : Int), .int .i64 (s.ns.length : Int)] ∧ Chg none_ w w') := by
  refine f43.calls _ ?_
  unfold f43.wp
  have B' := h.obj.drew
  exact ⟨ptrOk_none _ _, bcF rfl (onPtr_mk ⟨_, _, _, (B'.cell 0).trans rfl, onPtr_mk ⟨_, _, _, (B'.cell0 1).trans rfl, onPtr_mk ⟨_, _, _, (B'.cell0 2).trans rfl, onPtr_mk ⟨_, _, _, (B'.cell0 3).trans rfl, rfl, (Chg.refl none_ w).drew⟩⟩⟩⟩)⟩
/-- what is asked of some latches: the first that is out of range -/
def badN : List (Int × Int) → Bool
  | [] => false
  | p :: l => decide (p.1 < 0) || decide (p.2 ≤ p.1) || badN l
def askL (task : Int) (ps : List (Int × Int)) (wt : Int → Option W3) : Int := if task < 0 ∨ 16 ≤ task then 70 else if badN ps then 80 else if (wt task).isSome then 83 else 0
def En.i2 : En (Int × Int) := ⟨2, fun x => [.int .i64 x.1, .int .i64 x.2], fun _ => rfl, fun _ v hv => by simp at hv; rcases hv with rfl | rfl <;> rfl, by decide⟩
theorem badN_at {ps : List (Int × Int)} {i : Nat} {p : Int × Int} (h : ps[i]? = some p) (hb : p.1 < 0 ∨ p.2 ≤ p.1) : badN ps = true := by
  induction ps generalizing i with
  | nil => simp at h
  | cons q l ih =>
    cases i with
    | zero => simp at h; subst h; simp [badN]; exact .inl hb
    | succ i => simp [badN]; right; exact ih (by simpa using h)
theorem badN_no {ps : List (Int × Int)} (h : ∀ (i : Nat) p, ps[i]? = some p → ¬ (p.1 < 0 ∨ p.2 ≤ p.1)) : badN ps = false := by
  induction ps with
  | nil => rfl
  | cons q l ih =>
    have h0 := h 0 q rfl
    have := ih fun i p hp => h (i + 1) p (by simpa using hp)
    simp [badN, this]; omega
end
end Full
end Go.Proofs.Ytibpbbjlecohiaa
