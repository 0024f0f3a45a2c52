import Derived.Test.YtibpbbjlecohiaaLaC
set_option maxRecDepth 20000
namespace Go.Proofs.Ytibpbbjlecohiaa
namespace Full
open Go Go.Vc Go.RowKit
structure Lk where
  readers : List Int
  writer : Int
  queue : List Wt
/-- the latches -/
structure S8 where
  ms : List Mx
  ls : List Lk
  cs : List (List Wt)
  ns : List Int
  wt : Int → Option W3
/-- where they lie -/
structure G8 where
  qm : Option Addr
  cm : Nat
  q2 : Option Addr
  c2 : Nat
  q3 : Option Addr
  c3 : Nat
  q4 : Option Addr
  c4 : Nat
  m : Nat
  n : Nat
  hs : List MxH
  lh : List LkH
  ch : List Hd
def S8.qs (s : S8) : List (List Wt) := s.ms.map Mx.queue ++ (s.ls.map Lk.queue ++ s.cs)
def G8.qs (g : G8) : List Hd := g.hs.map MxH.hd ++ (g.lh.map LkH.hd ++ g.ch)
def tot {α : Type} (xss : List (List α)) : Nat := (xss.map List.length).sum
/-- the world's facts, but for the queues -/
structure Parts (w : World) (base o : Nat) (g : G8) (s : S8) : Prop where
  obj : Blk w o 89 #[.slice g.qm s.ms.length g.cm, .slice g.q2 s.ls.length g.c2, .slice g.q3 s.cs.length g.c3, .slice g.q4 s.ns.length g.c4, .map (some g.m)]
  mx : SE En.mxh w base 97 g.qm s.ms.length g.cm g.hs
  lk : SE En.lkh w base 99 g.q2 s.ls.length g.c2 g.lh
  cd : SE En.hd w base 95 g.q3 s.cs.length g.c3 g.ch
  ct : SE En.int w base 2 g.q4 s.ns.length g.c4 s.ns
  rds : RowsE En.int w base 3 (g.lh.map LkH.readers) (s.ls.map Lk.readers)
  wts : Mp Try.prog 3 w g.m g.n s.wt
structure InvG (w : World) (base N Q o : Nat) (g : G8) (s : S8) : Prop extends Parts w base o g s where
  bo : base ≤ o
  own : g.hs.map MxH.owner = s.ms.map Mx.owner
  wri : g.lh.map LkH.writer = s.ls.map Lk.writer
  que : RowsE En.wt w base 106 g.qs s.qs
  bm : base ≤ g.m
  hn : g.n + tot s.cs ≤ N
  hq : tot s.qs + tot (s.ls.map Lk.readers) ≤ Q
  ht : ∀ x ∈ s.qs, ∀ y ∈ x, ok64 y.task
  hc : ∀ x ∈ s.cs, ∀ y ∈ x, 0 ≤ y.mutex ∧ y.mutex < s.ms.length
/-- the blocks that are theirs -/
inductive Own (g : G8) (o : Nat) : Nat → Prop where
  | obj : Own g o o
  | map : Own g o g.m
  | mx {b : Nat} : qB g.qm = some b → Own g o b
  | lk {b : Nat} : qB g.q2 = some b → Own g o b
  | cd {b : Nat} : qB g.q3 = some b → Own g o b
  | ct {b : Nat} : qB g.q4 = some b → Own g o b
  | rds {b : Nat} {h : LkH} : h ∈ g.lh → qB h.readers.1 = some b → Own g o b
  | que {b : Nat} {h : Hd} : h ∈ g.qs → qB h.1 = some b → Own g o b
theorem InvG.chg {w w' : World} {base N Q o : Nat} {g : G8} {s : S8} (h : InvG w base N Q o g s) {S : Nat → Prop} (k : Chg S w w') (hS : ∀ b, S b → ¬ Own g o b) : InvG w' base N Q o g s :=
  { h with
    obj := k.blk h.obj fun hs => hS _ hs .obj
    mx := h.mx.chg k fun b hb hs => hS _ hs (.mx hb)
    lk := h.lk.chg k fun b hb hs => hS _ hs (.lk hb)
    cd := h.cd.chg k fun b hb hs => hS _ hs (.cd hb)
    ct := h.ct.chg k fun b hb hs => hS _ hs (.ct hb)
    rds := h.rds.chg k fun x hx b hb hs => by
      obtain ⟨y, hy, rfl⟩ := List.mem_map.1 hx
      exact hS _ hs (.rds hy hb)
    que := h.que.chg k fun x hx b hb hs => hS _ hs (.que hx hb)
    wts := h.wts.chg k fun hs => hS _ hs .map }
theorem InvG.chgN {w w' : World} {base N Q o : Nat} {g : G8} {s : S8} (h : InvG w base N Q o g s) (k : Chg none_ w w') : InvG w' base N Q o g s := h.chg k fun _ h => h.elim
theorem InvG.up {w : World} {base N N' Q Q' o : Nat} {g : G8} {s : S8} (h : InvG w base N Q o g s) (hN : N ≤ N') (hQ : Q ≤ Q') : InvG w base N' Q' o g s :=
  { h with hn := Nat.le_trans h.hn hN, hq := Nat.le_trans h.hq hQ }
/-- each of their blocks is there, and of its type -/
theorem InvG.own_lt {w : World} {base N Q o : Nat} {g : G8} {s : S8} (h : InvG w base N Q o g s) {b : Nat} (hb : Own g o b) : b < w.heap.size ∧ base ≤ b := by
  cases hb with
  | obj => exact ⟨h.obj.lt, h.bo⟩
  | map => exact ⟨h.wts.lt, h.bm⟩
  | mx hq => exact h.mx.lt hq
  | lk hq => exact h.lk.lt hq
  | cd hq => exact h.cd.lt hq
  | ct hq => exact h.ct.lt hq
  | rds hx hq =>
    obtain ⟨i, hi⟩ := List.getElem?_of_mem hx
    obtain ⟨xs, _, se⟩ := h.rds.at' (map_at (f := LkH.readers) hi)
    exact se.lt hq
  | que hx hq =>
    obtain ⟨i, hi⟩ := List.getElem?_of_mem hx
    obtain ⟨xs, _, se⟩ := h.que.at' hi
    exact se.lt hq
/-- what a call does: their blocks alone turn; new ones may become theirs -/
structure Stp (o : Nat) (w : World) (g : G8) (w' : World) (g' : G8) : Prop where
  chg : Chg (Own g o) w w'
  grow : ∀ b, Own g' o b → Own g o b ∨ w.heap.size ≤ b
theorem Stp.refl (o : Nat) (w : World) (g : G8) : Stp o w g w g := ⟨Chg.refl _ _, fun _ h => .inl h⟩
theorem Stp.ofN {o : Nat} {w w' : World} {g : G8} (k : Chg none_ w w') : Stp o w g w' g := ⟨k.of_none _, fun _ h => .inl h⟩
theorem Stp.trans {o : Nat} {w w' w'' : World} {g g' g'' : G8} (h : Stp o w g w' g') (k : Stp o w' g' w'' g'') : Stp o w g w'' g'' :=
  ⟨h.chg.trans' k.chg fun b hb => h.grow b hb, fun b hb => by
    rcases k.grow b hb with h1 | h1
    · exact h.grow b h1
    · exact .inr (Nat.le_trans h.chg.size h1)⟩
/-- what lies outside stays -/
theorem Stp.up {o : Nat} {w0 w w' : World} {g g' : G8} (h : Stp o w g w' g') (c : Chg none_ w0 w) {base N Q : Nat} {s : S8} (I : InvG w base N Q o g s) (hb : w0.heap.size ≤ base) : Chg none_ w0 w' :=
  c.up h.chg fun _ hb' => Nat.le_trans hb (I.own_lt hb').2
theorem tot_set {α : Type} : ∀ {xss : List (List α)} {i : Nat} {xs ys : List α}, xss[i]? = some xs → tot (xss.set i ys) + xs.length = tot xss + ys.length
  | [], i, xs, ys, h => by simp at h
  | z :: zs, 0, xs, ys, h => by
    simp at h; subst h
    simp [tot]; omega
  | z :: zs, i + 1, xs, ys, h => by
    have := tot_set (xss := zs) (i := i) (ys := ys) (by simpa using h)
    simp [tot] at this ⊢; omega
theorem tot_at {α : Type} : ∀ {xss : List (List α)} {i : Nat} {xs : List α}, xss[i]? = some xs → xs.length ≤ tot xss
  | [], i, xs, h => by simp at h
  | z :: zs, 0, xs, h => by
    simp at h; subst h
    simp [tot]
  | z :: zs, i + 1, xs, h => by
    have := tot_at (xss := zs) (i := i) (by simpa using h)
    simp [tot] at this ⊢; omega
theorem app_at {α : Type} {a b : List α} {i : Nat} {x : α} (h : a[i]? = some x) : (a ++ b)[i]? = some x := by rw [List.getElem?_append_left (get_lt h)]; exact h
theorem app_set {α : Type} {a b : List α} {i : Nat} {y : α} (h : i < a.length) : (a ++ b).set i y = a.set i y ++ b := by rw [List.set_append, if_pos h]
/-- a block of waiters turns -/
theorem Parts.turn {w w' : World} {base o : Nat} {g : G8} {s : S8} (h : Parts w base o g s) {q : Option Addr} {l c : Nat} {xs : List Wt} (Qe : SE En.wt w base 106 q l c xs) (k : Chg (fun b => some b = qB q) w w') : Parts w' base o g s := by
  have nb : ∀ {b : Nat} {t : TypeId} {cs : Array Value}, Blk w b t cs → t ≠ 106 → ¬ (some b = qB q) := fun B ht e => SE.ne Qe B ht _ e.symm rfl
  have ns : ∀ {α : Type} {E : En α} {e : TypeId} {q' : Option Addr} {l' c' : Nat} {ys : List α}, SE E w base e q' l' c' ys → e ≠ 106 → SE E w' base e q' l' c' ys := fun S ht => S.chg k fun b hb e => by
    obtain ⟨cur, B⟩ := S.blk hb
    exact nb B ht e
  exact ⟨k.blk h.obj (nb h.obj (by decide)), ns h.mx (by decide), ns h.lk (by decide), ns h.cd (by decide), ns h.ct (by decide), h.rds.chgS Qe (by decide) k, h.wts.chg k fun e => by
    obtain ⟨cur, B⟩ := Qe.blk e.symm
    exact Mp.ne h.wts B rfl⟩
/-- a mutex' row is written -/
theorem Parts.mrow {w w' : World} {base o : Nat} {g : G8} {s : S8} (h : Parts w base o g s) (k : Chg (fun b => some b = qB g.qm) w w') {hs : List MxH} {ms : List Mx} (S : SE En.mxh w' base 97 g.qm ms.length g.cm hs) (hl : ms.length = s.ms.length) : Parts w' base o { g with hs := hs } { s with ms := ms } := by
  have nb : ∀ {b : Nat} {t : TypeId} {cs : Array Value}, Blk w b t cs → t ≠ 97 → ¬ (some b = qB g.qm) := fun B ht e => SE.ne h.mx B ht _ e.symm rfl
  have ns : ∀ {α : Type} {E : En α} {e : TypeId} {q' : Option Addr} {l' c' : Nat} {ys : List α}, SE E w base e q' l' c' ys → e ≠ 97 → SE E w' base e q' l' c' ys := fun S ht => S.chg k fun b hb e => by
    obtain ⟨cur, B⟩ := S.blk hb
    exact nb B ht e
  refine ⟨?_, S, ns h.lk (by decide), ns h.cd (by decide), ns h.ct (by decide), h.rds.chgS h.mx (by decide) k, h.wts.chg k fun e => by
    obtain ⟨cur, B⟩ := h.mx.blk e.symm
    exact Mp.ne h.wts B rfl⟩
  show Blk w' o 89 #[.slice g.qm ms.length g.cm, _, _, _, _]
  rw [hl]
  exact k.blk h.obj (nb h.obj (by decide))
/-- a lock's row is written -/
theorem Parts.lrow {w w' : World} {base o : Nat} {g : G8} {s : S8} (h : Parts w base o g s) (k : Chg (fun b => some b = qB g.q2) w w') {lh : List LkH} {ls : List Lk} (S : SE En.lkh w' base 99 g.q2 ls.length g.c2 lh) (hl : ls.length = s.ls.length) (hr : RowsE En.int w base 3 (lh.map LkH.readers) (ls.map Lk.readers)) : Parts w' base o { g with lh := lh } { s with ls := ls } := by
  have nb : ∀ {b : Nat} {t : TypeId} {cs : Array Value}, Blk w b t cs → t ≠ 99 → ¬ (some b = qB g.q2) := fun B ht e => SE.ne h.lk B ht _ e.symm rfl
  have ns : ∀ {α : Type} {E : En α} {e : TypeId} {q' : Option Addr} {l' c' : Nat} {ys : List α}, SE E w base e q' l' c' ys → e ≠ 99 → SE E w' base e q' l' c' ys := fun S ht => S.chg k fun b hb e => by
    obtain ⟨cur, B⟩ := S.blk hb
    exact nb B ht e
  refine ⟨?_, ns h.mx (by decide), S, ns h.cd (by decide), ns h.ct (by decide), hr.chgS h.lk (by decide) k, h.wts.chg k fun e => by
    obtain ⟨cur, B⟩ := h.lk.blk e.symm
    exact Mp.ne h.wts B rfl⟩
  show Blk w' o 89 #[_, .slice g.q2 ls.length g.c2, _, _, _]
  rw [hl]
  exact k.blk h.obj (nb h.obj (by decide))
/-- a condition's row is written -/
theorem Parts.crow {w w' : World} {base o : Nat} {g : G8} {s : S8} (h : Parts w base o g s) (k : Chg (fun b => some b = qB g.q3) w w') {ch : List Hd} {cs : List (List Wt)} (S : SE En.hd w' base 95 g.q3 cs.length g.c3 ch) (hl : cs.length = s.cs.length) : Parts w' base o { g with ch := ch } { s with cs := cs } := by
  have nb : ∀ {b : Nat} {t : TypeId} {cs : Array Value}, Blk w b t cs → t ≠ 95 → ¬ (some b = qB g.q3) := fun B ht e => SE.ne h.cd B ht _ e.symm rfl
  have ns : ∀ {α : Type} {E : En α} {e : TypeId} {q' : Option Addr} {l' c' : Nat} {ys : List α}, SE E w base e q' l' c' ys → e ≠ 95 → SE E w' base e q' l' c' ys := fun S ht => S.chg k fun b hb e => by
    obtain ⟨cur, B⟩ := S.blk hb
    exact nb B ht e
  refine ⟨?_, ns h.mx (by decide), ns h.lk (by decide), S, ns h.ct (by decide), h.rds.chgS h.cd (by decide) k, h.wts.chg k fun e => by
    obtain ⟨cur, B⟩ := h.cd.blk e.symm
    exact Mp.ne h.wts B rfl⟩
  show Blk w' o 89 #[_, _, .slice g.q3 cs.length g.c3, _, _]
  rw [hl]
  exact k.blk h.obj (nb h.obj (by decide))
end Full
end Go.Proofs.Ytibpbbjlecohiaa
