import Derived.Test.YtibpbbjlecohiaaLbC
set_option maxRecDepth 20000
namespace Go.Proofs.Ytibpbbjlecohiaa
namespace Full
open Go Go.Vc Go.RowKit
section
variable {w w6 w7 : World} {base N N' Q Q' o : Nat} {g : G8} {s : S8}
/-- a condition's queue -/
theorem InvG.cq (h : InvG w base N Q o g s) {i : Nat} {hd : Hd} {xs : List Wt} (hhx : g.ch[i]? = some hd) (hcx : s.cs[i]? = some xs) {h1 : Hd} {ys : List Wt} (k6 : Chg (fun b => some b = qB hd.1) w w6) (Q6 : SE En.wt w6 base 106 h1.1 h1.2.1 h1.2.2 ys) (hq6 : qB h1.1 = qB hd.1 ∨ qB h1.1 = some w.heap.size ∨ h1.1 = none)
    {a : Addr} (ha : g.q3 = some a) (e7 : w7 = setCells (a.add (i * 1)) 0 [.slice h1.1 h1.2.1 h1.2.2] w6) (hQ : Q + ys.length ≤ Q' + xs.length) (hN : N + ys.length ≤ N' + xs.length) (ht : ∀ y ∈ ys, ok64 y.task) (hc : ∀ y ∈ ys, 0 ≤ y.mutex ∧ y.mutex < s.ms.length) :
    InvG w7 base N' Q' o { g with ch := g.ch.set i h1 } { s with cs := s.cs.set i ys } ∧ Stp o w g w7 { g with ch := g.ch.set i h1 } := by
  obtain ⟨hj, hx'⟩ := h.cq_at hhx hcx
  obtain ⟨R6, T6, t6, P6, c6, g6⟩ := h.qcore hj hx' k6 Q6 hq6 hQ ht
  obtain ⟨S7, k7⟩ := P6.cd.set (w' := w7) (x' := h1) ha (i := i) (get_lt hcx) e7
  have P7 := P6.crow (ch := g.ch.set i h1) (cs := s.cs.set i ys) k7 (by rw [List.length_set]; exact S7) (by simp)
  have eg : ({ g with ch := g.ch.set i h1 } : G8).qs = g.qs.set (s.ms.length + (s.ls.length + i)) h1 := by
    show g.hs.map MxH.hd ++ (g.lh.map LkH.hd ++ g.ch.set i h1) = _
    have e1 := app_set2 (a := g.hs.map MxH.hd) (b := g.lh.map LkH.hd ++ g.ch) (i := s.ls.length + i) (y := h1)
    have e2 := app_set2 (a := g.lh.map LkH.hd) (b := g.ch) (i := i) (y := h1)
    rw [List.length_map, h.mx.len] at e1
    rw [List.length_map, h.lk.len] at e2
    rw [G8.qs, e1, e2]
  have es : ({ s with cs := s.cs.set i ys } : S8).qs = s.qs.set (s.ms.length + (s.ls.length + i)) ys := by
    show s.ms.map Mx.queue ++ (s.ls.map Lk.queue ++ s.cs.set i ys) = _
    have e1 := app_set2 (a := s.ms.map Mx.queue) (b := s.ls.map Lk.queue ++ s.cs) (i := s.ls.length + i) (y := ys)
    have e2 := app_set2 (a := s.ls.map Lk.queue) (b := s.cs) (i := i) (y := ys)
    rw [List.length_map] at e1 e2
    rw [S8.qs, e1, e2]
  refine ⟨{ P7 with bo := h.bo, own := h.own, wri := h.wri, que := ?_, bm := h.bm, hn := ?_, hq := ?_, ht := ?_, hc := fun x hx y hy => ?_ }, ⟨c6.trans (k7.mono fun b _ hb => .cd hb.symm), fun b hb => ?_⟩⟩
  · rw [eg, es]; exact R6.chgS P6.cd (by decide) k7
  · show g.n + tot (s.cs.set i ys) ≤ N'
    have := tot_set (ys := ys) hcx
    have := h.hn
    omega
  · rw [es]; exact T6
  · rw [es]; exact t6
  · rcases List.mem_or_eq_of_mem_set hx with hx | rfl
    · exact h.hc x hx y hy
    · exact hc y hy
  · cases hb with
    | obj => exact .inl .obj
    | map => exact .inl .map
    | mx hb => exact .inl (.mx hb)
    | lk hb => exact .inl (.lk hb)
    | cd hb => exact .inl (.cd hb)
    | ct hb => exact .inl (.ct hb)
    | rds hm hb => exact .inl (.rds hm hb)
    | que hm hb => rw [eg] at hm; exact g6 _ b hm hb
/-- a counter -/
theorem InvG.ct' (h : InvG w base N Q o g s) {i : Nat} (hi : i < s.ns.length) (x : Int) {a : Addr} (ha : g.q4 = some a) (e7 : w7 = setCells (a.add (i * 1)) 0 [.int .i64 x] w) :
    InvG w7 base N Q o g { s with ns := s.ns.set i x } ∧ Stp o w g w7 g := by
  obtain ⟨S7, k7⟩ := h.ct.set (w' := w7) (x' := x) ha (i := i) hi e7
  have nb : ∀ {b : Nat} {t : TypeId} {cs : Array Value}, Blk w b t cs → t ≠ 2 → ¬ (some b = qB g.q4) := fun B ht e => SE.ne h.ct B ht _ e.symm rfl
  have ns : ∀ {α : Type} {E : En α} {e : TypeId} {q' : Option Addr} {l' c' : Nat} {ys : List α}, SE E w base e q' l' c' ys → e ≠ 2 → SE E w7 base e q' l' c' ys := fun S ht => S.chg k7 fun b hb e => by
    obtain ⟨cur, B⟩ := S.blk hb
    exact nb B ht e
  have B7 : Blk w7 o 89 #[.slice g.qm s.ms.length g.cm, .slice g.q2 s.ls.length g.c2, .slice g.q3 s.cs.length g.c3, .slice g.q4 (s.ns.set i x).length g.c4, .map (some g.m)] := by
    rw [List.length_set]; exact k7.blk h.obj (nb h.obj (by decide))
  have P7 : Parts w7 base o g { s with ns := s.ns.set i x } :=
    ⟨B7, ns h.mx (by decide), ns h.lk (by decide), ns h.cd (by decide), by show SE En.int w7 base 2 g.q4 (s.ns.set i x).length g.c4 _; rw [List.length_set]; exact S7, h.rds.chgS h.ct (by decide) k7, h.wts.chg k7 fun e => by
      obtain ⟨cur, B⟩ := h.ct.blk e.symm
      exact Mp.ne h.wts B rfl⟩
  exact ⟨{ P7 with bo := h.bo, own := h.own, wri := h.wri, que := h.que.chgS h.ct (by decide) k7, bm := h.bm, hn := h.hn, hq := h.hq, ht := h.ht, hc := h.hc }, ⟨k7.mono fun b _ hb => .ct hb.symm, fun b hb => .inl hb⟩⟩
/-- the map of waits -/
theorem InvG.wt' (h : InvG w base N Q o g s) {n' : Nat} {f : Int → Option W3} (k7 : Chg (fun b => b = g.m) w w7) (M7 : Mp Try.prog 3 w7 g.m n' f) (hn : n' + tot s.cs ≤ N') :
    InvG w7 base N' Q o { g with n := n' } { s with wt := f } ∧ Stp o w g w7 { g with n := n' } := by
  have nb : ∀ {b : Nat} {t : TypeId} {cs : Array Value}, Blk w b t cs → ¬ (b = g.m) := fun B e => Mp.ne h.wts B e.symm
  have ns : ∀ {α : Type} {E : En α} {e : TypeId} {q' : Option Addr} {l' c' : Nat} {ys : List α}, SE E w base e q' l' c' ys → SE E w7 base e q' l' c' ys := fun S => S.chg k7 fun b hb e => by
    obtain ⟨cur, B⟩ := S.blk hb
    exact nb B e
  have rs : ∀ {α : Type} {E : En α} {e : TypeId} {hs : List Hd} {xss : List (List α)}, RowsE E w base e hs xss → RowsE E w7 base e hs xss := fun R => R.chg k7 fun x hx b hb e => by
    obtain ⟨i, hi⟩ := List.getElem?_of_mem hx
    obtain ⟨xs, _, S⟩ := R.at' hi
    obtain ⟨cur, B⟩ := S.blk hb
    exact nb B e
  have P7 : Parts w7 base o { g with n := n' } { s with wt := f } := ⟨k7.blk h.obj (nb h.obj), ns h.mx, ns h.lk, ns h.cd, ns h.ct, rs h.rds, M7⟩
  refine ⟨{ P7 with bo := h.bo, own := h.own, wri := h.wri, que := rs h.que, bm := h.bm, hn := hn, hq := h.hq, ht := h.ht, hc := h.hc }, ⟨k7.mono fun b _ hb => hb ▸ .map, fun b hb => .inl ?_⟩⟩
  cases hb with
  | obj => exact .obj
  | map => exact .map
  | mx hb => exact .mx hb
  | lk hb => exact .lk hb
  | cd hb => exact .cd hb
  | ct hb => exact .ct hb
  | rds hm hb => exact .rds hm hb
  | que hm hb => exact .que hm hb
theorem sizes43 (h : InvG w base N Q o g s) :
    Calls Try.prog 43 #[.pointer (some (ad o))] w (Ret fun v w' => v = .tuple #[.int .i64 (s.ms.length : Int), .int .i64 (s.ls.length : Int), .int .i64 (s.cs.length : Int), .int .i64 (s.ns.length : Int)] ∧ Chg none_ w w') := by
  refine f43.calls _ ?_
  unfold f43.wp
  have B' := h.obj.drew
  exact ⟨ptrOk_none _ _, bcF rfl (onPtr_mk ⟨_, _, _, (B'.cell 0).trans rfl, onPtr_mk ⟨_, _, _, (B'.cell0 1).trans rfl, onPtr_mk ⟨_, _, _, (B'.cell0 2).trans rfl, onPtr_mk ⟨_, _, _, (B'.cell0 3).trans rfl, rfl, (Chg.refl none_ w).drew⟩⟩⟩⟩)⟩
/-- what is asked of some latches: the first that is out of range -/
def badN : List (Int × Int) → Bool
  | [] => false
  | p :: l => decide (p.1 < 0) || decide (p.2 ≤ p.1) || badN l
def askL (task : Int) (ps : List (Int × Int)) (wt : Int → Option W3) : Int := if task < 0 ∨ 16 ≤ task then 70 else if badN ps then 80 else if (wt task).isSome then 83 else 0
def En.i2 : En (Int × Int) := ⟨2, fun x => [.int .i64 x.1, .int .i64 x.2], fun _ => rfl, fun _ v hv => by simp at hv; rcases hv with rfl | rfl <;> rfl, by decide⟩
theorem badN_at {ps : List (Int × Int)} {i : Nat} {p : Int × Int} (h : ps[i]? = some p) (hb : p.1 < 0 ∨ p.2 ≤ p.1) : badN ps = true := by
  induction ps generalizing i with
  | nil => simp at h
  | cons q l ih =>
    cases i with
    | zero => simp at h; subst h; simp [badN]; exact .inl hb
    | succ i => simp [badN]; right; exact ih (by simpa using h)
theorem badN_no {ps : List (Int × Int)} (h : ∀ (i : Nat) p, ps[i]? = some p → ¬ (p.1 < 0 ∨ p.2 ≤ p.1)) : badN ps = false := by
  induction ps with
  | nil => rfl
  | cons q l ih =>
    have h0 := h 0 q rfl
    have := ih fun i p hp => h (i + 1) p (by simpa using hp)
    simp [badN, this]; omega
end
end Full
end Go.Proofs.Ytibpbbjlecohiaa
