import Derived.Test.YtjfafkgjcgbgfaaDoorHjA
set_option maxRecDepth 20000
namespace Go.Proofs.YtjfafkgjcgbgfaaDoor
open Go Go.Vc Go.RowKit
/-! # a run's history, in plain words -/
structure Ev where
  step : Int
  task : Int
  call : Int
  ret : Bool
def En.ev : En Ev := ⟨4, fun x => [.int .i64 x.step, .int .i64 x.task, .int .i64 x.call, .bool x.ret], fun _ => rfl, fun _ v hv => by simp at hv; rcases hv with rfl | rfl | rfl | rfl <;> rfl, by decide⟩
structure Cl where
  kind : Int
  key : ByteArray
  val : ByteArray
def En.cl : En Cl := ⟨3, fun x => [.int .i64 x.kind, .string x.key, .string x.val], fun _ => rfl, fun _ v hv => by simp at hv; rcases hv with rfl | rfl | rfl <;> rfl, by decide⟩
structure An where
  err : Int
  hit : Bool
  val : ByteArray
def En.an : En An := ⟨3, fun x => [.int .i64 x.err, .bool x.hit, .string x.val], fun _ => rfl, fun _ v hv => by simp at hv; rcases hv with rfl | rfl | rfl <;> rfl, by decide⟩
/-- a slice of slices, to be read -/
structure RRs {α : Type} (E : En α) (w : World) (q : Option Addr) (l : Nat) (xss : List (List α)) : Prop where
  ex : ∃ hs : List Hd, RE En.hd w q l hs ∧ hs.length = xss.length ∧ ∀ (i : Nat) (h : Hd) (xs : List α), hs[i]? = some h → xss[i]? = some xs → RE E w h.1 h.2.1 xs
section
variable {α : Type} {E : En α} {w w' : World} {q : Option Addr} {l : Nat} {xss : List (List α)}
theorem RRs.len (h : RRs E w q l xss) : xss.length = l := by
  obtain ⟨hs, h1, h2, _⟩ := h.ex
  rw [← h2, h1.len]
theorem RRs.chg (h : RRs E w q l xss) (c : Chg none_ w w') : RRs E w' q l xss := by
  obtain ⟨hs, h1, h2, h3⟩ := h.ex
  exact ⟨hs, h1.chg c, h2, fun i x xs hi hx => (h3 i x xs hi hx).chg c⟩
theorem RRs.at' (h : RRs E w q l xss) {i : Nat} (hi : i < l) : ∃ (a : Addr) (x : Hd) (xs : List α), q = some a ∧ xss[i]? = some xs ∧ w.cell? (a.add (i * 1)) = some (.slice x.1 x.2.1 x.2.2) ∧ RE E w x.1 x.2.1 xs := by
  obtain ⟨hs, h1, h2, h3⟩ := h.ex
  obtain ⟨a, x, ha, hx, hr⟩ := h1.ex hi
  obtain ⟨xs, hxs⟩ := get_ex (l := xss) (i := i) (by rw [← h2]; exact get_lt hx)
  exact ⟨a, x, xs, ha, hxs, reads_one' hr, h3 i x xs hx hxs⟩
end
def kpP (k : Int) : Bool := if (k : Int) == 1 then true else if k == 2 then true else k == 3
def kpR (k : Int) : Bool := !(k == 4 || k == 5)
def begM (kp : Int → Bool) (c : Cl) (life at_ : Int) : Mv := ⟨c.kind, if kp c.kind then c.key else e0, if c.kind == 2 then c.val else e0, 0, false, life, at_, -1⟩
def endM (m : Mv) (at_ : Int) (a : An) : Mv := { m with to := at_, err := a.err, hit := a.hit, val := if a.hit then a.val else m.val }
structure S where
  ss : List (Nat × Option Nat)
  out : List Mv
  last : Int
  lb : Int
/-- how a life is told: strict: a begin stands behind the begin before it -/
structure P where
  strict : Bool
  kp : Int → Bool
  life : Int
  base : Int
  steps : Int
  cs : List (List Cl)
  as : List (List An)
def stepC (p : P) (s : S) (e : Ev) (t n : Nat) (cur : Option Nat) (calls : List Cl) (anss : List An) : Option S :=
  if e.call ≠ n then none else match calls[n]? with
    | none => none
    | some c => match e.ret, cur with
      | false, none => if p.strict = true ∧ e.step ≤ s.lb then none else some ⟨s.ss.set t (n, some s.out.length), s.out ++ [begM p.kp c p.life (p.base + e.step)], e.step, e.step⟩
      | true, some j => match anss[n]?, s.out[j]? with
        | some a, some m => some ⟨s.ss.set t (n + 1, none), s.out.set j (endM m (p.base + e.step) a), e.step, s.lb⟩
        | _, _ => none
      | _, _ => none
def stepX (p : P) (s : S) (e : Ev) : Option S :=
  if e.step < s.last ∨ e.step ≥ p.steps ∨ e.task < 0 then none else match s.ss[e.task.toNat]?, p.cs[e.task.toNat]?, p.as[e.task.toNat]? with
    | some (n, cur), some calls, some anss => stepC p s e e.task.toNat n cur calls anss
    | _, _, _ => none
def runX (p : P) : List Ev → S → Option S
  | [], s => some s
  | e :: r, s => (stepX p s e).bind (runX p r)
def S0 (n : Nat) : S := ⟨List.replicate n (0, none), [], 0, -1⟩
def doneX (as : List (List An)) (ss : List (Nat × Option Nat)) : Bool := as.length == ss.length && (List.range ss.length).all fun i => match as[i]?, ss[i]? with
  | some a, some x => a.length == x.1
  | _, _ => false
def lifeX (p : P) (es : List Ev) : Option (List Mv) :=
  if p.steps < 0 ∨ p.steps > 1048576 ∨ p.as.length ≠ p.cs.length then none else match runX p es (S0 p.cs.length) with
    | none => none
    | some s => if doneX p.as s.ss then some s.out else none
theorem stepX_at {p : P} {s : S} {e : Ev} {t n : Nat} {cur : Option Nat} {calls : List Cl} {anss : List An} (h1 : ¬ e.step < s.last) (h2 : ¬ e.step ≥ p.steps) (ht : e.task = t) (hs : s.ss[t]? = some (n, cur)) (hc : p.cs[t]? = some calls) (ha : p.as[t]? = some anss) :
    stepX p s e = stepC p s e t n cur calls anss := by
  unfold stepX
  rw [if_neg (by omega)]
  have : e.task.toNat = t := by omega
  rw [this, hs, hc, ha]
theorem stepX_none1 {p : P} {s : S} {e : Ev} (h : e.step < s.last ∨ e.step ≥ p.steps ∨ e.task < 0) : stepX p s e = none := by
  unfold stepX; rw [if_pos h]
theorem stepX_none2 {p : P} {s : S} {e : Ev} (h : s.ss[e.task.toNat]? = none) : stepX p s e = none := by
  unfold stepX
  split
  · rfl
  · rw [h]
theorem runX_none {p : P} {s : S} {es : List Ev} {i : Nat} {e : Ev} (he : es[i]? = some e) (h : stepX p s e = none) : runX p (es.drop i) s = none := by
  have hlt := get_lt he
  rw [List.drop_eq_getElem_cons hlt]
  have : es[i] = e := by rw [List.getElem?_eq_getElem hlt] at he; exact Option.some.inj he
  rw [this, runX, h]; rfl
theorem runX_some {p : P} {s s' : S} {es : List Ev} {i : Nat} {e : Ev} (he : es[i]? = some e) (h : stepX p s e = some s') : runX p (es.drop i) s = runX p (es.drop (i + 1)) s' := by
  have hlt := get_lt he
  rw [List.drop_eq_getElem_cons hlt]
  have : es[i] = e := by rw [List.getElem?_eq_getElem hlt] at he; exact Option.some.inj he
  rw [this, runX, h]; rfl
theorem lifeX_none {p : P} {es : List Ev} (h : runX p es (S0 p.cs.length) = none) : lifeX p es = none := by
  unfold lifeX
  split
  · rfl
  · rw [h]
/-- what a run keeps -/
structure Good (p : P) (s : S) : Prop where
  len : s.ss.length = p.cs.length
  cur : ∀ (t n j : Nat), s.ss[t]? = some (n, some j) → j < s.out.length
  last : 0 ≤ s.last
theorem Good.zero (p : P) : Good p (S0 p.cs.length) := ⟨by simp [S0], fun t n j h => by simp [S0, List.getElem?_replicate] at h, Int.le_refl _⟩
theorem Good.beg {p : P} {s : S} (g : Good p s) {t n : Nat} {m : Mv} {x : Int} (hx : s.last ≤ x) {b : Int} : Good p ⟨s.ss.set t (n, some s.out.length), s.out ++ [m], x, b⟩ := by
  refine ⟨by simp [g.len], fun t' n' j h => ?_, by have := g.last; show 0 ≤ x; omega⟩
  simp only [List.length_append, List.length_cons, List.length_nil]
  simp only [List.getElem?_set] at h
  split at h
  · split at h
    · cases h; omega
    · cases h
  · have := g.cur t' n' j h; omega
theorem Good.fin {p : P} {s : S} (g : Good p s) {t n j : Nat} {m : Mv} {x : Int} (hx : s.last ≤ x) {b : Int} : Good p ⟨s.ss.set t (n, none), s.out.set j m, x, b⟩ := by
  refine ⟨by simp [g.len], fun t' n' j' h => ?_, by have := g.last; show 0 ≤ x; omega⟩
  simp only [List.length_set]
  simp only [List.getElem?_set] at h
  split at h
  · split at h
    · cases h
    · cases h
  · exact g.cur t' n' j' h
end Go.Proofs.YtjfafkgjcgbgfaaDoor
