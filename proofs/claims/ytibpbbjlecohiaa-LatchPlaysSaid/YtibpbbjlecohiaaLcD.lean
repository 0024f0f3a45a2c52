import Derived.Test.YtibpbbjlecohiaaLbP
import Derived.Test.YtibpbbjlecohiaaLbQ
set_option maxRecDepth 20000
namespace Go.Proofs.Ytibpbbjlecohiaa
namespace Full
open Go Go.Vc Go.RowKit
/-! # the document's latches: plain. Rows: of each mutex, then of each lock, who holds it and who waits; then of each condition who waits -/
structure R8 where
  M : Nat
  L : Nat
  C : Nat
  rows : List (List W3)
  ns : List Int
def R8.row (r : R8) (j : Nat) : List W3 := (r.rows[j]?).getD []
def R8.put (r : R8) (j : Nat) (x : List W3) : R8 := { r with rows := r.rows.set j x }
def hasW (l : List W3) (t : Int) : Bool := l.any fun s => s.1 == t
def heldW (l : List W3) (t k : Int) : Bool := l.any fun s => s.1 == t && (k == 0 || s.2.1 == k)
def mayW (hs : List W3) (s : W3) : Bool := match hs with
  | [] => true
  | h :: _ => s.2.1 == 3 && h.2.1 == 3
def passW (hs : List W3) : List W3 → List Int × List W3 × List W3
  | [] => ([], hs, [])
  | s :: q => if mayW hs s then (s.1 :: (passW (hs ++ [s]) q).1, (passW (hs ++ [s]) q).2) else ([], hs, s :: q)
def takeR (r : R8) (k : Nat) (s : W3) : Bool × R8 := if r.row (2 * k + 1) = [] ∧ mayW (r.row (2 * k)) s = true then (true, r.put (2 * k) (r.row (2 * k) ++ [s])) else (false, r.put (2 * k + 1) (r.row (2 * k + 1) ++ [s]))
def giveR (r : R8) (k : Nat) (t : Int) : List Int × R8 :=
  ((passW ((r.row (2 * k)).filter fun s => s.1 != t) (r.row (2 * k + 1))).1, (r.put (2 * k) (passW ((r.row (2 * k)).filter fun s => s.1 != t) (r.row (2 * k + 1))).2.1).put (2 * k + 1) (passW ((r.row (2 * k)).filter fun s => s.1 != t) (r.row (2 * k + 1))).2.2)
def waitsR (r : R8) (t : Int) : Bool := (List.range r.M).any (fun k => hasW (r.row (2 * k + 1)) t) || ((List.range r.L).any (fun k => hasW (r.row (2 * (r.M + k) + 1)) t) || (List.range r.C).any fun i => hasW (r.row (2 * (r.M + r.L) + i)) t)
def askedR (r : R8) (t : Int) (b : Bool) : Int := if t < 0 ∨ 16 ≤ t then 70 else if b = false then 80 else if waitsR r t then 83 else 0
def inR (n : Int) (k : Nat) : Bool := decide (0 ≤ n) && decide (n < k)
def lockR (r : R8) (t n : Int) : Bool × Int × R8 :=
  if askedR r t (inR n r.M) ≠ 0 then (false, askedR r t (inR n r.M), r) else
  if heldW (r.row (2 * n.toNat)) t 0 then (false, 81, r) else ((takeR r n.toNat (t, 1, 0)).1, 0, (takeR r n.toNat (t, 1, 0)).2)
def unlockR (r : R8) (t n : Int) : List Int × Int × R8 :=
  if askedR r t (inR n r.M) ≠ 0 then ([], askedR r t (inR n r.M), r) else
  if heldW (r.row (2 * n.toNat)) t 0 = false then ([], 82, r) else ((giveR r n.toNat t).1, 0, (giveR r n.toNat t).2)
def takeLR (r : R8) (t n kind : Int) : Bool × Int × R8 :=
  if askedR r t (inR n r.L) ≠ 0 then (false, askedR r t (inR n r.L), r) else
  if heldW (r.row (2 * (r.M + n.toNat))) t 0 then (false, 81, r) else ((takeR r (r.M + n.toNat) (t, kind, 0)).1, 0, (takeR r (r.M + n.toNat) (t, kind, 0)).2)
def giveLR (r : R8) (t n kind : Int) : List Int × Int × R8 :=
  if askedR r t (inR n r.L) ≠ 0 then ([], askedR r t (inR n r.L), r) else
  if heldW (r.row (2 * (r.M + n.toNat))) t kind = false then ([], 82, r) else ((giveR r (r.M + n.toNat) t).1, 0, (giveR r (r.M + n.toNat) t).2)
def waitR (r : R8) (t n m : Int) : List Int × Int × R8 :=
  if askedR r t (inR n r.C && inR m r.M) ≠ 0 then ([], askedR r t (inR n r.C && inR m r.M), r) else
  if heldW (r.row (2 * m.toNat)) t 0 = false then ([], 82, r) else
  ((giveR r m.toNat t).1, 0, (giveR r m.toNat t).2.put (2 * (r.M + r.L) + n.toNat) ((giveR r m.toNat t).2.row (2 * (r.M + r.L) + n.toNat) ++ [(t, 7, m)]))
def letR (r : R8) (i : Nat) : List Int × R8 := match r.row (2 * (r.M + r.L) + i) with
  | [] => ([], r)
  | s :: q => (if (takeR (r.put (2 * (r.M + r.L) + i) q) s.2.2.toNat (s.1, 1, 0)).1 then [s.1] else [], (takeR (r.put (2 * (r.M + r.L) + i) q) s.2.2.toNat (s.1, 1, 0)).2)
def sigR (r : R8) (t n : Int) : List Int × Int × R8 :=
  if askedR r t (inR n r.C) ≠ 0 then ([], askedR r t (inR n r.C), r) else ((letR r n.toNat).1, 0, (letR r n.toNat).2)
def letNR : Nat → R8 → Nat → List Int × R8
  | 0, r, _ => ([], r)
  | k + 1, r, i => ((letR r i).1 ++ (letNR k (letR r i).2 i).1, (letNR k (letR r i).2 i).2)
def broR (r : R8) (t n : Int) : List Int × Int × R8 :=
  if askedR r t (inR n r.C) ≠ 0 then ([], askedR r t (inR n r.C), r) else
  ((letNR (r.row (2 * (r.M + r.L) + n.toNat)).length r n.toNat).1, 0, (letNR (r.row (2 * (r.M + r.L) + n.toNat)).length r n.toNat).2)
def addR (r : R8) (t n by_ : Int) : Int × Int × R8 :=
  if askedR r t (inR n r.ns.length) ≠ 0 then (0, askedR r t (inR n r.ns.length), r) else
  match r.ns[n.toNat]? with
  | none => (0, 0, r)
  | some m => (IntKind.wrap .i64 (m + by_), 0, { r with ns := r.ns.set n.toNat (IntKind.wrap .i64 (m + by_)) })
def mustR (r : R8) (task kind n m : Int) : Told × R8 :=
  if kind = 1 then (⟨(lockR r task n).1, [], 0, (lockR r task n).2.1⟩, (lockR r task n).2.2)
  else if kind = 2 then (⟨false, (unlockR r task n).1, 0, (unlockR r task n).2.1⟩, (unlockR r task n).2.2)
  else if kind = 3 then (⟨(takeLR r task n 3).1, [], 0, (takeLR r task n 3).2.1⟩, (takeLR r task n 3).2.2)
  else if kind = 4 then (⟨false, (giveLR r task n 3).1, 0, (giveLR r task n 3).2.1⟩, (giveLR r task n 3).2.2)
  else if kind = 5 then (⟨(takeLR r task n 5).1, [], 0, (takeLR r task n 5).2.1⟩, (takeLR r task n 5).2.2)
  else if kind = 6 then (⟨false, (giveLR r task n 5).1, 0, (giveLR r task n 5).2.1⟩, (giveLR r task n 5).2.2)
  else if kind = 7 then (⟨false, (waitR r task n m).1, 0, (waitR r task n m).2.1⟩, (waitR r task n m).2.2)
  else if kind = 8 then (⟨false, (sigR r task n).1, 0, (sigR r task n).2.1⟩, (sigR r task n).2.2)
  else if kind = 9 then (⟨false, (broR r task n).1, 0, (broR r task n).2.1⟩, (broR r task n).2.2)
  else if kind = 10 then (⟨false, [], (addR r task n m).1, (addR r task n m).2.1⟩, (addR r task n m).2.2)
  else (⟨false, [], 0, 0⟩, r)
/-! # the queues, and the map of those that wait -/
def ent (M L j : Nat) (x : Wt) : W3 := if j < M then (x.task, 1, (j : Int)) else if j < M + L then (x.task, if x.write then 5 else 3, ((j - M : Nat) : Int)) else (x.task, 7, ((j - M - L : Nat) : Int))
def trW (M L j : Nat) (x : Wt) : W3 := (x.task, if j < M then 1 else if j < M + L then (if x.write then 5 else 3) else 7, if j < M + L then 0 else x.mutex)
theorem ent_task (M L j : Nat) (x : Wt) : (ent M L j x).1 = x.task := by unfold ent; split <;> (try split) <;> rfl
theorem ent_inj {M L j j' : Nat} {x x' : Wt} (h : ent M L j x = ent M L j' x') : j = j' := by
  unfold ent at h
  have hk : ∀ b : Bool, (if b then (5 : Int) else 3) ≠ 1 ∧ (if b then (5 : Int) else 3) ≠ 7 := fun b => by cases b <;> decide
  by_cases h1 : j < M
  · rw [if_pos h1] at h
    by_cases h2 : j' < M
    · rw [if_pos h2] at h
      simp only [Prod.mk.injEq, true_and] at h; omega
    · rw [if_neg h2] at h
      split at h
      · simp only [Prod.mk.injEq] at h; exact absurd h.2.1.symm (hk _).1
      · simp only [Prod.mk.injEq] at h; omega
  · rw [if_neg h1] at h
    by_cases h2 : j' < M
    · rw [if_pos h2] at h
      split at h
      · simp only [Prod.mk.injEq] at h; exact absurd h.2.1 (hk _).1
      · simp only [Prod.mk.injEq] at h; omega
    · rw [if_neg h2] at h
      by_cases h3 : j < M + L
      · rw [if_pos h3] at h
        by_cases h4 : j' < M + L
        · rw [if_pos h4] at h; simp only [Prod.mk.injEq] at h; omega
        · rw [if_neg h4] at h; simp only [Prod.mk.injEq] at h; exact absurd h.2.1 (hk _).2
      · rw [if_neg h3] at h
        by_cases h4 : j' < M + L
        · rw [if_pos h4] at h; simp only [Prod.mk.injEq] at h; exact absurd h.2.1.symm (hk _).2
        · rw [if_neg h4] at h; simp only [Prod.mk.injEq, true_and] at h; omega
def InQ (M L : Nat) (qs : List (List Wt)) (v : W3) : Prop := ∃ j q x, qs[j]? = some q ∧ x ∈ q ∧ ent M L j x = v
structure QW (M L : Nat) (qs : List (List Wt)) (wt : Int → Option W3) : Prop where
  tk : ∀ q ∈ qs, ∀ x ∈ q, 0 ≤ x.task ∧ x.task < 16
  key : ∀ t v, wt t = some v → v.1 = t
  iq : ∀ v, InQ M L qs v ↔ wt v.1 = some v
  nd : ∀ q ∈ qs, (q.map Wt.task).Nodup
section
variable {M L : Nat} {qs : List (List Wt)} {wt : Int → Option W3}
theorem QW.push (h : QW M L qs wt) {j : Nat} {q : List Wt} (hj : qs[j]? = some q) (x : Wt) (h0 : wt x.task = none) (ht : 0 ≤ x.task ∧ x.task < 16) : QW M L (qs.set j (q ++ [x])) (updF wt x.task (some (ent M L j x))) := by
  have free : ∀ {j' : Nat} {q' : List Wt} {y : Wt}, qs[j']? = some q' → y ∈ q' → y.task ≠ x.task := fun {j' q' y} hq hy e => by
    have := (h.iq (ent M L j' y)).1 ⟨j', q', y, hq, hy, rfl⟩
    rw [ent_task, e, h0] at this; cases this
  refine ⟨fun q' hq y hy => ?_, fun t v hv => ?_, fun v => ⟨fun ⟨j', q', y, hq, hy, he⟩ => ?_, fun hv => ?_⟩, fun q' hq => ?_⟩
  · rcases List.mem_or_eq_of_mem_set hq with hq | rfl
    · exact h.tk q' hq y hy
    · rcases List.mem_append.1 hy with hy | hy
      · exact h.tk q (List.mem_of_getElem? hj) y hy
      · simp at hy; subst hy; exact ht
  · unfold updF at hv
    split at hv
    · cases hv; rw [ent_task]; exact Eq.symm (by assumption)
    · exact h.key t v hv
  · rcases set_cases hq with ⟨rfl, rfl⟩ | ⟨hne, hq⟩
    · rcases List.mem_append.1 hy with hy | hy
      · have hx := free hj hy
        have := (h.iq v).1 ⟨j, q, y, hj, hy, he⟩
        rw [← he, ent_task] at this ⊢
        unfold updF; rw [if_neg hx]; exact this
      · simp at hy; subst hy
        rw [← he, ent_task]; unfold updF; rw [if_pos rfl]
    · have hx := free hq hy
      have := (h.iq v).1 ⟨j', q', y, hq, hy, he⟩
      rw [← he, ent_task] at this ⊢
      unfold updF; rw [if_neg hx]; exact this
  · unfold updF at hv
    split at hv
    · cases hv
      exact ⟨j, q ++ [x], x, List.getElem?_set_self (get_lt hj), by simp, rfl⟩
    · obtain ⟨j', q', y, hq, hy, he⟩ := (h.iq v).2 hv
      by_cases e : j = j'
      · subst e
        rw [hj] at hq; cases hq
        exact ⟨j, q ++ [x], y, List.getElem?_set_self (get_lt hj), by simp [hy], he⟩
      · exact ⟨j', q', y, by rw [List.getElem?_set_ne e]; exact hq, hy, he⟩
  · rcases List.mem_or_eq_of_mem_set hq with hq | rfl
    · exact h.nd q' hq
    · rw [List.map_append]
      refine List.nodup_append.2 ⟨h.nd q (List.mem_of_getElem? hj), by simp, fun a ha b hb => ?_⟩
      obtain ⟨y, hy, rfl⟩ := List.mem_map.1 ha
      simp at hb; subst hb
      exact free hj hy
theorem QW.pop (h : QW M L qs wt) {j : Nat} {x : Wt} {q : List Wt} (hj : qs[j]? = some (x :: q)) : QW M L (qs.set j q) (updF wt x.task none) := by
  have hx := (h.iq (ent M L j x)).1 ⟨j, x :: q, x, hj, by simp, rfl⟩
  rw [ent_task] at hx
  have hnd := h.nd _ (List.mem_of_getElem? hj)
  rw [List.map_cons, List.nodup_cons] at hnd
  have other : ∀ {j' : Nat} {q' : List Wt} {y : Wt}, j ≠ j' → qs[j']? = some q' → y ∈ q' → y.task ≠ x.task := fun {j' q' y} hne hq hy e => by
    have := (h.iq (ent M L j' y)).1 ⟨j', q', y, hq, hy, rfl⟩
    rw [ent_task, e, hx] at this
    exact hne (ent_inj (Option.some.inj this))
  refine ⟨fun q' hq y hy => ?_, fun t v hv => ?_, fun v => ⟨fun ⟨j', q', y, hq, hy, he⟩ => ?_, fun hv => ?_⟩, fun q' hq => ?_⟩
  · rcases List.mem_or_eq_of_mem_set hq with hq | rfl
    · exact h.tk q' hq y hy
    · exact h.tk _ (List.mem_of_getElem? hj) y (List.mem_cons_of_mem _ hy)
  · unfold updF at hv
    split at hv
    · cases hv
    · exact h.key t v hv
  · rcases set_cases hq with ⟨rfl, rfl⟩ | ⟨hne, hq⟩
    · have hyx : y.task ≠ x.task := fun e => hnd.1 (by rw [← e]; exact List.mem_map.2 ⟨y, hy, rfl⟩)
      have := (h.iq v).1 ⟨j, x :: q', y, hj, List.mem_cons_of_mem _ hy, he⟩
      rw [← he, ent_task] at this ⊢
      unfold updF; rw [if_neg hyx]; exact this
    · have hyx := other hne hq hy
      have := (h.iq v).1 ⟨j', q', y, hq, hy, he⟩
      rw [← he, ent_task] at this ⊢
      unfold updF; rw [if_neg hyx]; exact this
  · unfold updF at hv
    split at hv
    · cases hv
    · rename_i hne
      obtain ⟨j', q', y, hq, hy, he⟩ := (h.iq v).2 hv
      by_cases e : j = j'
      · subst e
        rw [hj] at hq; cases hq
        rcases List.mem_cons.1 hy with rfl | hy
        · exact absurd (by rw [← he, ent_task]) hne
        · exact ⟨j, q, y, List.getElem?_set_self (get_lt hj), hy, he⟩
      · exact ⟨j', q', y, by rw [List.getElem?_set_ne e]; exact hq, hy, he⟩
  · rcases List.mem_or_eq_of_mem_set hq with hq | rfl
    · exact h.nd q' hq
    · exact hnd.2
end
/-! # the relation -/
def hM (m : Mx) : List W3 := if m.owner = -1 then [] else [(m.owner, 1, 0)]
def hL (l : Lk) : List W3 := l.readers.map (fun t => ((t, 3, 0) : W3)) ++ if 0 ≤ l.writer then [(l.writer, 5, 0)] else []
def qrow (M L j : Nat) : Nat := if j < M + L then 2 * j + 1 else M + L + j
structure Rel (s : S8) (r : R8) : Prop where
  eM : r.M = s.ms.length
  eL : r.L = s.ls.length
  eC : r.C = s.cs.length
  en : r.ns = s.ns
  rl : r.rows.length = 2 * (s.ms.length + s.ls.length) + s.cs.length
  hm : ∀ (i : Nat) (m : Mx), s.ms[i]? = some m → r.rows[2 * i]? = some (hM m)
  hl : ∀ (i : Nat) (l : Lk), s.ls[i]? = some l → r.rows[2 * (s.ms.length + i)]? = some (hL l)
  q : ∀ (j : Nat) (q : List Wt), s.qs[j]? = some q → r.rows[qrow s.ms.length s.ls.length j]? = some (q.map (trW s.ms.length s.ls.length j))
structure WS (s : S8) : Prop where
  own : ∀ m ∈ s.ms, 0 ≤ m.owner ∨ (m.owner = -1 ∧ m.queue = [])
  wr : ∀ l ∈ s.ls, l.writer = -1 ∨ (0 ≤ l.writer ∧ l.readers = [])
  rd : ∀ l ∈ s.ls, l.readers.Nodup ∧ (∀ x ∈ l.queue, x.task ∉ l.readers) ∧ ∀ t ∈ l.readers, 0 ≤ t ∧ t < 16
  mu : ∀ q ∈ s.cs, ∀ x ∈ q, 0 ≤ x.mutex ∧ x.mutex < s.ms.length
  ho : ∀ m ∈ s.ms, m.owner < 16
  hw : ∀ l ∈ s.ls, l.writer < 16
  qw : QW s.ms.length s.ls.length s.qs s.wt
theorem qs_len (s : S8) : s.qs.length = s.ms.length + s.ls.length + s.cs.length := by simp [S8.qs]; omega
theorem qs_m {s : S8} {i : Nat} {m : Mx} (h : s.ms[i]? = some m) : s.qs[i]? = some m.queue := app_at (map_at (f := Mx.queue) h)
theorem qs_l {s : S8} {i : Nat} {l : Lk} (h : s.ls[i]? = some l) : s.qs[s.ms.length + i]? = some l.queue := by
  have := app_at2 (a := s.ms.map Mx.queue) (app_at (b := s.cs) (map_at (f := Lk.queue) h))
  simpa [S8.qs] using this
theorem qs_c {s : S8} {i : Nat} {q : List Wt} (h : s.cs[i]? = some q) : s.qs[s.ms.length + s.ls.length + i]? = some q := by
  have := app_at2 (a := s.ms.map Mx.queue) (app_at2 (a := s.ls.map Lk.queue) h)
  simpa [S8.qs, Nat.add_assoc] using this
theorem R8.row_of {r : R8} {j : Nat} {x : List W3} (h : r.rows[j]? = some x) : r.row j = x := by simp [R8.row, h]
end Full
end Go.Proofs.Ytibpbbjlecohiaa
set_option maxRecDepth 20000
namespace Go.Proofs.Ytibpbbjlecohiaa
namespace Full
open Go Go.Vc Go.RowKit
/-! # the document's answer is the program's: each call -/
section
variable {s : S8} {r : R8}
theorem inR_bad (n : Int) (k : Nat) : inR n k = !badN [(n, (k : Int))] := by
  rw [Bool.eq_iff_iff]
  simp [inR, badN]
theorem inR_bad2 (n m : Int) (k l : Nat) : (inR n k && inR m l) = !badN [(n, (k : Int)), (m, (l : Int))] := by
  rw [Bool.eq_iff_iff]
  simp [inR, badN, and_assoc]
theorem inR_nat {n : Int} {k : Nat} (h : inR n k = true) : n = (n.toNat : Int) ∧ n.toNat < k := by
  simp only [inR, Bool.and_eq_true, decide_eq_true_eq] at h
  omega
theorem waits_eq (h : Rel s r) (W : WS s) (t : Int) : waitsR r t = (s.wt t).isSome := by
  have some_of : ∀ {j : Nat} {q : List Wt} {x : Wt}, s.qs[j]? = some q → x ∈ q → x.task = t → (s.wt t).isSome = true := fun {j q x} hq hx e => by
    have := (W.qw.iq (ent s.ms.length s.ls.length j x)).1 ⟨j, q, x, hq, hx, rfl⟩
    rw [ent_task, e] at this
    rw [this]; rfl
  rw [Bool.eq_iff_iff]
  simp only [waitsR, Bool.or_eq_true, List.any_eq_true, List.mem_range, hasW, beq_iff_eq, h.eM, h.eL, h.eC]
  constructor
  · rintro (⟨k, hk, y, hy, e⟩ | ⟨k, hk, y, hy, e⟩ | ⟨k, hk, y, hy, e⟩)
    · obtain ⟨m, hm⟩ := get_ex (l := s.ms) hk
      have hr := h.q k _ (qs_m hm)
      rw [qrow, if_pos (by omega)] at hr
      rw [R8.row_of hr] at hy
      obtain ⟨x, hx, rfl⟩ := List.mem_map.1 hy
      exact some_of (qs_m hm) hx e
    · obtain ⟨l, hl⟩ := get_ex (l := s.ls) hk
      have hr := h.q _ _ (qs_l hl)
      rw [qrow, if_pos (by omega)] at hr
      rw [R8.row_of hr] at hy
      obtain ⟨x, hx, rfl⟩ := List.mem_map.1 hy
      exact some_of (qs_l hl) hx e
    · obtain ⟨q, hq⟩ := get_ex (l := s.cs) hk
      have hr := h.q _ _ (qs_c hq)
      rw [qrow, if_neg (by omega), show s.ms.length + s.ls.length + (s.ms.length + s.ls.length + k) = 2 * (s.ms.length + s.ls.length) + k by omega] at hr
      rw [R8.row_of hr] at hy
      obtain ⟨x, hx, rfl⟩ := List.mem_map.1 hy
      exact some_of (qs_c hq) hx e
  · intro hs
    obtain ⟨v, hv⟩ := Option.isSome_iff_exists.1 hs
    have hk := W.qw.key t v hv
    obtain ⟨j, q, x, hq, hx, he⟩ := (W.qw.iq v).2 (by rw [hk]; exact hv)
    have hxt : x.task = t := by rw [← hk, ← he, ent_task]
    have hr := h.q j q hq
    have hj := get_lt hq
    rw [qs_len] at hj
    have hmem : trW s.ms.length s.ls.length j x ∈ q.map (trW s.ms.length s.ls.length j) := List.mem_map.2 ⟨x, hx, rfl⟩
    by_cases h1 : j < s.ms.length
    · rw [qrow, if_pos (by omega)] at hr
      exact .inl ⟨j, h1, trW s.ms.length s.ls.length j x, by rw [R8.row_of hr]; exact hmem, hxt⟩
    by_cases h2 : j < s.ms.length + s.ls.length
    · rw [qrow, if_pos h2] at hr
      refine .inr (.inl ⟨j - s.ms.length, by omega, trW s.ms.length s.ls.length j x, ?_, hxt⟩)
      rw [show 2 * (s.ms.length + (j - s.ms.length)) + 1 = 2 * j + 1 by omega, R8.row_of hr]
      exact hmem
    · rw [qrow, if_neg h2] at hr
      refine .inr (.inr ⟨j - (s.ms.length + s.ls.length), by omega, trW s.ms.length s.ls.length j x, ?_, hxt⟩)
      rw [show 2 * (s.ms.length + s.ls.length) + (j - (s.ms.length + s.ls.length)) = s.ms.length + s.ls.length + j by omega, R8.row_of hr]
      exact hmem
theorem asked_eq (h : Rel s r) (W : WS s) (t : Int) {b : Bool} {ps : List (Int × Int)} (hb : b = !badN ps) : askedR r t b = askL t ps s.wt := by
  unfold askedR askL
  rw [waits_eq h W, hb]
  cases badN ps <;> rfl
/-! ## what turns -/
theorem sets_get {α : Type} {l : List α} {a b : Nat} {x y : α} (j : Nat) (ha : a < l.length) (hb : b < l.length) (hab : a ≠ b) : ((l.set a x).set b y)[j]? = if j = a then some x else if j = b then some y else l[j]? := by
  by_cases h1 : j = a
  · subst h1
    rw [if_pos rfl, List.getElem?_set_ne (Ne.symm hab), List.getElem?_set_self ha]
  · rw [if_neg h1]
    by_cases h2 : j = b
    · subst h2
      rw [if_pos rfl, List.getElem?_set_self (by rw [List.length_set]; exact hb)]
    · rw [if_neg h2, List.getElem?_set_ne (Ne.symm h2), List.getElem?_set_ne (Ne.symm h1)]
theorem qrow_lt {M L j : Nat} (h : j < M + L) : qrow M L j = 2 * j + 1 := if_pos h
theorem Rel.setM (h : Rel s r) {i : Nat} {m : Mx} (hi : s.ms[i]? = some m) (m' : Mx) (wt' : Int → Option W3) :
    Rel { s with ms := s.ms.set i m', wt := wt' } { r with rows := (r.rows.set (2 * i) (hM m')).set (2 * i + 1) (m'.queue.map (trW s.ms.length s.ls.length i)) } := by
  have hil := get_lt hi
  have hrl := h.rl
  have hqs : ({ s with ms := s.ms.set i m', wt := wt' } : S8).qs = s.qs.set i m'.queue := by
    show (s.ms.set i m').map Mx.queue ++ _ = _
    rw [List.map_set, S8.qs, app_set (by simpa using hil)]
  refine ⟨by simp [h.eM], h.eL, h.eC, h.en, by simpa using hrl, fun j m2 hj => ?_, fun j l hj => ?_, fun j q hj => ?_⟩
  · show ((r.rows.set _ _).set _ _)[_]? = _
    rw [sets_get _ (by omega) (by omega) (by omega)]
    rcases set_cases hj with ⟨rfl, rfl⟩ | ⟨hne, hj⟩
    · rw [if_pos rfl]
    · rw [if_neg (by omega), if_neg (by omega)]; exact h.hm j m2 hj
  · show ((r.rows.set _ _).set _ _)[2 * ((s.ms.set i m').length + j)]? = _
    rw [List.length_set, sets_get _ (by omega) (by omega) (by omega), if_neg (by omega), if_neg (by omega)]
    exact h.hl j l hj
  · rw [hqs] at hj
    show ((r.rows.set _ _).set _ _)[qrow (s.ms.set i m').length s.ls.length j]? = some (q.map (trW (s.ms.set i m').length s.ls.length j))
    rw [List.length_set, sets_get _ (by omega) (by omega) (by omega)]
    rcases set_cases hj with ⟨rfl, rfl⟩ | ⟨hne, hj⟩
    · rw [qrow_lt (by omega), if_neg (by omega), if_pos rfl]
    · have := get_lt hj
      rw [qs_len] at this
      rw [if_neg (by unfold qrow; split <;> omega), if_neg (by unfold qrow; split <;> omega)]
      exact h.q j q hj
theorem Rel.setL (h : Rel s r) {i : Nat} {l : Lk} (hi : s.ls[i]? = some l) (l' : Lk) (wt' : Int → Option W3) :
    Rel { s with ls := s.ls.set i l', wt := wt' } { r with rows := (r.rows.set (2 * (s.ms.length + i)) (hL l')).set (2 * (s.ms.length + i) + 1) (l'.queue.map (trW s.ms.length s.ls.length (s.ms.length + i))) } := by
  have hil := get_lt hi
  have hrl := h.rl
  have hqs : ({ s with ls := s.ls.set i l', wt := wt' } : S8).qs = s.qs.set (s.ms.length + i) l'.queue := by
    show s.ms.map Mx.queue ++ ((s.ls.set i l').map Lk.queue ++ s.cs) = _
    rw [List.map_set, S8.qs]
    have := app_set2 (a := s.ms.map Mx.queue) (b := s.ls.map Lk.queue ++ s.cs) (i := i) (y := l'.queue)
    rw [List.length_map] at this
    rw [this, app_set (by simpa using hil)]
  refine ⟨h.eM, by simp [h.eL], h.eC, h.en, by simpa using hrl, fun j m hj => ?_, fun j l2 hj => ?_, fun j q hj => ?_⟩
  · have := get_lt hj
    show ((r.rows.set _ _).set _ _)[_]? = _
    have hj : s.ms[j]? = some m := hj
    have := get_lt hj
    rw [sets_get _ (by omega) (by omega) (by omega), if_neg (by omega), if_neg (by omega)]
    exact h.hm j m hj
  · show ((r.rows.set _ _).set _ _)[2 * (s.ms.length + j)]? = _
    rw [sets_get _ (by omega) (by omega) (by omega)]
    rcases set_cases hj with ⟨rfl, rfl⟩ | ⟨hne, hj⟩
    · rw [if_pos rfl]
    · rw [if_neg (by omega), if_neg (by omega)]; exact h.hl j l2 hj
  · rw [hqs] at hj
    show ((r.rows.set _ _).set _ _)[qrow s.ms.length (s.ls.set i l').length j]? = some (q.map (trW s.ms.length (s.ls.set i l').length j))
    rw [List.length_set, sets_get _ (by omega) (by omega) (by omega)]
    rcases set_cases hj with ⟨rfl, rfl⟩ | ⟨hne, hj⟩
    · rw [qrow_lt (by omega), if_neg (by omega), if_pos rfl]
    · have := get_lt hj
      rw [qs_len] at this
      rw [if_neg (by unfold qrow; split <;> omega), if_neg (by unfold qrow; split <;> omega)]
      exact h.q j q hj
theorem Rel.setC (h : Rel s r) {i : Nat} {q : List Wt} (hi : s.cs[i]? = some q) (q' : List Wt) (wt' : Int → Option W3) :
    Rel { s with cs := s.cs.set i q', wt := wt' } { r with rows := r.rows.set (2 * (s.ms.length + s.ls.length) + i) (q'.map (trW s.ms.length s.ls.length (s.ms.length + s.ls.length + i))) } := by
  have hil := get_lt hi
  have hrl := h.rl
  have hqs : ({ s with cs := s.cs.set i q', wt := wt' } : S8).qs = s.qs.set (s.ms.length + s.ls.length + i) q' := by
    show s.ms.map Mx.queue ++ (s.ls.map Lk.queue ++ s.cs.set i q') = _
    rw [S8.qs]
    have e1 := app_set2 (a := s.ms.map Mx.queue) (b := s.ls.map Lk.queue ++ s.cs) (i := s.ls.length + i) (y := q')
    have e2 := app_set2 (a := s.ls.map Lk.queue) (b := s.cs) (i := i) (y := q')
    rw [List.length_map] at e1 e2
    rw [Nat.add_assoc, e1, e2]
  refine ⟨h.eM, h.eL, by simp [h.eC], h.en, by simpa using hrl, fun j m hj => ?_, fun j l2 hj => ?_, fun j z hj => ?_⟩
  · show (r.rows.set _ _)[_]? = _
    have hj : s.ms[j]? = some m := hj
    have := get_lt hj
    rw [List.getElem?_set_ne (by omega)]
    exact h.hm j m hj
  · show (r.rows.set _ _)[2 * (s.ms.length + j)]? = _
    have hj : s.ls[j]? = some l2 := hj
    have := get_lt hj
    rw [List.getElem?_set_ne (by omega)]
    exact h.hl j l2 hj
  · rw [hqs] at hj
    show (r.rows.set _ _)[qrow s.ms.length s.ls.length j]? = some (z.map (trW s.ms.length s.ls.length j))
    rcases set_cases hj with ⟨rfl, rfl⟩ | ⟨hne, hj⟩
    · rw [qrow, if_neg (by omega), show s.ms.length + s.ls.length + (s.ms.length + s.ls.length + i) = 2 * (s.ms.length + s.ls.length) + i by omega, List.getElem?_set_self (by omega)]
    · have := get_lt hj
      rw [qs_len] at this
      rw [List.getElem?_set_ne (by unfold qrow; split <;> omega)]
      exact h.q j z hj
theorem qs_setM (s : S8) (i : Nat) (m' : Mx) (wt' : Int → Option W3) (hil : i < s.ms.length) : ({ s with ms := s.ms.set i m', wt := wt' } : S8).qs = s.qs.set i m'.queue := by
  show (s.ms.set i m').map Mx.queue ++ _ = _
  rw [List.map_set, S8.qs, app_set (by simpa using hil)]
theorem qs_setL (s : S8) (i : Nat) (l' : Lk) (wt' : Int → Option W3) (hil : i < s.ls.length) : ({ s with ls := s.ls.set i l', wt := wt' } : S8).qs = s.qs.set (s.ms.length + i) l'.queue := by
  show s.ms.map Mx.queue ++ ((s.ls.set i l').map Lk.queue ++ s.cs) = _
  rw [List.map_set, S8.qs]
  have := app_set2 (a := s.ms.map Mx.queue) (b := s.ls.map Lk.queue ++ s.cs) (i := i) (y := l'.queue)
  rw [List.length_map] at this
  rw [this, app_set (by simpa using hil)]
theorem qs_setC (s : S8) (i : Nat) (q' : List Wt) (wt' : Int → Option W3) : ({ s with cs := s.cs.set i q', wt := wt' } : S8).qs = s.qs.set (s.ms.length + s.ls.length + i) q' := by
  show s.ms.map Mx.queue ++ (s.ls.map Lk.queue ++ s.cs.set i q') = _
  rw [S8.qs]
  have e1 := app_set2 (a := s.ms.map Mx.queue) (b := s.ls.map Lk.queue ++ s.cs) (i := s.ls.length + i) (y := q')
  have e2 := app_set2 (a := s.ls.map Lk.queue) (b := s.cs) (i := i) (y := q')
  rw [List.length_map] at e1 e2
  rw [Nat.add_assoc, e1, e2]
theorem WS.setM (W : WS s) {i : Nat} (hil : i < s.ms.length) {m' : Mx} {wt' : Int → Option W3} (ho : 0 ≤ m'.owner ∨ (m'.owner = -1 ∧ m'.queue = [])) (h16 : m'.owner < 16) (hq : QW s.ms.length s.ls.length (s.qs.set i m'.queue) wt') : WS { s with ms := s.ms.set i m', wt := wt' } := by
  refine ⟨fun m hm => ?_, W.wr, W.rd, fun q hq x hx => by simpa using W.mu q hq x hx, fun m hm => ?_, W.hw, ?_⟩
  · rcases List.mem_or_eq_of_mem_set hm with hm | rfl
    · exact W.own m hm
    · exact ho
  · rcases List.mem_or_eq_of_mem_set hm with hm | rfl
    · exact W.ho m hm
    · exact h16
  · rw [qs_setM s i m' wt' hil]
    simpa using hq
theorem WS.setL (W : WS s) {i : Nat} (hil : i < s.ls.length) {l' : Lk} {wt' : Int → Option W3} (hw : l'.writer = -1 ∨ (0 ≤ l'.writer ∧ l'.readers = [])) (hr : l'.readers.Nodup ∧ (∀ x ∈ l'.queue, x.task ∉ l'.readers) ∧ ∀ t ∈ l'.readers, 0 ≤ t ∧ t < 16) (h16 : l'.writer < 16) (hq : QW s.ms.length s.ls.length (s.qs.set (s.ms.length + i) l'.queue) wt') : WS { s with ls := s.ls.set i l', wt := wt' } := by
  refine ⟨W.own, fun l hl => ?_, fun l hl => ?_, W.mu, W.ho, fun l hl => ?_, ?_⟩
  · rcases List.mem_or_eq_of_mem_set hl with hl | rfl
    · exact W.wr l hl
    · exact hw
  · rcases List.mem_or_eq_of_mem_set hl with hl | rfl
    · exact W.rd l hl
    · exact hr
  · rcases List.mem_or_eq_of_mem_set hl with hl | rfl
    · exact W.hw l hl
    · exact h16
  · rw [qs_setL s i l' wt' hil]
    simpa using hq
theorem WS.setC (W : WS s) {i : Nat} {q' : List Wt} {wt' : Int → Option W3} (hm : ∀ x ∈ q', 0 ≤ x.mutex ∧ x.mutex < s.ms.length) (hq : QW s.ms.length s.ls.length (s.qs.set (s.ms.length + s.ls.length + i) q') wt') : WS { s with cs := s.cs.set i q', wt := wt' } := by
  refine ⟨W.own, W.wr, W.rd, fun q hqm x hx => ?_, W.ho, W.hw, ?_⟩
  · rcases List.mem_or_eq_of_mem_set hqm with h | rfl
    · exact W.mu q h x hx
    · exact hm x hx
  · rw [qs_setC s i q' wt']
    exact hq
/-! ## mutexes -/
theorem hM_held {m : Mx} {t : Int} (ht : 0 ≤ t) : heldW (hM m) t 0 = (m.owner == t) := by
  unfold hM
  by_cases h : m.owner = -1
  · rw [if_pos h, h]
    have : ((-1 : Int) == t) = false := by simp; omega
    rw [this]; rfl
  · rw [if_neg h]
    simp [heldW]
theorem R8.put2 (r : R8) {i : Nat} {x y : List W3} (hx : r.rows[2 * i + 1]? = some y) : r.put (2 * i) x = { r with rows := (r.rows.set (2 * i) x).set (2 * i + 1) y } := by
  unfold R8.put
  congr 1
  rw [set_same (l := r.rows.set (2 * i) x)]
  rw [List.getElem?_set_ne (by omega)]; exact hx
theorem R8.put1 (r : R8) {i : Nat} {x y : List W3} (hx : r.rows[2 * i]? = some y) : r.put (2 * i + 1) x = { r with rows := (r.rows.set (2 * i) y).set (2 * i + 1) x } := by
  unfold R8.put
  rw [set_same hx]
structure Sim (s : S8) (r : R8) : Prop where
  rel : Rel s r
  ws : WS s
theorem Rel.mrow (h : Rel s r) {i : Nat} {m : Mx} (hi : s.ms[i]? = some m) : r.rows[2 * i]? = some (hM m) ∧ r.rows[2 * i + 1]? = some (m.queue.map (trW s.ms.length s.ls.length i)) := by
  refine ⟨h.hm i m hi, ?_⟩
  have := h.q i _ (qs_m hi)
  rw [qrow, if_pos (by have := get_lt hi; omega)] at this
  exact this
theorem Rel.lrow (h : Rel s r) {i : Nat} {l : Lk} (hi : s.ls[i]? = some l) : r.rows[2 * (s.ms.length + i)]? = some (hL l) ∧ r.rows[2 * (s.ms.length + i) + 1]? = some (l.queue.map (trW s.ms.length s.ls.length (s.ms.length + i))) := by
  refine ⟨h.hl i l hi, ?_⟩
  have := h.q _ _ (qs_l hi)
  rw [qrow, if_pos (by have := get_lt hi; omega)] at this
  exact this
theorem Rel.crow (h : Rel s r) {i : Nat} {q : List Wt} (hi : s.cs[i]? = some q) : r.rows[2 * (s.ms.length + s.ls.length) + i]? = some (q.map (trW s.ms.length s.ls.length (s.ms.length + s.ls.length + i))) := by
  have := h.q _ _ (qs_c hi)
  rw [qrow, if_neg (by omega), show s.ms.length + s.ls.length + (s.ms.length + s.ls.length + i) = 2 * (s.ms.length + s.ls.length) + i by omega] at this
  exact this
/-- a task takes a mutex, or waits -/
theorem takeM (h : Sim s r) {i : Nat} {m : Mx} (hi : s.ms[i]? = some m) {t : Int} (ht : 0 ≤ t ∧ t < 16) (hw : s.wt t = none) (x : Wt) (hx : x.task = t) :
    (m.owner = -1 → takeR r i (t, 1, 0) = (true, { r with rows := (r.rows.set (2 * i) (hM ⟨t, m.queue⟩)).set (2 * i + 1) (m.queue.map (trW s.ms.length s.ls.length i)) }) ∧ Sim { s with ms := s.ms.set i ⟨t, m.queue⟩ } (takeR r i (t, 1, 0)).2) ∧
    (m.owner ≠ -1 → (takeR r i (t, 1, 0)).1 = false ∧ Sim { s with ms := s.ms.set i ⟨m.owner, m.queue ++ [x]⟩, wt := updF s.wt t (some (t, 1, (i : Int))) } (takeR r i (t, 1, 0)).2) := by
  have hil := get_lt hi
  obtain ⟨h0, h1⟩ := h.rel.mrow hi
  have htr : trW s.ms.length s.ls.length i x = (t, 1, 0) := by unfold trW; rw [if_pos hil, if_pos (by omega), hx]
  have hen : ent s.ms.length s.ls.length i x = (t, 1, (i : Int)) := by unfold ent; rw [if_pos hil, hx]
  refine ⟨fun ho => ?_, fun ho => ?_⟩
  · have hq : m.queue = [] := by
      rcases h.ws.own m (List.mem_of_getElem? hi) with h | h
      · omega
      · exact h.2
    have e : takeR r i (t, 1, 0) = (true, r.put (2 * i) (hM ⟨t, m.queue⟩)) := by
      unfold takeR
      rw [R8.row_of h0, R8.row_of h1, hq, if_pos ⟨rfl, by rw [hM, if_pos ho]; rfl⟩, hM, if_pos ho, hM, if_neg (by show t ≠ -1; omega)]
      rfl
    have e2 := R8.put2 r (i := i) (x := hM ⟨t, m.queue⟩) h1
    rw [e, e2]
    exact ⟨rfl, h.rel.setM hi ⟨t, m.queue⟩ s.wt, h.ws.setM hil (m' := ⟨t, m.queue⟩) (wt' := s.wt) (.inl ht.1) ht.2 (by show QW _ _ (s.qs.set i m.queue) _; rw [set_same (qs_m hi)]; exact h.ws.qw)⟩
  · have e : takeR r i (t, 1, 0) = (false, r.put (2 * i + 1) (m.queue.map (trW s.ms.length s.ls.length i) ++ [(t, 1, 0)])) := by
      unfold takeR
      rw [R8.row_of h0, R8.row_of h1, if_neg (by rintro ⟨_, hh⟩; rw [hM, if_neg ho] at hh; exact absurd hh (by simp [mayW]))]
    have e2 := R8.put1 r (i := i) (x := m.queue.map (trW s.ms.length s.ls.length i) ++ [(t, 1, 0)]) h0
    rw [e, e2]
    have e3 : m.queue.map (trW s.ms.length s.ls.length i) ++ [(t, 1, 0)] = (m.queue ++ [x]).map (trW s.ms.length s.ls.length i) := by rw [List.map_append]; simp [htr]
    rw [e3]
    refine ⟨rfl, h.rel.setM hi ⟨m.owner, m.queue ++ [x]⟩ (updF s.wt t (some (t, 1, (i : Int)))), h.ws.setM hil (m' := ⟨m.owner, m.queue ++ [x]⟩) ?_ (h.ws.ho m (List.mem_of_getElem? hi)) ?_⟩
    · rcases h.ws.own m (List.mem_of_getElem? hi) with h | h
      · exact .inl h
      · exact absurd h.1 ho
    · have := h.ws.qw.push (qs_m hi) x (by rw [hx]; exact hw) (by rw [hx]; exact ht)
      rw [hen, hx] at this
      exact this
theorem passW_m (a : Int) (l : List W3) : passW [(a, 1, 0)] l = ([], [(a, 1, 0)], l) := by
  cases l with
  | nil => rfl
  | cons y r => unfold passW; rw [if_neg (by simp [mayW])]
theorem handS (h : Sim s r) {i : Nat} {m : Mx} (hi : s.ms[i]? = some m) {t : Int} (ht : 0 ≤ t) (ho : m.owner = t) : (giveR r i t).1 = (handF s i m).1 ∧ Sim (handF s i m).2 (giveR r i t).2 := by
  have hil := get_lt hi
  obtain ⟨h0, h1⟩ := h.rel.mrow hi
  have hf : (hM m).filter (fun s => s.1 != t) = [] := by
    unfold hM
    rw [if_neg (by omega), ho]; simp
  unfold giveR handF
  rw [R8.row_of h0, R8.row_of h1, hf]
  cases hq : m.queue with
  | nil =>
    refine ⟨rfl, ?_⟩
    show Sim { s with ms := s.ms.set i ⟨-1, []⟩ } _
    exact ⟨h.rel.setM hi ⟨-1, []⟩ s.wt, h.ws.setM hil (m' := ⟨-1, []⟩) (wt' := s.wt) (.inr ⟨rfl, rfl⟩) (by show (-1 : Int) < 16; decide) (by show QW _ _ (s.qs.set i []) _; rw [← hq, set_same (qs_m hi)]; exact h.ws.qw)⟩
  | cons x xs =>
    have hxt : 0 ≤ x.task := (h.ws.qw.tk _ (List.mem_of_getElem? (qs_m hi)) x (by rw [hq]; simp)).1
    have htr : trW s.ms.length s.ls.length i x = (x.task, 1, 0) := by unfold trW; rw [if_pos hil, if_pos (by omega)]
    have e : passW [] ((x :: xs).map (trW s.ms.length s.ls.length i)) = ([x.task], [(x.task, 1, 0)], xs.map (trW s.ms.length s.ls.length i)) := by
      rw [List.map_cons, htr]
      unfold passW
      rw [if_pos (show mayW [] ((x.task, 1, 0) : W3) = true from rfl), List.nil_append, passW_m]
    rw [e]
    refine ⟨rfl, ?_, h.ws.setM hil (m' := ⟨x.task, xs⟩) (.inl hxt) (h.ws.qw.tk _ (List.mem_of_getElem? (qs_m hi)) x (by rw [hq]; simp)).2 ?_⟩
    · have := h.rel.setM hi ⟨x.task, xs⟩ (updF s.wt x.task none)
      rw [hM, if_neg (by show x.task ≠ -1; omega)] at this
      exact this
    · have hj := qs_m hi
      rw [hq] at hj
      exact h.ws.qw.pop hj
theorem ask_ok {t : Int} {ps : List (Int × Int)} (h0 : askL t ps s.wt = 0) : 0 ≤ t ∧ s.wt t = none := ⟨(askL_ok h0).1, (askL_ok h0).2.2.2⟩
theorem lock_sim (h : Sim s r) (t n : Int) : (lockR r t n).1 = (lockF s t n).1 ∧ (lockR r t n).2.1 = (lockF s t n).2.1 ∧ Sim (lockF s t n).2.2 (lockR r t n).2.2 := by
  have ea : askedR r t (inR n r.M) = askL t [(n, s.ms.length)] s.wt := by rw [h.rel.eM]; exact asked_eq h.rel h.ws t (inR_bad n _)
  unfold lockR lockF
  rw [ea]
  by_cases h0 : askL t [(n, s.ms.length)] s.wt = 0
  · have hne : ¬ (askL t [(n, (s.ms.length : Int))] s.wt ≠ 0) := by simp [h0]
    rw [if_neg hne, if_neg hne]
    obtain ⟨ht, ht16, hb, hw⟩ := askL_ok h0
    have hin : inR n s.ms.length = true := by rw [inR_bad, hb]; rfl
    obtain ⟨en, hn⟩ := inR_nat hin
    obtain ⟨m, hm⟩ := get_ex (l := s.ms) hn
    obtain ⟨h1, _⟩ := h.rel.mrow hm
    rw [R8.row_of h1, hM_held ht]
    simp only [hm]
    by_cases ho : m.owner = t
    · rw [if_pos (show (m.owner == t) = true by simpa using ho), if_pos ho]
      exact ⟨rfl, rfl, h⟩
    · rw [if_neg (show ¬ (m.owner == t) = true by simpa using ho), if_neg ho]
      obtain ⟨k1, k2⟩ := takeM h hm ⟨ht, ht16⟩ hw ⟨t, false, 0⟩ rfl
      by_cases hf : m.owner = -1
      · rw [if_pos hf]
        obtain ⟨a, b⟩ := k1 hf
        exact ⟨by rw [a], rfl, b⟩
      · rw [if_neg hf]
        obtain ⟨a, b⟩ := k2 hf
        rw [← en] at b
        exact ⟨a, rfl, b⟩
  · rw [if_pos h0, if_pos h0]
    exact ⟨rfl, rfl, h⟩
theorem unlock_sim (h : Sim s r) (t n : Int) : (unlockR r t n).1 = (unlockF s t n).1 ∧ (unlockR r t n).2.1 = (unlockF s t n).2.1 ∧ Sim (unlockF s t n).2.2 (unlockR r t n).2.2 := by
  have ea : askedR r t (inR n r.M) = askL t [(n, s.ms.length)] s.wt := by rw [h.rel.eM]; exact asked_eq h.rel h.ws t (inR_bad n _)
  unfold unlockR unlockF
  rw [ea]
  by_cases h0 : askL t [(n, s.ms.length)] s.wt = 0
  · have hne : ¬ (askL t [(n, (s.ms.length : Int))] s.wt ≠ 0) := by simp [h0]
    rw [if_neg hne, if_neg hne]
    obtain ⟨ht, _, hb, hw⟩ := askL_ok h0
    have hin : inR n s.ms.length = true := by rw [inR_bad, hb]; rfl
    obtain ⟨en, hn⟩ := inR_nat hin
    obtain ⟨m, hm⟩ := get_ex (l := s.ms) hn
    obtain ⟨h1, _⟩ := h.rel.mrow hm
    rw [R8.row_of h1, hM_held ht]
    simp only [hm]
    by_cases ho : m.owner = t
    · rw [if_neg (show ¬ (m.owner == t) = false by simp [ho]), if_neg (show ¬ (m.owner ≠ t) by simp [ho])]
      obtain ⟨a, b⟩ := handS h hm ht ho
      exact ⟨a, rfl, b⟩
    · rw [if_pos (show (m.owner == t) = false by simpa using ho), if_pos ho]
      exact ⟨rfl, rfl, h⟩
  · rw [if_pos h0, if_pos h0]
    exact ⟨rfl, rfl, h⟩
end
end Full
end Go.Proofs.Ytibpbbjlecohiaa
set_option maxRecDepth 20000
namespace Go.Proofs.Ytibpbbjlecohiaa
namespace Full
open Go Go.Vc Go.RowKit
/-! # where the document's latches lie -/
structure GR where
  qm : Option Addr
  cm : Nat
  q2 : Option Addr
  c2 : Nat
  q3 : Option Addr
  c3 : Nat
  q4 : Option Addr
  c4 : Nat
  hs : List Hd
theorem elemSt : ElemOk Try.prog 153 158 3 24 := ⟨Try.underlying153, .agg #[.int .i64 0, .int .i64 0, .int .i64 0], by kernel_rfl, rfl⟩
structure InvR (w : World) (base Q o : Nat) (g : GR) (r : R8) : Prop where
  obj : Blk w o 152 #[.bool true, .slice g.qm r.M g.cm, .slice g.q2 r.L g.c2, .slice g.q3 r.C g.c3, .slice g.q4 r.ns.length g.c4]
  bo : base ≤ o
  hl : g.hs.length = 2 * (r.M + r.L) + r.C
  mx : SE En.hd w base 155 g.qm (2 * r.M) (2 * g.cm) (g.hs.take (2 * r.M))
  lk : SE En.hd w base 155 g.q2 (2 * r.L) (2 * g.c2) ((g.hs.drop (2 * r.M)).take (2 * r.L))
  cd : SE En.hd w base 153 g.q3 r.C g.c3 (g.hs.drop (2 * (r.M + r.L)))
  ct : SE En.int w base 2 g.q4 r.ns.length g.c4 r.ns
  que : RowsE En.w3 w base 158 g.hs r.rows
  ap : ∀ b, qB g.qm = some b → qB g.q2 ≠ some b
  hq : tot r.rows ≤ Q
inductive OwnR (g : GR) (o : Nat) : Nat → Prop where
  | obj : OwnR g o o
  | mx {b : Nat} : qB g.qm = some b → OwnR g o b
  | lk {b : Nat} : qB g.q2 = some b → OwnR g o b
  | cd {b : Nat} : qB g.q3 = some b → OwnR g o b
  | ct {b : Nat} : qB g.q4 = some b → OwnR g o b
  | que {b : Nat} {h : Hd} : h ∈ g.hs → qB h.1 = some b → OwnR g o b
section
variable {w w' : World} {base Q Q' o : Nat} {g : GR} {r : R8}
theorem InvR.chg (h : InvR w base Q o g r) {S : Nat → Prop} (k : Chg S w w') (hS : ∀ b, S b → ¬ OwnR g o b) : InvR w' base Q o g r :=
  { h with
    obj := k.blk h.obj fun hs => hS _ hs .obj
    mx := h.mx.chg k fun _ hb hs => hS _ hs (.mx hb)
    lk := h.lk.chg k fun _ hb hs => hS _ hs (.lk hb)
    cd := h.cd.chg k fun _ hb hs => hS _ hs (.cd hb)
    ct := h.ct.chg k fun _ hb hs => hS _ hs (.ct hb)
    que := h.que.chg k fun _ hx _ hb hs => hS _ hs (.que hx hb) }
theorem InvR.chgN (h : InvR w base Q o g r) (k : Chg none_ w w') : InvR w' base Q o g r := h.chg k fun _ h => h.elim
theorem InvR.up (h : InvR w base Q o g r) (hQ : Q ≤ Q') : InvR w base Q' o g r := { h with hq := Nat.le_trans h.hq hQ }
/-- each of their blocks is there, and of one of their types -/
theorem InvR.own_blk (h : InvR w base Q o g r) {b : Nat} (hb : OwnR g o b) : ∃ t cs, Blk w b t cs ∧ (t = 152 ∨ t = 155 ∨ t = 153 ∨ t = 2 ∨ t = 158) ∧ base ≤ b := by
  cases hb with
  | obj => exact ⟨_, _, h.obj, .inl rfl, h.bo⟩
  | mx hq => obtain ⟨cs, B⟩ := h.mx.blk hq; exact ⟨_, _, B, .inr (.inl rfl), (h.mx.lt hq).2⟩
  | lk hq => obtain ⟨cs, B⟩ := h.lk.blk hq; exact ⟨_, _, B, .inr (.inl rfl), (h.lk.lt hq).2⟩
  | cd hq => obtain ⟨cs, B⟩ := h.cd.blk hq; exact ⟨_, _, B, .inr (.inr (.inl rfl)), (h.cd.lt hq).2⟩
  | ct hq => obtain ⟨cs, B⟩ := h.ct.blk hq; exact ⟨_, _, B, .inr (.inr (.inr (.inl rfl))), (h.ct.lt hq).2⟩
  | que hx hq =>
    obtain ⟨i, hi⟩ := List.getElem?_of_mem hx
    obtain ⟨xs, _, se⟩ := h.que.at' hi
    obtain ⟨cs, B⟩ := se.blk hq
    exact ⟨_, _, B, .inr (.inr (.inr (.inr rfl))), (se.lt hq).2⟩
theorem InvR.own_lt (h : InvR w base Q o g r) {b : Nat} (hb : OwnR g o b) : b < w.heap.size ∧ base ≤ b := by
  obtain ⟨t, cs, B, _, hb⟩ := h.own_blk hb
  exact ⟨B.lt, hb⟩
/-- a block of another type is none of theirs -/
theorem InvR.not_own (h : InvR w base Q o g r) {b : Nat} {t : TypeId} {cs : Array Value} (B : Blk w b t cs) (ht : t ≠ 152 ∧ t ≠ 155 ∧ t ≠ 153 ∧ t ≠ 2 ∧ t ≠ 158) : ¬ OwnR g o b := fun hb => by
  obtain ⟨t', cs', B', ht', _⟩ := h.own_blk hb
  have := (B.type B').1
  subst this
  rcases ht' with e | e | e | e | e
  · exact ht.1 e
  · exact ht.2.1 e
  · exact ht.2.2.1 e
  · exact ht.2.2.2.1 e
  · exact ht.2.2.2.2 e
structure StpR (o : Nat) (w : World) (g : GR) (w' : World) (g' : GR) : Prop where
  chg : Chg (OwnR g o) w w'
  grow : ∀ b, OwnR g' o b → OwnR g o b ∨ w.heap.size ≤ b
theorem StpR.refl (o : Nat) (w : World) (g : GR) : StpR o w g w g := ⟨Chg.refl _ _, fun _ h => .inl h⟩
theorem StpR.ofN {o : Nat} {w w' : World} {g : GR} (k : Chg none_ w w') : StpR o w g w' g := ⟨k.of_none _, fun _ h => .inl h⟩
theorem StpR.trans {o : Nat} {w w' w'' : World} {g g' g'' : GR} (h : StpR o w g w' g') (k : StpR o w' g' w'' g'') : StpR o w g w'' g'' :=
  ⟨h.chg.trans' k.chg fun b hb => h.grow b hb, fun b hb => by
    rcases k.grow b hb with h1 | h1
    · exact h.grow b h1
    · exact .inr (Nat.le_trans h.chg.size h1)⟩
theorem StpR.up {w0 w w' : World} {g' : GR} (h : StpR o w g w' g') (c : Chg none_ w0 w) (I : InvR w base Q o g r) (hb : w0.heap.size ≤ base) : Chg none_ w0 w' :=
  c.up h.chg fun _ hb' => Nat.le_trans hb (I.own_lt hb').2
theorem InvR.len (h : InvR w base Q o g r) {j : Nat} {xs : List W3} (hx : r.rows[j]? = some xs) : xs.length ≤ Q := Nat.le_trans (tot_at hx) h.hq
theorem InvR.rl (h : InvR w base Q o g r) : r.rows.length = 2 * (r.M + r.L) + r.C := by rw [← h.que.len, h.hl]
/-- where a row's head lies -/
def Loc (g : GR) (r : R8) (j : Nat) (p : Addr) : Prop :=
  (j < 2 * r.M ∧ ∃ a, g.qm = some a ∧ p = a.add j) ∨ (∃ i, i < 2 * r.L ∧ j = 2 * r.M + i ∧ ∃ a, g.q2 = some a ∧ p = a.add i) ∨ (∃ i, i < r.C ∧ j = 2 * (r.M + r.L) + i ∧ ∃ a, g.q3 = some a ∧ p = a.add i)
theorem hd_at {e : TypeId} {q : Option Addr} {l c : Nat} {hs : List Hd} (S : SE En.hd w base e q l c hs) {a : Addr} (ha : q = some a) {i : Nat} {hd : Hd} (hi : hs[i]? = some hd) : w.cell? (a.add i) = some (.slice hd.1 hd.2.1 hd.2.2) ∧ canStore w (a.add i) 1 := by
  obtain ⟨a', ha', hr⟩ := S.re.get i hd hi
  rw [ha] at ha'; cases ha'
  have hl := S.len
  obtain ⟨a', ha', hc⟩ := S.can (i := i) (by have := get_lt hi; omega)
  rw [ha] at ha'; cases ha'
  have c0 := reads_at hr (i := 0) rfl
  have c1 := hc 0 1 (by decide)
  rw [add_zero'] at c0 c1
  rw [show i * En.hd.k = i from Nat.mul_one i] at c0 c1
  exact ⟨c0, c1⟩
theorem InvR.row_at (h : InvR w base Q o g r) {j : Nat} {p : Addr} (hp : Loc g r j p) : ∃ hd xs, g.hs[j]? = some hd ∧ r.rows[j]? = some xs ∧ SE En.w3 w base 158 hd.1 hd.2.1 hd.2.2 xs ∧ w.cell? p = some (.slice hd.1 hd.2.1 hd.2.2) ∧ canStore w p 1 := by
  have hl := h.hl
  have hj : j < g.hs.length := by
    rcases hp with ⟨h1, _⟩ | ⟨i, h1, h2, _⟩ | ⟨i, h1, h2, _⟩ <;> omega
  obtain ⟨hd, hhd⟩ := get_ex hj
  obtain ⟨xs, hxs, S⟩ := h.que.at' hhd
  refine ⟨hd, xs, hhd, hxs, S, ?_⟩
  rcases hp with ⟨h1, a, ha, rfl⟩ | ⟨i, h1, h2, a, ha, rfl⟩ | ⟨i, h1, h2, a, ha, rfl⟩
  · exact hd_at h.mx ha (by rw [List.getElem?_take, if_pos h1]; exact hhd)
  · exact hd_at h.lk ha (by rw [List.getElem?_take, if_pos h1, List.getElem?_drop, ← h2]; exact hhd)
  · exact hd_at h.cd ha (by rw [List.getElem?_drop, ← h2]; exact hhd)
theorem hd_set {w' : World} {e : TypeId} {q : Option Addr} {l c : Nat} {hs : List Hd} (S : SE En.hd w base e q l c hs) {a : Addr} (ha : q = some a) {i : Nat} (hi : i < l) {h1 : Hd} (e1 : w' = setCells (a.add i) 0 [.slice h1.1 h1.2.1 h1.2.2] w) : SE En.hd w' base e q l c (hs.set i h1) ∧ Chg (fun k => some k = qB q) w w' :=
  S.set ha hi (by rw [show i * En.hd.k = i from Nat.mul_one i]; exact e1)
theorem rowsE_set' {α : Type} {E : En α} {w w' : World} {base : Nat} {e : TypeId} {hs : List Hd} {xss : List (List α)} (r : RowsE E w base e hs xss) {i : Nat} {h0 h1 : Hd} {ys : List α} (hi : hs[i]? = some h0) (k : Chg (fun g => some g = qB h0.1) w w') (n : SE E w' base e h1.1 h1.2.1 h1.2.2 ys) (hq : qB h1.1 = qB h0.1 ∨ ∀ b, qB h1.1 = some b → w.heap.size ≤ b) :
    RowsE E w' base e (hs.set i h1) (xss.set i ys) := by
  refine ⟨by simp [r.len], fun j h xs hj hx => ?_, fun j j' h h' g hj hj' hg hg' => ?_⟩
  · rcases set_cases hj with ⟨rfl, rfl⟩ | ⟨hne, hj⟩
    · rcases set_cases hx with ⟨_, rfl⟩ | ⟨hne, _⟩
      · exact n
      · exact absurd rfl hne
    · rcases set_cases hx with ⟨rfl, _⟩ | ⟨_, hx⟩
      · exact absurd rfl hne
      · exact (r.se j h xs hj hx).chg k fun g hg hk => hne (r.ap i j h0 h g hi hj hk.symm hg)
  · have old : ∀ {j : Nat} {h h' : Hd}, i ≠ j → hs[j]? = some h → h' = h1 → qB h.1 = some g → qB h'.1 = some g → False := fun {j h h'} hne hj he hg hg' => by
      rw [he] at hg'
      rcases hq with hq | hq
      · exact hne (r.ap i j h0 h g hi hj (hq ▸ hg') hg)
      · have h2 := hq g hg'
        obtain ⟨xs, _, s⟩ := r.at' hj
        have := (s.lt hg).1
        omega
    rcases set_cases hj with ⟨rfl, he⟩ | ⟨hne, hj⟩ <;> rcases set_cases hj' with ⟨h2, he'⟩ | ⟨hne', hj'⟩
    · exact h2
    · exact (old hne' hj' he hg' hg).elim
    · exact (old hne hj he' hg hg').elim
    · exact r.ap j j' h h' g hj hj' hg hg'
/-- a row made anew, and its head written -/
theorem InvR.set {w6 w7 : World} (h : InvR w base Q o g r) {j : Nat} {p : Addr} (hp : Loc g r j p) {h0 h1 : Hd} {xs ys : List W3} (hh : g.hs[j]? = some h0) (hx : r.rows[j]? = some xs) (k6 : Chg (fun b => some b = qB h0.1) w w6) (S6 : SE En.w3 w6 base 158 h1.1 h1.2.1 h1.2.2 ys) (hq : qB h1.1 = qB h0.1 ∨ ∀ b, qB h1.1 = some b → w.heap.size ≤ b)
    (e7 : w7 = setCells p 0 [.slice h1.1 h1.2.1 h1.2.2] w6) (hQ : Q + ys.length ≤ Q' + xs.length) : InvR w7 base Q' o { g with hs := g.hs.set j h1 } (r.put j ys) ∧ StpR o w g w7 { g with hs := g.hs.set j h1 } := by
  have S0 := h.que.se j h0 xs hh hx
  have ns : ∀ {α : Type} {E : En α} {e : TypeId} {q' : Option Addr} {l' c' : Nat} {zs : List α}, SE E w base e q' l' c' zs → e ≠ 158 → SE E w6 base e q' l' c' zs := fun S ht => S.chg k6 fun b hb e => S.ne2 S0 (Ne.symm ht) b hb e
  have O6 := k6.blk h.obj fun e => SE.ne S0 h.obj (by decide) _ e.symm rfl
  have mx6 := ns h.mx (by decide)
  have lk6 := ns h.lk (by decide)
  have cd6 := ns h.cd (by decide)
  have ct6 := ns h.ct (by decide)
  have R6 := rowsE_set' h.que hh k6 S6 hq
  have hQ' : tot (r.rows.set j ys) ≤ Q' := by have := tot_set (ys := ys) hx; have := h.hq; omega
  have hl := h.hl
  have c6 : Chg (OwnR g o) w w6 := k6.mono fun b _ hb => .que (List.mem_of_getElem? hh) hb.symm
  have grow : ∀ b, OwnR { g with hs := g.hs.set j h1 } o b → OwnR g o b ∨ w.heap.size ≤ b := fun b hb => by
    cases hb with
    | obj => exact .inl .obj
    | mx hb => exact .inl (.mx hb)
    | lk hb => exact .inl (.lk hb)
    | cd hb => exact .inl (.cd hb)
    | ct hb => exact .inl (.ct hb)
    | que hm hb =>
      rcases List.mem_or_eq_of_mem_set hm with hm | rfl
      · exact .inl (.que hm hb)
      · rcases hq with e | e
        · exact .inl (.que (List.mem_of_getElem? hh) (e ▸ hb))
        · exact .inr (e b hb)
  rcases hp with ⟨h1', a, ha, rfl⟩ | ⟨i, h1', rfl, a, ha, rfl⟩ | ⟨i, h1', rfl, a, ha, rfl⟩
  · obtain ⟨mx7, k7⟩ := hd_set mx6 ha h1' e7
    have keep : ∀ {α : Type} {E : En α} {e : TypeId} {q' : Option Addr} {l' c' : Nat} {zs : List α}, SE E w6 base e q' l' c' zs → e ≠ 155 → SE E w7 base e q' l' c' zs := fun S ht => S.chg k7 fun b hb e => S.ne2 mx6 (Ne.symm ht) b hb e
    refine ⟨⟨k7.blk O6 fun e => SE.ne mx6 O6 (by decide) _ e.symm rfl, h.bo, by rw [List.length_set]; exact hl, ?_, ?_, ?_, keep ct6 (by decide), R6.chgS mx6 (by decide) k7, h.ap, hQ'⟩, ⟨c6.trans (k7.mono fun b _ hb => .mx hb.symm), grow⟩⟩
    · show SE En.hd w7 base 155 g.qm (2 * r.M) (2 * g.cm) ((g.hs.set j h1).take (2 * r.M))
      rw [List.take_set]; exact mx7
    · show SE En.hd w7 base 155 g.q2 (2 * r.L) (2 * g.c2) (((g.hs.set j h1).drop (2 * r.M)).take (2 * r.L))
      rw [List.drop_set, if_pos h1']
      exact lk6.chg k7 fun b hb e => h.ap b e.symm hb
    · show SE En.hd w7 base 153 g.q3 r.C g.c3 ((g.hs.set j h1).drop (2 * (r.M + r.L)))
      rw [List.drop_set, if_pos (by omega)]
      exact keep cd6 (by decide)
  · obtain ⟨lk7, k7⟩ := hd_set lk6 ha h1' e7
    have keep : ∀ {α : Type} {E : En α} {e : TypeId} {q' : Option Addr} {l' c' : Nat} {zs : List α}, SE E w6 base e q' l' c' zs → e ≠ 155 → SE E w7 base e q' l' c' zs := fun S ht => S.chg k7 fun b hb e => S.ne2 lk6 (Ne.symm ht) b hb e
    refine ⟨⟨k7.blk O6 fun e => SE.ne lk6 O6 (by decide) _ e.symm rfl, h.bo, by rw [List.length_set]; exact hl, ?_, ?_, ?_, keep ct6 (by decide), R6.chgS lk6 (by decide) k7, h.ap, hQ'⟩, ⟨c6.trans (k7.mono fun b _ hb => .lk hb.symm), grow⟩⟩
    · show SE En.hd w7 base 155 g.qm (2 * r.M) (2 * g.cm) ((g.hs.set (2 * r.M + i) h1).take (2 * r.M))
      rw [List.take_set, List.set_eq_of_length_le (by rw [List.length_take]; omega)]
      exact mx6.chg k7 fun b hb e => h.ap b hb e.symm
    · show SE En.hd w7 base 155 g.q2 (2 * r.L) (2 * g.c2) (((g.hs.set (2 * r.M + i) h1).drop (2 * r.M)).take (2 * r.L))
      rw [List.drop_set, if_neg (by omega), List.take_set, Nat.add_sub_cancel_left]; exact lk7
    · show SE En.hd w7 base 153 g.q3 r.C g.c3 ((g.hs.set (2 * r.M + i) h1).drop (2 * (r.M + r.L)))
      rw [List.drop_set, if_pos (by omega)]
      exact keep cd6 (by decide)
  · obtain ⟨cd7, k7⟩ := hd_set cd6 ha h1' e7
    have keep : ∀ {α : Type} {E : En α} {e : TypeId} {q' : Option Addr} {l' c' : Nat} {zs : List α}, SE E w6 base e q' l' c' zs → e ≠ 153 → SE E w7 base e q' l' c' zs := fun S ht => S.chg k7 fun b hb e => S.ne2 cd6 (Ne.symm ht) b hb e
    refine ⟨⟨k7.blk O6 fun e => SE.ne cd6 O6 (by decide) _ e.symm rfl, h.bo, by rw [List.length_set]; exact hl, ?_, ?_, ?_, keep ct6 (by decide), R6.chgS cd6 (by decide) k7, h.ap, hQ'⟩, ⟨c6.trans (k7.mono fun b _ hb => .cd hb.symm), grow⟩⟩
    · show SE En.hd w7 base 155 g.qm (2 * r.M) (2 * g.cm) ((g.hs.set (2 * (r.M + r.L) + i) h1).take (2 * r.M))
      rw [List.take_set, List.set_eq_of_length_le (by rw [List.length_take]; omega)]
      exact keep mx6 (by decide)
    · show SE En.hd w7 base 155 g.q2 (2 * r.L) (2 * g.c2) (((g.hs.set (2 * (r.M + r.L) + i) h1).drop (2 * r.M)).take (2 * r.L))
      rw [List.drop_set, if_neg (by omega), List.take_set, List.set_eq_of_length_le (by rw [List.length_take, List.length_drop]; omega)]
      exact keep lk6 (by decide)
    · show SE En.hd w7 base 153 g.q3 r.C g.c3 ((g.hs.set (2 * (r.M + r.L) + i) h1).drop (2 * (r.M + r.L)))
      rw [List.drop_set, if_neg (by omega), Nat.add_sub_cancel_left]; exact cd7
theorem InvR.can6 {w6 : World} (h : InvR w base Q o g r) {j : Nat} {p : Addr} (hp : Loc g r j p) {h0 : Hd} {xs : List W3} (hh : g.hs[j]? = some h0) (hx : r.rows[j]? = some xs) (k6 : Chg (fun b => some b = qB h0.1) w w6) : canStore w6 p 1 := by
  have S0 := h.que.se j h0 xs hh hx
  have ns : ∀ {α : Type} {E : En α} {e : TypeId} {q' : Option Addr} {l' c' : Nat} {zs : List α}, SE E w base e q' l' c' zs → e ≠ 158 → SE E w6 base e q' l' c' zs := fun S ht => S.chg k6 fun b hb e => S.ne2 S0 (Ne.symm ht) b hb e
  rcases hp with ⟨h1, a, ha, rfl⟩ | ⟨i, h1, h2, a, ha, rfl⟩ | ⟨i, h1, h2, a, ha, rfl⟩
  · exact (hd_at (ns h.mx (by decide)) ha (by rw [List.getElem?_take, if_pos h1]; exact hh)).2
  · exact (hd_at (ns h.lk (by decide)) ha (by rw [List.getElem?_take, if_pos h1, List.getElem?_drop, ← h2]; exact hh)).2
  · exact (hd_at (ns h.cd (by decide)) ha (by rw [List.getElem?_drop, ← h2]; exact hh)).2
/-- a row made anew, to be written -/
theorem InvR.put {w6 : World} (h : InvR w base Q o g r) {j : Nat} {p : Addr} (hp : Loc g r j p) {h0 h1 : Hd} {xs ys : List W3} (hh : g.hs[j]? = some h0) (hx : r.rows[j]? = some xs) (k6 : Chg (fun b => some b = qB h0.1) w w6) (S6 : SE En.w3 w6 base 158 h1.1 h1.2.1 h1.2.2 ys) (hq : qB h1.1 = qB h0.1 ∨ ∀ b, qB h1.1 = some b → w.heap.size ≤ b)
    (hQ : Q + ys.length ≤ Q' + xs.length) {C : World → Prop} (hC : ∀ w7, InvR w7 base Q' o { g with hs := g.hs.set j h1 } (r.put j ys) → StpR o w g w7 { g with hs := g.hs.set j h1 } → Chg (fun b => b = p.block) w6 w7 → C w7) :
    canStore w6 p 1 ∧ ∀ w7, w7 = setCells p 0 [.slice h1.1 h1.2.1 h1.2.2] w6 → C w7 :=
  ⟨h.can6 hp hh hx k6, fun w7 e7 => by
    obtain ⟨a, b⟩ := h.set hp hh hx k6 S6 hq e7 hQ
    exact hC w7 a b ((Chg.refl _ w6).sets' e7 (.inl rfl))⟩
/-- where a mutex, or a lock, lies -/
def At (g : GR) (r : R8) (k : Nat) (p : Addr) : Prop :=
  (k < r.M ∧ ∃ a, g.qm = some a ∧ p = a.add (k * 2)) ∨ (∃ i, i < r.L ∧ k = r.M + i ∧ ∃ a, g.q2 = some a ∧ p = a.add (i * 2))
theorem At.loc {k : Nat} {p : Addr} (h : At g r k p) : Loc g r (2 * k) p ∧ Loc g r (2 * k + 1) (p.add 1) := by
  rcases h with ⟨h1, a, ha, rfl⟩ | ⟨i, h1, rfl, a, ha, rfl⟩
  · exact ⟨.inl ⟨by omega, a, ha, by rw [Nat.mul_comm]⟩, .inl ⟨by omega, a, ha, by rw [Addr.add_add, Nat.mul_comm]⟩⟩
  · exact ⟨.inr (.inl ⟨2 * i, by omega, by omega, a, ha, by rw [Nat.mul_comm]⟩), .inr (.inl ⟨2 * i + 1, by omega, by omega, a, ha, by rw [Addr.add_add, Nat.mul_comm]⟩)⟩
theorem R8.row_put (r : R8) {j : Nat} {x : List W3} (hj : j < r.rows.length) : (r.put j x).row j = x := by simp [R8.row, R8.put, hj]
theorem R8.row_put_ne (r : R8) {j i : Nat} {x : List W3} (hj : j ≠ i) : (r.put j x).row i = r.row i := by simp [R8.row, R8.put, List.getElem?_set_ne hj]
end
end Full
end Go.Proofs.Ytibpbbjlecohiaa
set_option maxRecDepth 20000
namespace Go.Proofs.Ytibpbbjlecohiaa
namespace Full
open Go Go.Vc Go.RowKit
/-! # the document's small functions -/
theorem any_no {α : Type} {p : α → Bool} {l : List α} (h : ∀ (j : Nat) (y : α), l[j]? = some y → p y = false) : l.any p = false := by
  rw [List.any_eq_false]
  intro y hy
  obtain ⟨j, hj⟩ := List.getElem?_of_mem hy
  simp [h j y hj]
theorem any_yes {α : Type} {p : α → Bool} {l : List α} {j : Nat} {y : α} (hj : l[j]? = some y) (h : p y = true) : l.any p = true := List.any_eq_true.2 ⟨y, List.mem_of_getElem? hj, h⟩
theorem reads2 {w : World} {p : Addr} {a b : Value} (h0 : w.cell? p = some a) (h1 : w.cell? (p.add 1) = some b) : reads w p [a, b] := fun j v hj => by
  rcases j with _ | _ | j
  · cases hj; rw [add_zero']; exact h0
  · cases hj; exact h1
  · simp at hj
section
variable {w w' : World} {base Q o : Nat} {g : GR} {r : R8}
theorem has78 {q : Option Addr} {l c : Nat} {xs : List W3} (H : RE En.w3 w q l xs) (hl : l ≤ 1000000000000000000) (t : Int) :
    Calls Try.prog 78 #[.slice q l c, .int .i64 t] w (Ret fun v w' => v = .bool (hasW xs t) ∧ Chg none_ w w') := by
  have hlen := H.len
  refine f78.calls _ _ _ _ ?_
  unfold f78.wp
  refine ⟨fun x w' => ∃ i : Nat, x = (i : Int) ∧ i ≤ l ∧ (∀ (j : Nat) (y : W3), j < i → xs[j]? = some y → (y.1 == t) = false) ∧ Chg none_ w w', fun x _ => l - x.toNat, ⟨0, rfl, Nat.zero_le _, fun j y hj => by omega, Chg.refl _ _⟩, ?_⟩
  rintro _ w1 ⟨i, rfl, hi, hin, k1⟩
  refine bc (fun h => ?_) fun h => ?_
  · have h : i < l := by have := of_decide_eq_true h; omega
    obtain ⟨a, x, ha, hx, hr⟩ := (H.chg k1).ex h
    rw [wrapS (x := (i : Int) + 1) (by omega) (by omega)]
    subst ha
    refine onPtr_mk ⟨by omega, by omega, _, _, _, hr, boxed rfl rfl fun w3 B3 k3 _ => ⟨_, (B3.cell 0).trans rfl, bc (fun he => ⟨?_, k1.trans k3⟩) fun he => ⟨⟨i + 1, by omega, h, fun j y hj hy => ?_, k1.trans k3⟩, meas h⟩⟩⟩
    · rw [hasW, any_yes hx he]
    · rcases Nat.lt_or_ge j i with h' | h'
      · exact hin j y h' hy
      · have : j = i := by omega
        subst this
        rw [hx] at hy; cases hy; exact he
  · have h : i = l := by have := of_decide_eq_false h; omega
    subst h
    exact ⟨by rw [hasW, any_no fun j y hy => hin j y (by have := get_lt hy; omega) hy], k1⟩
theorem held80 {q q' : Option Addr} {l c l' c' : Nat} {xs : List W3} (H : RE En.w3 w q l xs) (hl : l ≤ 1000000000000000000) (t k : Int) :
    Calls Try.prog 80 #[.agg #[.slice q l c, .slice q' l' c'], .int .i64 t, .int .i64 k] w (Ret fun v w' => v = .bool (heldW xs t k) ∧ Chg none_ w w') := by
  have hlen := H.len
  refine f80.calls _ _ _ _ _ _ _ _ ?_
  unfold f80.wp
  refine newBox fun w1 B1 k1 _ => ⟨_, _, _, (B1.cell 0).trans rfl, fun x w' => ∃ i : Nat, x = (i : Int) ∧ i ≤ l ∧ (∀ (j : Nat) (y : W3), j < i → xs[j]? = some y → (y.1 == t && (k == 0 || y.2.1 == k)) = false) ∧ Chg none_ w w', fun x _ => l - x.toNat, ⟨0, rfl, Nat.zero_le _, fun j y hj => by omega, k1⟩, ?_⟩
  rintro _ w2 ⟨i, rfl, hi, hin, k2⟩
  refine bc (fun h => ?_) fun h => ?_
  · have h : i < l := by have := of_decide_eq_true h; omega
    obtain ⟨a, x, ha, hx, hr⟩ := (H.chg k2).ex h
    rw [wrapS (x := (i : Int) + 1) (by omega) (by omega)]
    subst ha
    have yes : ∀ {w'}, (x.1 == t && (k == 0 || x.2.1 == k)) = true → Chg none_ w w' → Value.bool true = .bool (heldW xs t k) ∧ Chg none_ w w' := fun {w'} he k' => ⟨by rw [heldW, any_yes hx he], k'⟩
    have no : ∀ {w'}, (x.1 == t && (k == 0 || x.2.1 == k)) = false → Chg none_ w w' → (∃ i' : Nat, (i : Int) + 1 = (i' : Int) ∧ i' ≤ l ∧ (∀ (j : Nat) (y : W3), j < i' → xs[j]? = some y → (y.1 == t && (k == 0 || y.2.1 == k)) = false) ∧ Chg none_ w w') ∧ l - ((i : Int) + 1).toNat < l - ((i : Int)).toNat := fun {w'} he k' => by
      refine ⟨⟨i + 1, by omega, h, fun j y hj hy => ?_, k'⟩, meas h⟩
      rcases Nat.lt_or_ge j i with h' | h'
      · exact hin j y h' hy
      · have : j = i := by omega
        subst this
        rw [hx] at hy; cases hy; exact he
    refine onPtr_mk ⟨by omega, by omega, _, _, _, hr, boxed rfl rfl fun w3 B3 k3 _ => ⟨_, (B3.cell 0).trans rfl, bc (fun he => bc (fun h0 => yes (by rw [he, h0]; rfl) (k2.trans k3)) fun h0 => ⟨_, (B3.cell0 1).trans rfl, bc (fun h1 => yes (by rw [he, h1]; simp) (k2.trans k3)) fun h1 => no (by rw [h0, h1]; simp) (k2.trans k3)⟩) fun he => no (by rw [he]; rfl) (k2.trans k3)⟩⟩
  · have h : i = l := by have := of_decide_eq_false h; omega
    subst h
    exact ⟨by rw [heldW, any_no fun j y hy => hin j y (by have := get_lt hy; omega) hy], k2⟩
theorem may115 {q q' : Option Addr} {l c l' c' : Nat} {xs : List W3} (H : RE En.w3 w q l xs) (s : W3) :
    Calls Try.prog 115 #[.agg #[.slice q l c, .slice q' l' c'], .agg #[.int .i64 s.1, .int .i64 s.2.1, .int .i64 s.2.2]] w (Ret fun v w' => v = .bool (mayW xs s) ∧ Chg none_ w w') := by
  have hlen := H.len
  refine f115.calls _ _ _ _ _ _ _ _ _ ?_
  unfold f115.wp
  refine newBox fun w1 B1 k1 _ => newBox fun w2 B2 k2 _ => ?_
  have k02 := k1.trans k2
  have A2 := k2.blk B1 (fun x => x)
  refine ⟨_, _, _, (A2.cell 0).trans rfl, bc (fun h => ⟨?_, k02⟩) fun h => ?_⟩
  · have : xs = [] := List.eq_nil_of_length_eq_zero (by have := eq_of_beq h; omega)
    rw [this]; rfl
  · have h : 0 < l := by rcases Nat.eq_zero_or_pos l with e | e; · subst e; simp at h
                         exact e
    obtain ⟨a, x, ha, hx, hr⟩ := (H.chg k02).ex h
    obtain ⟨x', rest, rfl⟩ : ∃ x' rest, xs = x' :: rest := by
      cases xs with
      | nil => simp at hx
      | cons a b => exact ⟨a, b, rfl⟩
    cases hx
    refine ⟨_, (B2.cell0 1).trans rfl, bc (fun h3 => ⟨_, _, _, (A2.cell 0).trans rfl, ?_⟩) fun h3 => ⟨?_, k02⟩⟩
    · subst ha
      refine onPtr_mk ⟨by decide, by omega, _, reads_at hr (i := 1) rfl, ?_, k02⟩
      rw [mayW, h3]; rfl
    · rw [mayW, h3]; rfl
theorem keepsC {S : Nat → Prop} {w w' : World} (k : Chg S w w') : Keeps (fun p => p.block < w.heap.size ∧ ¬ S p.block) w w' := fun _ hp => k.cell hp.1 hp.2
theorem InvR.loc_ne (h : InvR w base Q o g r) {j : Nat} {p : Addr} (hp : Loc g r j p) {b' : Nat} {q : Option Addr} {l c : Nat} {xs : List W3} (S0 : SE En.w3 w b' 158 q l c xs) : ¬ some p.block = qB q := by
  rcases hp with ⟨_, a, ha, rfl⟩ | ⟨i, _, _, a, ha, rfl⟩ | ⟨i, _, _, a, ha, rfl⟩
  · rw [add_block]; exact h.mx.ne2 S0 (by decide) a.block (by rw [ha]; rfl)
  · rw [add_block]; exact h.lk.ne2 S0 (by decide) a.block (by rw [ha]; rfl)
  · rw [add_block]; exact h.cd.ne2 S0 (by decide) a.block (by rw [ha]; rfl)
/-- a row gets one more -/
theorem InvR.push {W : World} {s : W3} {Q' : Nat} (h : InvR W base Q o g r) (hQ : Q ≤ 4398046511104) {j : Nat} {p : Addr} (hp : Loc g r j p) {h0 : Hd} {xs : List W3} (hh : g.hs[j]? = some h0) (hx : r.rows[j]? = some xs) (hQ' : Q + 1 ≤ Q') {t : Nat} (ht : W.heap.size = t) {C : World → Prop}
    (hC : ∀ w7 g', InvR w7 base Q' o g' (r.put j (xs ++ [s])) → StpR o W g w7 g' → (∃ h1, g' = { g with hs := g.hs.set j h1 }) → Chg (fun b => some b = qB h0.1 ∨ b = p.block) W w7 → C w7) :
    ∀ w4, w4 = W.alloc (.cells #[.int .i64 s.1, .int .i64 s.2.1, .int .i64 s.2.2] 158) → Keeps (fun x => x.block < W.heap.size ∧ ¬ some x.block = qB h0.1) W w4 ∧
      ∃ (q5 : Option Addr) (l5 c5 : Nat), ∃ w5 : World, (Builtin.append_ #[153, 153] 153 #[.slice h0.1 h0.2.1 h0.2.2, .slice (some (⟨t, 0, none⟩ : Addr)) 1 1]).run Try.prog w4 = .ok (.slice q5 l5 c5) w5 ∧ Keeps (fun x => x.block < W.heap.size ∧ ¬ some x.block = qB h0.1) W w5 ∧
      (canStore w5 p 1 ∧ ∀ w7, w7 = setCells p 0 [.slice q5 l5 c5] w5 → C w7) := by
  subst ht
  have S0 := h.que.se j h0 xs hh hx
  have l0 := S0.len
  have lx := h.len hx
  have bw : base ≤ W.heap.size := Nat.le_trans h.bo (Nat.le_of_lt h.obj.lt)
  refine newBox fun w4 B4 k4 _ => ?_
  obtain ⟨q', c', w5, hrun, S5, k5, hq5, _⟩ := (S0.chgN k4).append1 (t := 153) (ty := 153) (x := s) elemSt B4 (by simp only [maxLen]; omega) (by show (h0.2.1 + 1) * 24 ≤ _; omega) (by have := k4.size; omega)
  have k45 : Chg (fun b => some b = qB h0.1) W w5 := (k4.of_none _).trans k5
  refine ⟨keepsC (S := fun b => some b = qB h0.1) (k4.of_none _), q', h0.2.1 + 1, c', w5, hrun, keepsC (S := fun b => some b = qB h0.1) k45, h.put (Q' := Q') hp hh hx k45 (h1 := ⟨q', h0.2.1 + 1, c'⟩) S5 ?_ (by simp; omega) fun w7 I7 st7 c7 => hC w7 _ I7 st7 ⟨_, rfl⟩ ((k45.mono fun _ _ h => .inl h).trans (c7.mono fun _ _ h => .inr h))⟩
  rcases hq5 with e | e
  · exact .inl e
  · exact .inr fun b hb => by rw [show qB q' = some b from hb] at e; cases e; exact k4.size
/-- a task takes a thing, or stands in its queue -/
theorem take97 (h : InvR w base Q o g r) (hQ : Q ≤ 4398046511104) {k : Nat} {p : Addr} (hp : At g r k p) (s : W3) :
    Calls Try.prog 97 #[.pointer (some p), .agg #[.int .i64 s.1, .int .i64 s.2.1, .int .i64 s.2.2]] w (Ret fun v w' => v = .bool (takeR r k s).1 ∧ ∃ g', InvR w' base (Q + 1) o g' (takeR r k s).2 ∧ StpR o w g w' g') := by
  obtain ⟨lh, lq⟩ := hp.loc
  obtain ⟨h0, xs, hh0, hx0, S0, c0, n0⟩ := h.row_at lh
  obtain ⟨h1, ys, hh1, hx1, S1, c1, n1⟩ := h.row_at lq
  have l1 := S1.len
  have T0 := S0
  have T1 := S1
  refine f97.calls _ _ _ _ ?_
  unfold f97.wp
  refine newBox fun w1 B1 k1 z1 => ⟨fun b w2 => b = decide (ys = [] ∧ mayW xs s = true) ∧ Chg none_ w w2 ∧ Blk w2 w.heap.size 158 #[.int .i64 s.1, .int .i64 s.2.1, .int .i64 s.2.2], ?_, ?_⟩
  · rintro b w2 ⟨hb, k2, B2⟩
    have k2 := k2.drew
    have B2 := B2.drew
    generalize w2.drew = W at *
    have hW := h.chgN k2
    obtain ⟨h0', xs', hh0', hx0', S0, c0, n0⟩ := hW.row_at lh
    rw [hh0] at hh0'; cases hh0'
    rw [hx0] at hx0'; cases hx0'
    obtain ⟨h1', ys', hh1', hx1', S1, c1, n1⟩ := hW.row_at lq
    rw [hh1] at hh1'; cases hh1'
    rw [hx1] at hx1'; cases hx1'
    have hK : ∀ {q : Option Addr} {l c : Nat} {zs : List W3} (j : Nat), SE En.w3 w base 158 q l c zs → (fun x : Addr => x.block < W.heap.size ∧ ¬ some x.block = qB q) ((⟨w.heap.size, 0, none⟩ : Addr).add j) := fun j S => by
      show (Addr.add _ _).block < _ ∧ ¬ some (Addr.add _ _).block = _
      rw [add_block]; exact ⟨B2.lt, fun e => by have := (S.lt e.symm).1; exact Nat.lt_irrefl _ this⟩
    refine bc (fun hb1 => ?_) fun hb1 => ?_
    · subst hb1
      have hc := of_decide_eq_true hb.symm
      have et : takeR r k s = (true, r.put (2 * k) (xs ++ [s])) := by unfold takeR; rw [R8.row_of hx0, R8.row_of hx1, if_pos hc]
      rw [et]
      exact ⟨fun x => x.block < W.heap.size ∧ ¬ some x.block = qB h0.1, onPtr_mk ⟨_, _, _, ⟨cell_some c0, hW.loc_ne lh S0⟩, c0, _, _, _, fun j _ => hK j T0, B2.reads0, hW.push hQ lh hh0 hx0 (Nat.le_refl _) rfl fun w7 g' I7 st7 _ _ => ⟨rfl, g', I7, (StpR.ofN k2).trans st7⟩⟩⟩
    · subst hb1
      have hc := of_decide_eq_false hb.symm
      have et : takeR r k s = (false, r.put (2 * k + 1) (ys ++ [s])) := by unfold takeR; rw [R8.row_of hx0, R8.row_of hx1, if_neg hc]
      rw [et]
      exact ⟨fun x => x.block < W.heap.size ∧ ¬ some x.block = qB h1.1, onPtr_mk ⟨_, _, _, ⟨cell_some c1, hW.loc_ne lq S1⟩, c1, _, _, _, fun j _ => hK j T1, B2.reads0, hW.push hQ lq hh1 hx1 (Nat.le_refl _) rfl fun w7 g' I7 st7 _ _ => ⟨rfl, g', I7, (StpR.ofN k2).trans st7⟩⟩⟩
  · have k1 := k1.drew
    have B1 := B1.drew
    generalize w1.drew = W at *
    have c0 := k1.cellS c0 (fun h => h)
    have c1 := k1.cellS c1 (fun h => h)
    refine onPtr_mk ⟨_, _, _, c1, bc (fun hb => ?_) fun hb => ⟨?_, k1, B1⟩⟩
    · have hy : ys = [] := List.eq_nil_of_length_eq_zero (by have := eq_of_beq hb; omega)
      refine onPtr_mk ⟨_, _, _, _, _, _, reads2 c0 c1, _, _, _, B1.reads0, Calls.use (may115 (S0.re.chg k1) s) ?_⟩
      rintro _ w3 ⟨rfl, k3⟩
      refine ⟨_, rfl, ?_, k1.trans k3, k3.blk B1 (fun x => x)⟩
      rw [hy]; simp
    · have : ys ≠ [] := fun e => by rw [e] at l1; have hb' : h1.2.1 = 0 := l1.symm; rw [hb'] at hb; simp at hb
      simp [this]
end
end Full
end Go.Proofs.Ytibpbbjlecohiaa
